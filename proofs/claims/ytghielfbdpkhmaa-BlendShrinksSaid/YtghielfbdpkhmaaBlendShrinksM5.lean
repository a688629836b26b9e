/- For the law BlendShrinks, part 5 of 6: the frame of the walk, the walks of the functions, the plain law, the row. No conditions. -/
import Derived.Test.YtghielfbdpkhmaaBlendShrinksM4
/- What Shrink answers, all of it; its rows while it works. -/
namespace Go.Fw
open Go.RowKit Go.Proofs.Ytghielfbdpkhmaa
theorem ACall.coldT {P : Program} {g : FuncId} {args : List AV} {H : AH} {K : AV → Prop}
    (h : ACall P g args H fun y H' => ∃ r1 r2 v1 v2 l1 l2 b, H r1 = none ∧ H r2 = none ∧ r1 ≠ r2 ∧ y = .tup [.agg [.int .i64 b, .sl r1 v1 1 0 l1.length none, .sl r2 v2 1 0 l2.length none], .int .i64 0] ∧
      HLe ((H.set r1 (.row (iS .i64 l1) v1)).set r2 (.row (iS .i64 l2) v2)) H' ∧ K (.tup [.agg [.int .i64 b, .cs (iS .i64 l1) l1.length, .cs (iS .i64 l2) l2.length], .int .i64 0])) :
    ACall P g args H fun y H' => K y ∧ H' = H := by
  refine ⟨h.ent, fun κ F B w0 w cargs hI hA => (h.run κ F B w0 w cargs hI hA).mono ?_⟩
  rintro e w' ⟨x, he, y, H', κ', F', k1, k2, I, hv, r1, r2, v1, v2, l1, l2, b, hr1, hr2, hne, rfl, hle, hK⟩
  have I := I.less hle.le
  obtain ⟨F1, hF1, I1, ha1⟩ := I.coolAll (r := r2) (v := v2) (cells := iS .i64 l2) (AH.set_same _ _ _)
  rw [AH.del_set _ _ _ (by rw [AH.set_ne _ _ (Ne.symm hne)]; exact hr2)] at I1
  obtain ⟨F2, hF2, I2, ha2⟩ := I1.coolAll (r := r1) (v := v1) (cells := iS .i64 l1) (AH.set_same _ _ _)
  rw [AH.del_set _ _ _ hr1] at I2
  refine ⟨x, he, _, H, κ', F2, k1, (k2.trans hF1).trans hF2, I2, ?_, hK, rfl⟩
  cases hv with
  | tup hsz hi =>
    refine .tup hsz fun i hi' => ?_
    match i, hi' with
    | 0, _ =>
      have h0 := hi 0 (by simp)
      simp only [List.getElem_cons_zero] at h0 ⊢
      generalize Array.getD _ _ _ = x0 at h0 ⊢
      cases h0 with
      | agg hA hj =>
        refine .agg hA fun j hj' => ?_
        match j, hj' with
        | 0, _ => have := hj 0 (by simp); simp only [List.getElem_cons_zero] at this ⊢; generalize Array.getD _ _ _ = x3 at this ⊢; cases this; exact .int _ _
        | 1, _ => exact ha2 _ _ _ _ _ (by simp) (hj 1 (by simp))
        | 2, _ => exact (ha1 _ _ _ _ _ (by simp) (hj 2 (by simp))).mono (KLe.refl _) hF2
    | 1, _ => have := hi 1 (by simp); simp only [List.getElem_cons_succ, List.getElem_cons_zero] at this ⊢; generalize Array.getD _ _ _ = x3 at this ⊢; cases this; exact .int _ _
end Go.Fw
namespace Go.Proofs.Ytghielfbdpkhmaa
open Go.Fw Go
set_option linter.unusedVariables false
set_option linter.unusedSimpArgs false

/-- The front of a row, frozen. -/
theorem AWp_freezeK {N : Nat} {P : Program} {ro : Option Nat} {ws : Nat → Bool} {c : Code} {K R : St → AH → Prop} {X : Nat → St → AH → Prop} {s : St} {G : AH} {r v n : Nat} {lim : Option Nat} {o : AO} (t : Nat) (A B : List Int)
    (hts : ws t = true) (he : s.e t = .sl r v 1 0 n lim) (hn : n = A.length) (hG : G r = none) (h : AWp (P := P) N ro ws c K R X ⟨retold [t] (.cs (iS .i64 A) A.length) s.e, s.d⟩ G) : AWp (P := P) N ro ws c K R X s ((G.set r o).set r (.row (iS .i64 (A ++ B)) v)) := by
  subst hn
  refine AWp_freeze (cells := iS .i64 (A ++ B)) (r := r) (v := v) (es := 1) (n := A.length) (lim := lim) [t] (by simp [hts]) (AH.set_same _ _ _) (fun u hu => ?_) (by simp) ?_
  · have : u = t := by have := (memA_iff _ _).1 hu; simpa using this
    rw [this]; exact he
  · rw [AH.set_set, AH.del_set _ _ _ hG, Nat.mul_one]
    have e : (iS .i64 (A ++ B)).take A.length = iS .i64 A := by
      unfold iS
      rw [List.map_append, List.take_append_of_le_length (by simp), List.take_of_length_le (by simp)]
    rw [e]; exact h
/-- The label and the pixels of a place. -/
def labA (T : Nat → Tl) (a : Nat) : Int := if (T (shQ a)).L.length = 0 then -1 else shL (T (shQ a)).L a
def pixA (n : Nat) (T : Nat → Tl) (a b : Nat) : Int := if (T (shQ a)).L.length = 0 then 0 else shP n (T (shQ a)).L (T (shQ a)).P a b
/-- The rows when the places of D are done, and k bands of another one. -/
def lbD (T : Nat → Tl) (D : Nat → Bool) : List Int := fnL 256 fun a => if D a then labA T a else -1
def pxD (n : Nat) (T : Nat → Tl) (D : Nat → Bool) (p k : Nat) : List Int := fnL (256 * n) fun j => if D (j / n) || (decide (j / n = p) && decide (j % n < k)) then pixA n T (j / n) (j % n) else 0
theorem lbD_len (T : Nat → Tl) (D : Nat → Bool) : (lbD T D).length = 256 := fnL_len _ _
theorem pxD_len (n : Nat) (T : Nat → Tl) (D : Nat → Bool) (p k : Nat) : (pxD n T D p k).length = 256 * n := fnL_len _ _
theorem lbD_put {T : Nat → Tl} {D D2 : Nat → Bool} {p : Nat} (h : ∀ a, a < 256 → D2 a = (D a || decide (a = p))) : (lbD T D).set p (labA T p) = lbD T D2 := by
  unfold lbD
  rw [fnL_set]
  refine fnL_congr fun a ha => ?_
  rw [h a ha]
  by_cases e : a = p
  · subst e; simp
  · simp [e]
theorem lbD_same {T : Nat → Tl} {D D2 : Nat → Bool} (h : ∀ a, a < 256 → D a = D2 a ∨ labA T a = -1) : lbD T D = lbD T D2 := fnL_congr fun a ha => by
  rcases h a ha with e | e
  · rw [e]
  · rw [e]; simp
theorem lbD_m1 {T : Nat → Tl} {D : Nat → Bool} {p : Nat} (hD : D p = false) : (lbD T D).set p (-1) = lbD T D := by
  unfold lbD
  rw [fnL_set]
  refine fnL_congr fun a ha => ?_
  by_cases e : a = p
  · subst e; simp [hD]
  · simp [e]
theorem set_getD {L : List Int} {p : Nat} (h : p < L.length) (z : Int) : (L.set p z).getD p 0 = z := by
  rw [List.getD_eq_getElem?_getD, List.getElem?_set_self (by omega)]; rfl
theorem at_div {n p k : Nat} (hk : k < n) : (p * n + k) / n = p := by
  rw [Nat.mul_comm, Nat.mul_add_div (by omega), Nat.div_eq_of_lt hk, Nat.add_zero]
theorem at_mod {n p k : Nat} (hk : k < n) : (p * n + k) % n = k := by
  rw [Nat.mul_comm, Nat.mul_add_mod, Nat.mod_eq_of_lt hk]
theorem pxD_put {n : Nat} {T : Nat → Tl} {D : Nat → Bool} {p k : Nat} (hk : k < n) : (pxD n T D p k).set (p * n + k) (pixA n T p k) = pxD n T D p (k + 1) := by
  unfold pxD
  rw [fnL_set]
  refine fnL_congr fun j hj => ?_
  by_cases e : j = p * n + k
  · subst e; rw [if_pos rfl, at_div hk, at_mod hk]; simp
  · rw [if_neg e]
    have hj2 := Nat.div_add_mod j n
    by_cases e2 : j / n = p
    · have e3 : j % n ≠ k := fun e3 => e (by rw [← hj2, e2, e3, Nat.mul_comm])
      have : decide (j % n < k) = decide (j % n < k + 1) := by
        by_cases h1 : j % n < k
        · rw [decide_eq_true h1, decide_eq_true (by omega)]
        · rw [decide_eq_false h1, decide_eq_false (by omega)]
      rw [this]
    · rw [decide_eq_false e2]; rfl
theorem pxD_end {n : Nat} {T : Nat → Tl} {D D2 : Nat → Bool} {p p2 : Nat} (hn : 1 ≤ n) (h : ∀ a, a < 256 → D2 a = (D a || decide (a = p))) : pxD n T D p n = pxD n T D2 p2 0 := by
  refine fnL_congr fun j hj => ?_
  have : j / n < 256 := Nat.div_lt_of_lt_mul (by rw [Nat.mul_comm]; exact hj)
  rw [h _ this, decide_eq_true (Nat.mod_lt j (show n > 0 by omega))]
  simp
theorem pxD_same {n : Nat} {T : Nat → Tl} {D D2 : Nat → Bool} {p p2 : Nat} (hn : 1 ≤ n) (h : ∀ a, a < 256 → D a = D2 a ∨ ∀ b, b < n → pixA n T a b = 0) : pxD n T D p 0 = pxD n T D2 p2 0 := by
  refine fnL_congr fun j hj => ?_
  have : j / n < 256 := Nat.div_lt_of_lt_mul (by rw [Nat.mul_comm]; exact hj)
  rcases h _ this with e | e
  · rw [e]; simp
  · rw [e _ (Nat.mod_lt j (show n > 0 by omega))]; simp
theorem lbD_none (T : Nat → Tl) : lbD T (fun _ => false) = emL := fnL_congr fun a ha => by simp
theorem pxD_none (n : Nat) (T : Nat → Tl) (p : Nat) : pxD n T (fun _ => false) p 0 = emP n := fnL_congr fun a ha => by simp
/-- Quadrant by quadrant. -/
def doneQ (q i a : Nat) : Bool := decide (shQ a < q ∨ (shQ a = q ∧ shI a < i))
theorem shI_lt (a : Nat) : shI a < 64 := by unfold shI; omega
theorem shQ_lt {a : Nat} (h : a < 256) : shQ a < 4 := by unfold shQ; omega
theorem doneQ_put {q i : Nat} (hq : q < 4) (hi : i < 64) (a : Nat) (ha : a < 256) : doneQ q (i + 1) a = (doneQ q i a || decide (a = shAt q i)) := by
  unfold doneQ
  rw [← Bool.decide_or]
  refine decide_eq_decide.2 ?_
  constructor
  · rintro (h | ⟨h1, h2⟩)
    · exact .inl (.inl h)
    · by_cases e : shI a = i
      · refine .inr ?_
        rw [← h1, ← e, shAt_qi ha]
      · exact .inl (.inr ⟨h1, by omega⟩)
  · rintro ((h | ⟨h1, h2⟩) | h)
    · exact .inl h
    · exact .inr ⟨h1, by omega⟩
    · subst h; rw [shQ_at hq hi, shI_at hq hi]; exact .inr ⟨rfl, by omega⟩
theorem doneQ_next (q a : Nat) : doneQ (q + 1) 0 a = doneQ q 64 a := by
  unfold doneQ
  have := shI_lt a
  exact decide_eq_decide.2 (by omega)
theorem doneQ_first : doneQ 0 0 = fun _ => false := by
  funext a
  unfold doneQ
  exact decide_eq_false (by omega)
theorem doneQ_last (a : Nat) (ha : a < 256) : doneQ 4 0 a = true := by
  unfold doneQ
  have := shQ_lt ha
  exact decide_eq_true (.inl this)
/-- Place by place. -/
def doneR (p a : Nat) : Bool := decide (a < p)
theorem doneR_put (p a : Nat) (ha : a < 256) : doneR (p + 1) a = (doneR p a || decide (a = p)) := by
  unfold doneR
  rw [← Bool.decide_or]
  exact decide_eq_decide.2 (by omega)
theorem doneR_first : doneR 0 = fun _ => false := by
  funext a
  exact decide_eq_false (by omega)
theorem doneR_self (p : Nat) : doneR p p = false := decide_eq_false (by omega)
/-- The whole answer. -/
def shLL (T : Nat → Tl) : List Int := lbD T fun _ => true
def shPP (n : Nat) (T : Nat → Tl) : List Int := pxD n T (fun _ => true) 0 0
theorem shLL_len (T : Nat → Tl) : (shLL T).length = 256 := lbD_len _ _
theorem shPP_len (n : Nat) (T : Nat → Tl) : (shPP n T).length = 256 * n := pxD_len _ _ _ _ _
def goodT (n : Int) (t : Tl) : Prop := t.L.length = 0 ∨ (tileE t.b t.L t.P = 0 ∧ t.b = n)
open Classical in
noncomputable def shV (n : Int) (T : Nat → Tl) : AV × Int :=
  if ¬ (1 ≤ n ∧ n ≤ 4) then (tV 0 [] [], 1) else if ∀ q, q < 4 → goodT n (T q) then (tV n (shLL T) (shPP n.toNat T), 0) else (tV 0 [] [], 1)
theorem tile_good {b : Int} {L P : List Int} (h : tileE b L P = 0) : tForm b L P ∧ lbOk b.toNat L P 256 := by
  unfold tileE at h
  by_cases h1 : tForm b L P
  · rw [if_neg (fun h => h h1)] at h
    by_cases h2 : lbOk b.toNat L P 256
    · exact ⟨h1, h2⟩
    · rw [if_neg h2] at h; cases h
  · rw [if_pos h1] at h; cases h
/-- A row of four tiles. -/
def rowF (T : Nat → Tl) : List AV := rowT (T 0) (T 1) (T 2) (T 3)
theorem rowF_len (T : Nat → Tl) : (rowF T).length = 12 := rfl
theorem rowF_seg (T : Nat → Tl) {q : Nat} (hq : q < 4) : ((rowF T).drop (q * 3)).take 3 = (T q).cells := by
  rcases (show q = 0 ∨ q = 1 ∨ q = 2 ∨ q = 3 by omega) with rfl | rfl | rfl | rfl <;> rfl
/-- The labels of pixels that count. -/
theorem frm_labels {n : Nat} {L P : List Int} (hL : L.length = 256) (h : lbOk n L P 256) (a : Nat) : ∀ x, x ∈ frm L a → 0 ≤ L.getD x.toNat 0 ∧ L.getD x.toNat 0 ≤ 4095 := fun x hx => by
  obtain ⟨h1, h2⟩ := frm_in L a x hx
  have := (h x.toNat (by omega)).1
  exact ⟨h2, this.2⟩
theorem shS_bd {n : Nat} {L P : List Int} (hL : L.length = 256) (h : lbOk n L P 256) {a b : Nat} (hb : b < n) : ∀ k, k ≤ (frm L a).length → 0 ≤ shS n P b (frm L a) k ∧ shS n P b (frm L a) k ≤ 65535 * k
  | 0, _ => by
    show (0 : Int) ≤ 0 ∧ (0 : Int) ≤ 65535 * (0 : Nat)
    omega
  | k + 1, hk => by
    have ih := shS_bd (a := a) hL h hb k (by omega)
    have hm := frm_in L a _ (getD_in (show k < (frm L a).length by omega))
    have := (h ((frm L a).getD k 0).toNat (by omega)).2 b hb
    have e : shS n P b (frm L a) (k + 1) = shS n P b (frm L a) k + P.getD (((frm L a).getD k 0).toNat * n + b) 0 := rfl
    unfold vOk at this
    rw [e]
    omega
end Go.Proofs.Ytghielfbdpkhmaa
/- Tiles: the reference's Empty, its rows handed out. -/
namespace Go.Proofs.Ytghielfbdpkhmaa
open Go.Fw Go
set_option linter.unusedVariables false
set_option linter.unusedSimpArgs false

/-- The rows of an empty tile. -/
structure EmR (H H' : AH) (q1 q2 v1 v2 n : Nat) : Prop where
  ha : H q1 = none
  hb : H q2 = none
  ab : q1 ≠ q2
  e : H' = (H.set q1 (.row (iS .i64 emL) v1)).set q2 (.row (iS .i64 (emP n)) v2)
set_option maxHeartbeats 8000000 in
set_option maxRecDepth 8000 in
theorem rempty_r (n : Nat) (h1 : 1 ≤ (n : Int) ∧ (n : Int) ≤ 4) (H : AH) : ACall Try.prog 41 [.int .i64 n] H (fun z H' => ∃ q1 q2 v1 v2, EmR H H' q1 q2 v1 v2 n ∧ z = .tup [.agg [.int .i64 n, .sl q1 v1 1 0 256 none, .sl q2 v2 1 0 (256 * n) none], .int .i64 0]) := by
  · refine ACall.told ?_
    refine ACall_of tt_ok (dok _) Try.func41 rfl (by decide) rfl ?_
    iterate 2 ((repeat' ((conv => whnf); first | left | refine OpsA.cons ?_ | refine OpsA.nil ?_ | refine AWq.seq ?_ | refine AWq.region ?_ | refine AWq.cond ?_ | refine AWq.block ?_ | refine AWq.skip ?_ | refine AWq.ret ?_ | refine AWq.exit ?_ | refine AWq.loop ?_ | (refine Both.mk ?_ ?_ <;> intro hc <;> (first | exact Bool.noConfusion hc | (exfalso; omega) | skip)) | (intro c hc; (try (simp only [AH.none_iff] at hc; repeat (have hn := hc.1; replace hc := hc.2))); (first | (refine i64_k hc ?_ ?_ ?_ ; omega; omega; (clear hc; intro hc; subst hc)) | skip)) | (apply Exists.intro; apply And.intro; (first | (focus (repeat (first | (with_reducible assumption) | (with_reducible exact AH.set_same _ _ _) | ((first | refine AH.get_ne ?_ ?_); (first | (with_reducible assumption))))); done))) | (apply Exists.intro; apply And.intro; first | (with_reducible assumption) | ((try simp only [List.getElem?_drop, Nat.mul_one, Nat.add_zero, Nat.zero_add]); first | (with_reducible assumption) | rfl)) | (apply And.intro; (first | rfl | (with_reducible assumption) | exact Nat.le_of_ble_eq_true rfl | omega)))) <;> (try (conv => whnf)); refine Then.mk ?_)
    (obtain ⟨t2, hq_⟩ : ∃ t2, t2 = c := ⟨_, rfl⟩); subst hq_
    have ht2 : H t2 = none := by assumption
    (repeat' ((conv => whnf); first | left | refine OpsA.cons ?_ | refine OpsA.nil ?_ | refine AWq.seq ?_ | refine AWq.region ?_ | refine AWq.cond ?_ | refine AWq.block ?_ | refine AWq.skip ?_ | refine AWq.ret ?_ | refine AWq.exit ?_ | refine AWq.loop ?_ | (refine Both.mk ?_ ?_ <;> intro hc <;> (first | exact Bool.noConfusion hc | (exfalso; omega) | skip)) | (intro c hc; (try (simp only [AH.none_iff] at hc; repeat (have hn := hc.1; replace hc := hc.2))); (first | (refine i64_k hc ?_ ?_ ?_ ; omega; omega; (clear hc; intro hc; subst hc)) | skip)) | (apply Exists.intro; apply And.intro; (first | (focus (repeat (first | (with_reducible assumption) | (with_reducible exact AH.set_same _ _ _) | ((first | refine AH.get_ne ?_ ?_); (first | (with_reducible assumption))))); done))) | (apply Exists.intro; apply And.intro; first | (with_reducible assumption) | ((try simp only [List.getElem?_drop, Nat.mul_one, Nat.add_zero, Nat.zero_add]); first | (with_reducible assumption) | rfl)) | (apply And.intro; (first | rfl | (with_reducible assumption) | exact Nat.le_of_ble_eq_true rfl | omega)))) <;> (try (conv => whnf))
    refine Then.mk ?_
    (repeat' ((conv => whnf); first | left | refine OpsA.cons ?_ | refine OpsA.nil ?_ | refine AWq.seq ?_ | refine AWq.region ?_ | refine AWq.cond ?_ | refine AWq.block ?_ | refine AWq.skip ?_ | refine AWq.ret ?_ | refine AWq.exit ?_ | refine AWq.loop ?_ | (refine Both.mk ?_ ?_ <;> intro hc <;> (first | exact Bool.noConfusion hc | (exfalso; omega) | skip)) | (intro c hc; (try (simp only [AH.none_iff] at hc; repeat (have hn := hc.1; replace hc := hc.2))); (first | (refine i64_k hc ?_ ?_ ?_ ; omega; omega; (clear hc; intro hc; subst hc)) | skip)) | (apply Exists.intro; apply And.intro; (first | (focus (repeat (first | (with_reducible assumption) | (with_reducible exact AH.set_same _ _ _) | ((first | refine AH.get_ne ?_ ?_); (first | (with_reducible assumption))))); done))) | (apply Exists.intro; apply And.intro; first | (with_reducible assumption) | ((try simp only [List.getElem?_drop, Nat.mul_one, Nat.add_zero, Nat.zero_add]); first | (with_reducible assumption) | rfl)) | (apply And.intro; (first | rfl | (with_reducible assumption) | exact Nat.le_of_ble_eq_true rfl | omega)))) <;> (try (conv => whnf))
    (obtain ⟨p, hq_⟩ : ∃ p, p = c := ⟨_, rfl⟩); subst hq_
    refine Then.mk (AWq.in ?_)
    refine AWp_seg [.int .i64 n, .nils, .nils] rfl rfl ?_
    obtain ⟨Z, hZ⟩ : ∃ Z, Z = H.set t2 (.row [.int .i64 0, .nils, .nils] 0) := ⟨_, rfl⟩
    have hpZ : Z p = none := by rw [hZ]; (first | assumption | (simp only [AH.none_iff]; (repeat' (first | assumption | (refine And.intro ?_ ?_)))))
    show AWp _ _ _ _ _ _ _ _ _ (AH.set (H.set t2 (.row [.int .i64 0, .nils, .nils] 0)) p _)
    rw [← hZ]
    refine AWp_grow (n : Int) hpZ fun q1 q2 g => ?_
    refine AWp.of tt_ok (dok _) rfl ?_
    (repeat' ((conv => whnf); first | refine Then.mk ?_ | left | refine OpsA.cons ?_ | refine OpsA.nil ?_ | refine AWq.seq ?_ | refine AWq.region ?_ | refine AWq.cond ?_ | refine AWq.block ?_ | refine AWq.skip ?_ | refine AWq.ret ?_ | refine AWq.exit ?_ | refine AWq.loop ?_ | (refine Both.mk ?_ ?_ <;> intro hc <;> (first | exact Bool.noConfusion hc | (exfalso; omega) | skip)) | (intro c hc; (try (simp only [AH.none_iff] at hc; repeat (have hn := hc.1; replace hc := hc.2))); (first | (refine i64_k hc ?_ ?_ ?_ ; omega; omega; (clear hc; intro hc; subst hc)) | skip)) | (apply Exists.intro; apply And.intro; (first | (focus (repeat (first | (with_reducible assumption) | (with_reducible exact AH.set_same _ _ _) | ((first | refine AH.get_ne ?_ ?_); (first | (with_reducible assumption))))); done))) | (apply Exists.intro; apply And.intro; first | (with_reducible assumption) | ((try simp only [List.getElem?_drop, Nat.mul_one, Nat.add_zero, Nat.zero_add]); first | (with_reducible assumption) | rfl)) | (apply And.intro; (first | rfl | (with_reducible assumption) | exact Nat.le_of_ble_eq_true rfl | omega)))) <;> (try (conv => whnf))
    have n1 := g.pa
    have n2 := g.pb
    have n3 := g.ab
    obtain ⟨fA, hA⟩ : ∃ fA : Nat → List Int, ∀ i, fA i = fnL i fun _ => -1 := ⟨_, fun _ => rfl⟩
    obtain ⟨fB, hB⟩ : ∃ fB : Nat → List Int, ∀ i, fB i = fnL i fun _ => 0 := ⟨_, fun _ => rfl⟩
    have lA : ∀ i, (fA i).length = i := fun i => by rw [hA]; exact fnL_len _ _
    have lB : ∀ i, (fB i).length = i := fun i => by rw [hB]; exact fnL_len _ _
    have sA : ∀ i, fA (i + 1) = fA i ++ [-1] := fun i => by rw [hA, hA, fnL_snoc]
    have sB : ∀ i, fB (i + 1) = fB i ++ [0] := fun i => by rw [hB, hB, fnL_snoc]
    refine AWp_loop (σ := Nat) (5 :: 6 :: 16 :: 17 :: 18 :: 19 :: 20 :: 21 :: 22 :: 23 :: 24 :: 25 :: 26 :: 27 :: 28 :: 29 :: 30 :: 31 :: 32 :: 33 :: 34 :: []) (fun i => [(5, .int .i64 i)]) (fun i => grH Z p q1 q2 n (fA i) (fB (i * n))) (fun i => i ≤ 256) (fun i => 256 - i) 0 rfl (Nat.zero_le _) ⟨rfl, trivial⟩ (by rw [hA, Nat.zero_mul, hB]; exact HLe.refl _) ?_
    intro i hi
    refine AWp.of tt_ok (dok _) rfl ?_
    dsimp only at hi ⊢
    have gp := g.atp n (fA i) (fB (i * n))
    have ga := g.ata n (fA i) (fB (i * n))
    have gb := g.atb n (fA i) (fB (i * n))
    by_cases hit : i < 256
    · have st := g.stepA n (fA i) (fB (i * n)) (-1)
      rw [← sA] at st
      simp only [lA, lB] at gp ga gb st
      have hq : i * n + n ≤ 256 * n := by
        have := Nat.mul_le_mul_right n (show i + 1 ≤ 256 by omega)
        rwa [Nat.add_mul, Nat.one_mul] at this
      have l1 : (iS .i64 (fA i)).length = i := by rw [iS_length, lA]
      generalize hR1 : iS .i64 (fA i) = R1 at *
      generalize grH Z p q1 q2 n (fA i) (fB (i * n)) = G at *
      (repeat' ((conv => whnf); first | refine Then.mk ?_ | left | refine OpsA.cons ?_ | refine OpsA.nil ?_ | refine AWq.seq ?_ | refine AWq.region ?_ | refine AWq.cond ?_ | refine AWq.block ?_ | refine AWq.skip ?_ | refine AWq.ret ?_ | refine AWq.exit ?_ | refine AWq.loop ?_ | (refine Both.mk ?_ ?_ <;> intro hc <;> (first | exact Bool.noConfusion hc | (exfalso; omega) | skip)) | (intro c hc; (try (simp only [AH.none_iff] at hc; repeat (have hn := hc.1; replace hc := hc.2))); (first | (refine i64_k hc ?_ ?_ ?_ ; omega; omega; (clear hc; intro hc; subst hc)) | skip)) | (apply Exists.intro; apply And.intro; (first | (focus (repeat (first | (with_reducible assumption) | (with_reducible exact AH.set_same _ _ _) | ((first | refine AH.get_ne ?_ ?_); (first | (with_reducible assumption))))); done))) | (apply Exists.intro; apply And.intro; first | (with_reducible assumption) | ((try simp only [List.getElem?_drop, Nat.mul_one, Nat.add_zero, Nat.zero_add]); first | (with_reducible assumption) | rfl)) | (apply And.intro; (first | rfl | (with_reducible assumption) | exact Nat.le_of_ble_eq_true rfl | omega)))) <;> (try (conv => whnf))
      refine AWp_loop (σ := Nat) (6 :: 25 :: 26 :: 27 :: 28 :: 29 :: 30 :: 31 :: 32 :: 33 :: 34 :: []) (fun k => [(6, .int .i64 k)]) (fun k => grH Z p q1 q2 n (fA (i + 1)) (fB (i * n + k))) (fun k => k ≤ n) (fun k => n - k) 0 rfl (Nat.zero_le _) ⟨rfl, trivial⟩ st ?_
      intro k hk
      refine AWp.of tt_ok (dok _) rfl ?_
      dsimp only at hk ⊢
      clear gp ga gb st
      have gp := g.atp n (fA (i + 1)) (fB (i * n + k))
      have ga := g.ata n (fA (i + 1)) (fB (i * n + k))
      have gb := g.atb n (fA (i + 1)) (fB (i * n + k))
      have st := g.stepB n (fA (i + 1)) (fB (i * n + k)) 0
      rw [← sB] at st
      simp only [lA, lB] at gp ga gb st
      have l2 : (iS .i64 (fB (i * n + k))).length = i * n + k := by rw [iS_length, lB]
      by_cases hkt : k < n
      · generalize iS .i64 (fB (i * n + k)) = R2 at *
        generalize grH Z p q1 q2 n (fA (i + 1)) (fB (i * n + k)) = G at *
        generalize hQ : i * n = Q at *
        (repeat' ((conv => whnf); first | refine Then.mk ?_ | left | refine OpsA.cons ?_ | refine OpsA.nil ?_ | refine AWq.seq ?_ | refine AWq.region ?_ | refine AWq.cond ?_ | refine AWq.block ?_ | refine AWq.skip ?_ | refine AWq.ret ?_ | refine AWq.exit ?_ | refine AWq.loop ?_ | (refine Both.mk ?_ ?_ <;> intro hc <;> (first | exact Bool.noConfusion hc | (exfalso; omega) | skip)) | (intro c hc; (try (simp only [AH.none_iff] at hc; repeat (have hn := hc.1; replace hc := hc.2))); (first | (refine i64_k hc ?_ ?_ ?_ ; omega; omega; (clear hc; intro hc; subst hc)) | skip)) | (apply Exists.intro; apply And.intro; (first | (focus (repeat (first | (with_reducible assumption) | (with_reducible exact AH.set_same _ _ _) | ((first | refine AH.get_ne ?_ ?_); (first | (with_reducible assumption))))); done))) | (apply Exists.intro; apply And.intro; first | (with_reducible assumption) | ((try simp only [List.getElem?_drop, Nat.mul_one, Nat.add_zero, Nat.zero_add]); first | (with_reducible assumption) | rfl)) | (apply And.intro; (first | rfl | (with_reducible assumption) | exact Nat.le_of_ble_eq_true rfl | omega)))) <;> (try (conv => whnf))
        exact ⟨k + 1, hkt, show n - (k + 1) < n - k by omega, ⟨congrArg (AV.int .i64) (by omega), trivial⟩, st⟩
      · have hke : k = n := by omega
        subst hke
        have e2 : i * k + k = (i + 1) * k := by rw [Nat.add_mul, Nat.one_mul]
        rw [e2] at *
        generalize hG : grH Z p q1 q2 k (fA (i + 1)) (fB ((i + 1) * k)) = G at *
        (repeat' ((conv => whnf); first | refine Then.mk ?_ | left | refine OpsA.cons ?_ | refine OpsA.nil ?_ | refine AWq.seq ?_ | refine AWq.region ?_ | refine AWq.cond ?_ | refine AWq.block ?_ | refine AWq.skip ?_ | refine AWq.ret ?_ | refine AWq.exit ?_ | refine AWq.loop ?_ | (refine Both.mk ?_ ?_ <;> intro hc <;> (first | exact Bool.noConfusion hc | (exfalso; omega) | skip)) | (intro c hc; (try (simp only [AH.none_iff] at hc; repeat (have hn := hc.1; replace hc := hc.2))); (first | (refine i64_k hc ?_ ?_ ?_ ; omega; omega; (clear hc; intro hc; subst hc)) | skip)) | (apply Exists.intro; apply And.intro; (first | (focus (repeat (first | (with_reducible assumption) | (with_reducible exact AH.set_same _ _ _) | ((first | refine AH.get_ne ?_ ?_); (first | (with_reducible assumption))))); done))) | (apply Exists.intro; apply And.intro; first | (with_reducible assumption) | ((try simp only [List.getElem?_drop, Nat.mul_one, Nat.add_zero, Nat.zero_add]); first | (with_reducible assumption) | rfl)) | (apply And.intro; (first | rfl | (with_reducible assumption) | exact Nat.le_of_ble_eq_true rfl | omega)))) <;> (try (conv => whnf))
        exact ⟨i + 1, hit, show 256 - (i + 1) < 256 - i by omega, ⟨congrArg (AV.int .i64) (by omega), trivial⟩, by rw [hG]; exact HLe.refl _⟩
    · have hie : i = 256 := by omega
      subst hie
      have gt : Z t2 = some (.row [.int .i64 0, .nils, .nils] 0) := by rw [hZ]; exact AH.set_same _ _ _
      have m1 : t2 ≠ q1 := fun e => by rw [e, g.ha] at gt; cases gt
      have m2 : t2 ≠ q2 := fun e => by rw [e, g.hb] at gt; cases gt
      have m3 : t2 ≠ p := fun e => by rw [e, hpZ] at gt; cases gt
      have gt2 : grH Z p q1 q2 n (fA 256) (fB (256 * n)) t2 = some (.row [.int .i64 0, .nils, .nils] 0) := by
        unfold grH; rw [AH.set_ne _ _ m2, AH.set_ne _ _ m1, AH.set_ne _ _ m3]; exact gt
      have hq1 : H q1 = none := by have := g.ha; rw [hZ, AH.set_ne _ _ (Ne.symm m1)] at this; exact this
      have hq2 : H q2 = none := by have := g.hb; rw [hZ, AH.set_ne _ _ (Ne.symm m2)] at this; exact this
      have eA : iS .i64 (fA 256) = iS .i64 emL := by rw [hA]; rfl
      have eB : iS .i64 (fB (256 * n)) = iS .i64 (emP n) := by rw [hB]; rfl
      simp only [lA, lB] at gp ga gb
      rw [eA] at ga
      rw [eB] at gb
      have hle : ∀ o, HLe ((AH.set H q1 (.row (iS .i64 emL) 256)).set q2 (.row (iS .i64 (emP n)) (256 * n))) (AH.set (grH Z p q1 q2 n (fA 256) (fB (256 * n))) t2 o) := fun o => ⟨fun r x hr => by
        have hp0 : H p = none := by have := hpZ; rw [hZ, AH.set_ne _ _ (Ne.symm m3)] at this; exact this
        by_cases e2 : r = q2
        · subst e2; rw [AH.set_same] at hr; rw [AH.set_ne _ _ (Ne.symm m2), gb]; exact hr
        · rw [AH.set_ne _ _ e2] at hr
          by_cases e1 : r = q1
          · subst e1; rw [AH.set_same] at hr; rw [AH.set_ne _ _ (Ne.symm m1), ga]; exact hr
          · rw [AH.set_ne _ _ e1] at hr
            have e3 : r ≠ t2 := fun e => by rw [e, ht2] at hr; cases hr
            have e4 : r ≠ p := fun e => by rw [e, hp0] at hr; cases hr
            rw [AH.set_ne _ _ e3]
            unfold grH
            rw [AH.set_ne _ _ e2, AH.set_ne _ _ e1, AH.set_ne _ _ e4, hZ, AH.set_ne _ _ e3]; exact hr⟩
      have hab := g.ab
      generalize grH Z p q1 q2 n (fA 256) (fB (256 * n)) = G at *
      (repeat' ((conv => whnf); first | refine Then.mk ?_ | left | refine OpsA.cons ?_ | refine OpsA.nil ?_ | refine AWq.seq ?_ | refine AWq.region ?_ | refine AWq.cond ?_ | refine AWq.block ?_ | refine AWq.skip ?_ | refine AWq.ret ?_ | refine AWq.exit ?_ | refine AWq.loop ?_ | (refine Both.mk ?_ ?_ <;> intro hc <;> (first | exact Bool.noConfusion hc | (exfalso; omega) | skip)) | (intro c hc; (try (simp only [AH.none_iff] at hc; repeat (have hn := hc.1; replace hc := hc.2))); (first | (refine i64_k hc ?_ ?_ ?_ ; omega; omega; (clear hc; intro hc; subst hc)) | skip)) | (apply Exists.intro; apply And.intro; (first | (focus (repeat (first | (with_reducible assumption) | (with_reducible exact AH.set_same _ _ _) | ((first | refine AH.get_ne ?_ ?_); (first | (with_reducible assumption))))); done))) | (apply Exists.intro; apply And.intro; first | (with_reducible assumption) | ((try simp only [List.getElem?_drop, Nat.mul_one, Nat.add_zero, Nat.zero_add]); first | (with_reducible assumption) | rfl)) | (apply And.intro; (first | rfl | (with_reducible assumption) | exact Nat.le_of_ble_eq_true rfl | omega)))) <;> (try (conv => whnf))
      exact ⟨_, _, AVle.refl _, hle _, q1, q2, _, _, ⟨hq1, hq2, hab, rfl⟩, rfl⟩
end Go.Proofs.Ytghielfbdpkhmaa
/- slices.Repeat of one number (as BalN). -/
namespace Go.Proofs.Ytghielfbdpkhmaa
open Go.Fw Go
set_option linter.unusedVariables false
set_option linter.unusedSimpArgs false

theorem wrap_u64b (x : Int) : IntKind.u64.wrap x = x % 18446744073709551616 := rfl
set_option maxRecDepth 8000 in
theorem Mul64_c (n : Nat) (h : n ≤ 4294967295) (H : AH) : ACall Try.prog 66 [.int .u64 1, .int .u64 n] H (fun y H' => y = .tup [.int .u64 0, .int .u64 n] ∧ H' = H) := by
  have e0 : (2 : Int) ^ min (Int.toNat 32) IntKind.u64.bits = 4294967296 := by decide
  have e1 : (n : Int).fdiv 4294967296 = 0 := by rw [Int.fdiv_eq_ediv_of_nonneg _ (by omega)]; omega
  have e2 : bitsA .and .u64 (n : Int) 4294967295 = n := by
    show IntKind.u64.wrap ((BitVec.ofInt 64 (n : Int) &&& BitVec.ofInt 64 4294967295).toNat : Int) = _
    have ha : (BitVec.ofInt 64 (n : Int)).toNat = n := by rw [BitVec.toNat_ofInt]; omega
    have hb : (BitVec.ofInt 64 4294967295).toNat = 2 ^ 32 - 1 := by decide
    rw [BitVec.toNat_and, ha, hb, Nat.and_two_pow_sub_one_eq_mod, wrap_u64b]
    omega
  have e3 : bitsA .and .u64 1 4294967295 = 1 := by decide
  have e4 : Int.fdiv 1 4294967296 = 0 := by decide
  have e5 : IntKind.u64.wrap (n : Int) = n := by rw [wrap_u64b]; omega
  have e6 : bitsA .and .u64 0 4294967295 = 0 := by decide
  have e7 : IntKind.u64.wrap 0 = 0 := by decide
  have e8 : Int.fdiv 0 4294967296 = 0 := by decide
  refine ACall_of tt_ok (dok _) Try.func66 rfl (by decide) rfl ?_
  (repeat' ((conv => whnf); first | refine Then.mk ?_ | refine OpsA.cons ?_ | refine OpsA.nil ?_ | refine AWq.seq ?_ | refine AWq.region ?_ | refine AWq.ret ?_ | (intro c hc; (try (simp only [AH.none_iff] at hc; repeat (have hn := hc.1; replace hc := hc.2))); (first | (have hc2 := Eq.trans hc (by with_reducible assumption); clear hc; subst hc2) | (refine u64_k hc ?_ ?_ ?_ ; omega; omega; (clear hc; intro hc; subst hc)) | subst hc)) | (apply And.intro; (first | rfl | omega)))) <;> (try (conv => whnf))
  refine ⟨?_, rfl⟩
  simp only [e0, e1, e2, e3, e4, e5, e6, e7, e8, Int.zero_mul, Int.one_mul, Int.mul_zero, Int.add_zero]
set_option maxRecDepth 8000 in
theorem Mul_c (n : Nat) (h : n ≤ 4294967295) (H : AH) : ACall Try.prog 60 [.int .u64 1, .int .u64 n] H (fun y H' => y = .tup [.int .u64 0, .int .u64 n] ∧ H' = H) := by
  have hm := fun H => Mul64_c n h H
  refine ACall_of tt_ok (dok _) Try.func60 rfl (by decide) rfl ?_
  (repeat' ((conv => whnf); first | refine Then.mk ?_ | refine OpsA.cons ?_ | refine OpsA.nil ?_ | refine AWq.seq ?_ | refine AWq.region ?_ | refine AWq.cond ?_ | refine AWq.skip ?_ | refine AWq.ret ?_ | (refine Both.mk ?_ ?_ <;> intro hc <;> (first | exact Bool.noConfusion hc | skip)) | (apply And.intro; (first | rfl)) | (refine ACall.to (hm _) ?_))) <;> (try (conv => whnf))

theorem dLc {n : Nat} {f g : Nat → Int} (h : ∀ i, i < n → f i = g i) : dL n f = dL n g := congrArg (iS .i64) (fnL_congr h)
theorem dL_takeN {n m : Nat} (X : Nat → Int) (h : m ≤ n) : (dL n X).take m = dL m X := by
  apply List.ext_getElem?
  intro i
  rw [List.getElem?_take]
  by_cases hi : i < m
  · rw [if_pos hi, dL_get X (by omega), dL_get X hi]
  · rw [if_neg hi, List.getElem?_eq_none (by rw [dL_len]; omega)]
theorem dL_drop {n m : Nat} (X : Nat → Int) : (dL n X).drop m = dL (n - m) (fun k => X (m + k)) := by
  apply List.ext_getElem?
  intro i
  rw [List.getElem?_drop]
  by_cases hi : m + i < n
  · rw [dL_get X hi, dL_get _ (by omega)]
  · rw [List.getElem?_eq_none (by rw [dL_len]; omega), List.getElem?_eq_none (by rw [dL_len]; omega)]
theorem dL_app {n m : Nat} (X Y : Nat → Int) : dL n X ++ dL m Y = dL (n + m) (fun k => if k < n then X k else Y (k - n)) := by
  apply List.ext_getElem?
  intro i
  by_cases hi : i < n
  · rw [List.getElem?_append_left (by rw [dL_len]; exact hi), dL_get _ hi, dL_get _ (by omega), if_pos hi]
  · rw [List.getElem?_append_right (by rw [dL_len]; omega), dL_len]
    by_cases h2 : i < n + m
    · rw [dL_get _ (by omega), dL_get _ h2, if_neg hi]
    · rw [List.getElem?_eq_none (by rw [dL_len]; omega), List.getElem?_eq_none (by rw [dL_len]; omega)]
theorem dL_wrs {n m c : Nat} (X Y : Nat → Int) (h : c + m ≤ n) : wrA (dL n X) c (dL m Y) = dL n (fun k => if c ≤ k ∧ k < c + m then Y (k - c) else X k) := by
  unfold wrA
  rw [dL_takeN X (by omega), dL_len, dL_drop, dL_app, dL_app, show c + m + (n - (c + m)) = n by omega]
  refine dLc fun k hk => ?_
  by_cases h1 : k < c
  · rw [if_pos (by omega), if_pos h1, if_neg (by omega)]
  · by_cases h2 : k < c + m
    · rw [if_pos h2, if_neg h1, if_pos (by omega)]
    · rw [if_neg h2, if_neg (by omega)]
      congr 1; omega

set_option maxRecDepth 8000 in
theorem Repeat_c (z : Int) (n : Nat) (h1 : 1 ≤ n) (h2 : n ≤ 1000000) (H : AH) :
    ACall Try.prog 52 [.cs [.int .i64 z] 1, .int .i64 n] H (fun y H' => ∃ q, H q = none ∧ y = .sl q 0 1 0 n none ∧ H' = H.set q (.row (dL n fun _ => z) 0)) := by
  have hm := fun H => Mul_c n (by omega) H
  refine ACall_of tt_ok (dok _) Try.func52 rfl (by decide) rfl ?_
  (repeat' ((conv => whnf); first | refine Then.mk ?_ | refine OpsA.cons ?_ | refine OpsA.nil ?_ | refine AWq.seq ?_ | refine AWq.region ?_ | refine AWq.cond ?_ | refine AWq.block ?_ | refine AWq.skip ?_ | refine AWq.ret ?_ | refine AWq.exit ?_ | refine AWq.loop ?_ | refine DrawA.consD ?_ | refine DrawA.nil ?_ | (refine Both.mk ?_ ?_ <;> intro hc <;> (first | exact Bool.noConfusion hc | (exfalso; omega) | skip)) | (intro c hc; (try (simp only [AH.none_iff] at hc; repeat (have hn := hc.1; replace hc := hc.2))); (first | (refine i64_k hc ?_ ?_ ?_ ; omega; omega; (clear hc; intro hc; subst hc)) | (refine u64_k hc ?_ ?_ ?_ ; omega; omega; (clear hc; intro hc; subst hc)) | skip)) | (apply Exists.intro; apply And.intro; (first | (focus (repeat (first | (with_reducible assumption) | (with_reducible exact AH.set_same _ _ _))); done))) | (apply And.intro; (first | rfl | (with_reducible assumption) | omega | (simp <;> fail) | (focus (repeat' (first | (with_reducible assumption) | exact one_iS _ _ | rfl | apply one_take)); done))) | (refine ACall.to (hm _) ?_))) <;> (try (conv => whnf))
  refine AWp_loop (σ := Nat) (8 :: 34 :: 35 :: 36 :: 37 :: 38 :: 39 :: 40 :: 41 :: 42 :: 43 :: 44 :: 45 :: 46 :: []) (fun m => [(8, .int .i64 m)]) (fun m => AH.set H c (.row (dL n fun k => if k < m then z else 0) 0)) (fun m => 1 ≤ m ∧ m ≤ n) (fun m => n - m) 1 rfl ?_ ?_ ?_ ?_
  · exact ⟨Nat.le_refl _, h1⟩
  · refine ⟨?_, trivial⟩
    have : Nat.min 1 n = 1 := Nat.min_eq_left h1
    show AV.int .i64 (Nat.min 1 n : Nat) = _
    rw [this]
  · refine HLe.of_eq (Eq.symm ((AH.set_set _ _ _ _).trans (congrArg (fun l => AH.set H c (.row l 0)) ?_)))
    show wrA ((List.replicate n [AV.int .i64 0]).flatten) 0 (List.take (Nat.min 1 n * 1) (dL 1 fun _ => z)) = _
    rw [show Nat.min 1 n = 1 from Nat.min_eq_left h1, dL_zero, dL_takeN _ (by omega), dL_wrs _ _ (by omega)]
    refine dLc fun k hk => ?_
    by_cases h : k < 1 <;> simp [h]
  · rintro m ⟨hm1, hm2⟩
    refine AWp.of tt_ok (dok _) rfl ?_
    have li := dL_len n (fun k => if k < m then z else 0)
    by_cases hmn : m < n
    · (repeat' ((conv => whnf); first | refine AWq.drawM ([45], []) (by decide +kernel) ?_ | refine Then.mk ?_ | refine OpsA.cons ?_ | refine OpsA.nil ?_ | refine AWq.seq ?_ | refine AWq.region ?_ | refine AWq.cond ?_ | refine AWq.block ?_ | refine AWq.skip ?_ | refine AWq.ret ?_ | refine AWq.exit ?_ | refine AWq.loop ?_ | refine DrawA.consD ?_ | refine DrawA.nil ?_ | (refine Both.mk ?_ ?_ <;> intro hc <;> (first | exact Bool.noConfusion hc | (exfalso; omega) | skip)) | (intro c hc; (try (simp only [AH.none_iff] at hc; repeat (have hn := hc.1; replace hc := hc.2))); (first | (refine i64_k hc ?_ ?_ ?_ ; omega; omega; (clear hc; intro hc; subst hc)) | (refine u64_k hc ?_ ?_ ?_ ; omega; omega; (clear hc; intro hc; subst hc)) | skip)) | (apply Exists.intro; apply And.intro; (first | (focus (repeat (first | (with_reducible assumption) | (with_reducible exact AH.set_same _ _ _))); done))) | (apply And.intro; (first | rfl | (with_reducible assumption) | omega | (simp <;> fail) | (focus (repeat' (first | (with_reducible assumption) | exact one_iS _ _ | rfl | apply one_take)); done))) | (refine ACall.to (hm _) ?_))) <;> (try (conv => whnf))
      refine ⟨.int .i64 (min m (n - m) : Nat), AH.set H c (.row (dL n fun k => if k < m + min m (n - m) then z else 0) 0), ?_, ?_⟩
      · (repeat' ((conv => whnf); first | refine Then.mk ?_ | refine OpsA.cons ?_ | refine OpsA.nil ?_ | refine AWq.seq ?_ | refine AWq.region ?_ | refine AWq.cond ?_ | refine AWq.block ?_ | refine AWq.skip ?_ | refine AWq.ret ?_ | refine AWq.exit ?_ | refine AWq.loop ?_ | refine DrawA.consD ?_ | refine DrawA.nil ?_ | (refine Both.mk ?_ ?_ <;> intro hc <;> (first | exact Bool.noConfusion hc | (exfalso; omega) | skip)) | (intro c hc; (try (simp only [AH.none_iff] at hc; repeat (have hn := hc.1; replace hc := hc.2))); (first | (refine i64_k hc ?_ ?_ ?_ ; omega; omega; (clear hc; intro hc; subst hc)) | (refine u64_k hc ?_ ?_ ?_ ; omega; omega; (clear hc; intro hc; subst hc)) | skip)) | (apply Exists.intro; apply And.intro; (first | (focus (repeat (first | (with_reducible assumption) | (with_reducible exact AH.set_same _ _ _))); done))) | (apply And.intro; (first | rfl | (with_reducible assumption) | omega | (simp <;> fail) | (focus (repeat' (first | (with_reducible assumption) | exact one_iS _ _ | rfl | apply one_take)); done))))) <;> (try (conv => whnf))
        refine (AH.set_set _ _ _ _).trans (congrArg (fun l => AH.set H c (.row l 0)) ?_)
        have e1 : Nat.min m (n - m) = min m (n - m) := rfl
        rw [Int.toNat_natCast, Int.toNat_natCast, e1, List.drop_zero, Nat.mul_one, Nat.mul_one, dL_takeN _ hm2, dL_takeN _ (by omega), Nat.zero_add, dL_wrs _ _ (by omega)]
        refine dLc fun k hk => ?_
        split <;> split <;> first | rfl | omega | (split <;> first | rfl | omega)
      · (repeat' ((conv => whnf); first | refine Then.mk ?_ | refine OpsA.cons ?_ | refine OpsA.nil ?_ | refine AWq.seq ?_ | refine AWq.region ?_ | refine AWq.cond ?_ | refine AWq.block ?_ | refine AWq.skip ?_ | refine AWq.ret ?_ | refine AWq.exit ?_ | refine AWq.loop ?_ | refine DrawA.consD ?_ | refine DrawA.nil ?_ | (refine Both.mk ?_ ?_ <;> intro hc <;> (first | exact Bool.noConfusion hc | (exfalso; omega) | skip)) | (intro c hc; (try (simp only [AH.none_iff] at hc; repeat (have hn := hc.1; replace hc := hc.2))); (first | (refine i64_k hc ?_ ?_ ?_ ; omega; omega; (clear hc; intro hc; subst hc)) | (refine u64_k hc ?_ ?_ ?_ ; omega; omega; (clear hc; intro hc; subst hc)) | skip)) | (apply Exists.intro; apply And.intro; (first | (focus (repeat (first | (with_reducible assumption) | (with_reducible exact AH.set_same _ _ _))); done))) | (apply And.intro; (first | rfl | (with_reducible assumption) | omega | (simp <;> fail) | (focus (repeat' (first | (with_reducible assumption) | exact one_iS _ _ | rfl | apply one_take)); done))))) <;> (try (conv => whnf))
        exact ⟨m + min m (n - m), by omega, by omega, ⟨congrArg (AV.int .i64) (by omega), trivial⟩, HLe.refl _⟩
    · have hme : m = n := by omega
      (repeat' ((conv => whnf); first | refine Then.mk ?_ | refine OpsA.cons ?_ | refine OpsA.nil ?_ | refine AWq.seq ?_ | refine AWq.region ?_ | refine AWq.cond ?_ | refine AWq.block ?_ | refine AWq.skip ?_ | refine AWq.ret ?_ | refine AWq.exit ?_ | refine AWq.loop ?_ | refine DrawA.consD ?_ | refine DrawA.nil ?_ | (refine Both.mk ?_ ?_ <;> intro hc <;> (first | exact Bool.noConfusion hc | (exfalso; omega) | skip)) | (intro c hc; (try (simp only [AH.none_iff] at hc; repeat (have hn := hc.1; replace hc := hc.2))); (first | (refine i64_k hc ?_ ?_ ?_ ; omega; omega; (clear hc; intro hc; subst hc)) | (refine u64_k hc ?_ ?_ ?_ ; omega; omega; (clear hc; intro hc; subst hc)) | skip)) | (apply Exists.intro; apply And.intro; (first | (focus (repeat (first | (with_reducible assumption) | (with_reducible exact AH.set_same _ _ _))); done))) | (apply And.intro; (first | rfl | (with_reducible assumption) | omega | (simp <;> fail) | (focus (repeat' (first | (with_reducible assumption) | exact one_iS _ _ | rfl | apply one_take)); done))))) <;> (try (conv => whnf))
      exact congrArg (fun l => AH.set H c (.row l 0)) (dLc fun k hk => by rw [if_pos (by omega)])

theorem repeat_k (z : Int) (n : Nat) (h1 : 1 ≤ n) (h2 : n ≤ 1000000) (H : AH) :
    ACall Try.prog 52 [.cs [.int .i64 z] 1, .int .i64 n] H (fun y H' => y = .cs (iS .i64 (fnL n fun _ => z)) n ∧ H' = H) := by
  refine ACall.cold (es := 1) (by simp) ((Repeat_c z n h1 h2 H).mono ?_)
  rintro y H' ⟨q, hq, rfl, rfl⟩
  exact ⟨q, hq, 0, rfl, rfl⟩
end Go.Proofs.Ytghielfbdpkhmaa
/- Tiles: Empty, its rows handed out. -/
namespace Go.Proofs.Ytghielfbdpkhmaa
open Go.Fw Go
set_option linter.unusedVariables false
set_option linter.unusedSimpArgs false

set_option maxHeartbeats 8000000 in
set_option maxRecDepth 8000 in
theorem empty_r (n : Nat) (h1 : 1 ≤ (n : Int) ∧ (n : Int) ≤ 4) (H : AH) : ACall Try.prog 40 [.int .i64 n] H (fun z H' => ∃ q1 q2 v1 v2, EmR H H' q1 q2 v1 v2 n ∧ z = .tup [.agg [.int .i64 n, .sl q1 v1 1 0 256 none, .sl q2 v2 1 0 (256 * n) none], .int .i64 0]) := by
  have b0 := fun H => btw_t (n : Int) 1 4 h1 H
  have rp := fun H => Repeat_c (-1) 256 (by decide) (by decide) H
  refine ACall.told ?_
  refine ACall_of tt_ok (dok _) Try.func40 rfl (by decide) rfl ?_
  (repeat' ((conv => whnf); first | refine Then.mk ?_ | refine OpsA.cons ?_ | refine OpsA.nil ?_ | refine AWq.seq ?_ | refine AWq.region ?_ | refine AWq.cond ?_ | refine AWq.skip ?_ | refine AWq.ret ?_ | (refine Both.mk ?_ ?_ <;> intro hc <;> (first | exact Bool.noConfusion hc | skip)) | (intro c hc; (try (simp only [AH.none_iff] at hc; repeat (have hn := hc.1; replace hc := hc.2))); (first | (refine i64_k hc ?_ ?_ ?_ ; omega; omega; (clear hc; intro hc; subst hc)) | skip)) | (apply Exists.intro; apply And.intro; (first | (focus (repeat (first | (with_reducible assumption) | (with_reducible exact AH.set_same _ _ _) | ((first | refine AH.get_ne ?_ ?_); (first | (with_reducible assumption) | exact Ne.symm (by with_reducible assumption))))); done))) | (apply Exists.intro; apply And.intro; first | (with_reducible assumption) | ((try simp only [List.getElem?_drop, Nat.mul_one, Nat.add_zero, Nat.zero_add]); first | (with_reducible assumption) | rfl)) | (apply Exists.intro; apply And.intro; (focus (intro G; ((conv => whnf); (try left); (conv => whnf); first | exact And.intro rfl rfl)))) | (apply And.intro; (first | rfl | (with_reducible assumption) | exact Nat.le_of_ble_eq_true rfl)) | (refine ACall.to (b0 _) ?_))) <;> (try (conv => whnf))
  (obtain ⟨t2, hq_⟩ : ∃ t2, t2 = c := ⟨_, rfl⟩); subst hq_
  have h2 : H t2 = none := by assumption
  refine AWq.in ?_
  refine AWp_spare fun q1 hq1 => ?_
  refine AWp_spare fun q2 hq2 => ?_
  refine AWp.of tt_ok (dok _) rfl ?_
  obtain ⟨nm, k0, k1, k2⟩ : ∃ nm : Nat → Nat, nm 0 = t2 ∧ nm 1 = q1 ∧ nm 2 = q2 := ⟨fun k => if k = 0 then t2 else if k = 1 then q1 else q2, rfl, rfl, rfl⟩
  subst k0 k1 k2
  have n10 : nm 1 ≠ nm 0 := (AH.none_set hq1).1
  have n21 : nm 2 ≠ nm 1 := (AH.none_set hq2).1
  have n20 : nm 2 ≠ nm 0 := (AH.none_set (AH.none_set hq2).2).1
  refine AWq.drawK mo [(2, 0), (10, 1), (13, 2)] nm ?_ (by decide +kernel) ?_
  · intro a b ha hb hab
    simp at ha hb
    rcases ha with rfl | rfl | rfl <;> rcases hb with rfl | rfl | rfl <;> first | rfl | exact absurd hab n10 | exact absurd hab (Ne.symm n10) | exact absurd hab n21 | exact absurd hab (Ne.symm n21) | exact absurd hab n20 | exact absurd hab (Ne.symm n20)
  (repeat' ((conv => whnf); first | refine DrawK.consD ?_ | refine DrawK.nil ?_ | refine Then.mk ?_ | refine OpsA.cons ?_ | refine OpsA.nil ?_ | refine AWq.seq ?_ | refine AWq.region ?_ | refine AWq.cond ?_ | refine AWq.skip ?_ | refine AWq.ret ?_ | (refine Both.mk ?_ ?_ <;> intro hc <;> (first | exact Bool.noConfusion hc | skip)) | (intro c hc; (try (simp only [AH.none_iff] at hc; repeat (have hn := hc.1; replace hc := hc.2))); (first | (refine i64_k hc ?_ ?_ ?_ ; omega; omega; (clear hc; intro hc; subst hc)) | skip)) | (apply Exists.intro; apply And.intro; (first | (focus (repeat (first | (with_reducible assumption) | (with_reducible exact AH.set_same _ _ _) | ((first | refine AH.get_ne ?_ ?_); (first | (with_reducible assumption) | exact Ne.symm (by with_reducible assumption))))); done))) | (apply Exists.intro; apply And.intro; first | (with_reducible assumption) | ((try simp only [List.getElem?_drop, Nat.mul_one, Nat.add_zero, Nat.zero_add]); first | (with_reducible assumption) | rfl)) | (apply Exists.intro; apply And.intro; (focus (intro G; ((conv => whnf); (try left); (conv => whnf); first | exact And.intro rfl rfl)))) | (apply And.intro; (first | rfl | (with_reducible assumption) | exact Nat.le_of_ble_eq_true rfl)) | (refine ACall.to (b0 _) ?_))) <;> (try (conv => whnf))
  refine Or.inr ⟨dL 256 fun _ => -1, 256, 1, rfl, fun G => ?_, ?_⟩
  · exact (rp G).mono (by rintro y H' ⟨q, hq, rfl, rfl⟩; exact ⟨q, hq, rfl, rfl⟩)
  (repeat' ((conv => whnf); first | refine DrawK.consD ?_ | refine DrawK.nil ?_ | refine Then.mk ?_ | refine OpsA.cons ?_ | refine OpsA.nil ?_ | refine AWq.seq ?_ | refine AWq.region ?_ | refine AWq.cond ?_ | refine AWq.skip ?_ | refine AWq.ret ?_ | (refine Both.mk ?_ ?_ <;> intro hc <;> (first | exact Bool.noConfusion hc | skip)) | (intro c hc; (try (simp only [AH.none_iff] at hc; repeat (have hn := hc.1; replace hc := hc.2))); (first | (refine i64_k hc ?_ ?_ ?_ ; omega; omega; (clear hc; intro hc; subst hc)) | skip)) | (apply Exists.intro; apply And.intro; (first | (focus (repeat (first | (with_reducible assumption) | (with_reducible exact AH.set_same _ _ _) | ((first | refine AH.get_ne ?_ ?_); (first | (with_reducible assumption) | exact Ne.symm (by with_reducible assumption))))); done))) | (apply Exists.intro; apply And.intro; first | (with_reducible assumption) | ((try simp only [List.getElem?_drop, Nat.mul_one, Nat.add_zero, Nat.zero_add]); first | (with_reducible assumption) | rfl)) | (apply Exists.intro; apply And.intro; (focus (intro G; ((conv => whnf); (try left); (conv => whnf); first | exact And.intro rfl rfl)))) | (apply And.intro; (first | rfl | (with_reducible assumption) | exact Nat.le_of_ble_eq_true rfl)) | (refine ACall.to (b0 _) ?_))) <;> (try (conv => whnf))
  refine Or.inr ⟨(List.replicate (256 * (n : Int)).toNat [AV.int .i64 0]).flatten, (256 * (n : Int)).toNat, 1, rfl, fun G => ?_, ?_⟩
  · exact ⟨by omega, Int.le_refl _, by omega, fun r hr => ⟨r, hr, rfl, rfl⟩⟩
  (repeat' ((conv => whnf); first | refine DrawK.consD ?_ | refine DrawK.nil ?_ | refine Then.mk ?_ | refine OpsA.cons ?_ | refine OpsA.nil ?_ | refine AWq.seq ?_ | refine AWq.region ?_ | refine AWq.cond ?_ | refine AWq.skip ?_ | refine AWq.ret ?_ | (refine Both.mk ?_ ?_ <;> intro hc <;> (first | exact Bool.noConfusion hc | skip)) | (intro c hc; (try (simp only [AH.none_iff] at hc; repeat (have hn := hc.1; replace hc := hc.2))); (first | (refine i64_k hc ?_ ?_ ?_ ; omega; omega; (clear hc; intro hc; subst hc)) | skip)) | (apply Exists.intro; apply And.intro; (first | (focus (repeat (first | (with_reducible assumption) | (with_reducible exact AH.set_same _ _ _) | ((first | refine AH.get_ne ?_ ?_); (first | (with_reducible assumption) | exact Ne.symm (by with_reducible assumption))))); done))) | (apply Exists.intro; apply And.intro; first | (with_reducible assumption) | ((try simp only [List.getElem?_drop, Nat.mul_one, Nat.add_zero, Nat.zero_add]); first | (with_reducible assumption) | rfl)) | (apply Exists.intro; apply And.intro; (focus (intro G; ((conv => whnf); (try left); (conv => whnf); first | exact And.intro rfl rfl)))) | (apply And.intro; (first | rfl | (with_reducible assumption) | exact Nat.le_of_ble_eq_true rfl)) | (refine ACall.to (b0 _) ?_))) <;> (try (conv => whnf))
  have hqa : H (nm 1) = none := (AH.none_set hq1).2
  have hqb : H (nm 2) = none := (AH.none_set (AH.none_set hq2).2).2
  rw [show (256 * (n : Int)).toNat = 256 * n by omega, show (List.replicate (256 * n) [AV.int .i64 0]).flatten = iS .i64 (emP n) from dL_zero _]
  refine ⟨_, (AH.set H (nm 1) (.row (iS .i64 emL) 1)).set (nm 2) (.row (iS .i64 (emP n)) 1), AVle.refl _, ⟨fun r x hr => ?_⟩, nm 1, nm 2, 1, 1, ⟨hqa, hqb, Ne.symm n21, rfl⟩, rfl⟩
  have m20 := Ne.symm n20
  have m10 := Ne.symm n10
  by_cases e2 : r = nm 2
  · subst e2
    rw [AH.set_same] at hr
    rw [AH.set_ne _ _ n20, AH.set_same]; exact hr
  · rw [AH.set_ne _ _ e2] at hr
    by_cases e1 : r = nm 1
    · subst e1
      rw [AH.set_same] at hr
      rw [AH.set_ne _ _ n10, AH.set_ne _ _ e2, AH.set_same]; exact hr
    · rw [AH.set_ne _ _ e1] at hr
      have e0 : r ≠ nm 0 := fun e => by rw [e, h2] at hr; cases hr
      rw [AH.set_ne _ _ e0, AH.set_ne _ _ e2, AH.set_ne _ _ e1, AH.set_ne _ _ e2, AH.set_ne _ _ e1, AH.set_ne _ _ e0]; exact hr
end Go.Proofs.Ytghielfbdpkhmaa
/- The walk of blend.Shrink. -/
namespace Go.Proofs.Ytghielfbdpkhmaa
open Go.Fw Go
set_option linter.unusedVariables false
set_option linter.unusedSimpArgs false

set_option maxHeartbeats 8000000 in
set_option maxRecDepth 8000 in
theorem shrink_ok (n : Nat) (h1 : 1 ≤ (n : Int) ∧ (n : Int) ≤ 4) (T : Nat → Tl) (hT : ∀ q, q < 4 → (T q).Fit) (hg : ∀ q, q < 4 → goodT n (T q)) (H : AH) :
    ACall Try.prog 44 [.int .i64 n, .agg (rowF T)] H (fun z H' => z = .tup [tV n (shLL T) (shPP n T), .int .i64 0] ∧ H' = H) := by
  have em := fun H => empty_r n h1 H
  have hseg : ∀ q : Nat, q < 4 → List.take 3 (List.drop ((q : Int).toNat * 3) (List.take 12 (rowF T))) = (T q).cells := fun q hq => by
    rw [List.take_of_length_le (Nat.le_of_eq (rowF_len T)), Int.toNat_natCast]; exact rowF_seg T hq
  have hRl := rowF_len T
  refine ACall.coldT ?_
  generalize rowF T = R at *
  refine ACall_of tt_ok (dok _) Try.func44 rfl (by decide) rfl ?_
  (repeat' ((conv => whnf); first | refine OpsA.cons ?_ | refine OpsA.nil ?_ | refine AWq.seq ?_ | refine AWq.region ?_ | refine AWq.cond ?_ | refine AWq.block ?_ | refine AWq.skip ?_ | refine AWq.ret ?_ | refine AWq.exit ?_ | refine AWq.loop ?_ | refine DrawA.consD ?_ | refine DrawA.nil ?_ | refine AWq.draw (by decide +kernel) ?_ | (refine Both.mk ?_ ?_ <;> intro hc <;> (first | exact Bool.noConfusion hc | exact absurd (by with_reducible rfl) hc | exact absurd hc (by assumption) | (exfalso; omega) | skip)) | (intro c hc; (try (simp only [AH.none_iff] at hc; repeat (have hn := hc.1; replace hc := hc.2))); (first | (have hc2 := Eq.trans hc (by with_reducible assumption); clear hc; subst hc2) | (refine i64_k hc ?_ ?_ ?_ ; omega; omega; (clear hc; intro hc; subst hc)) | subst hc | skip)) | (apply Exists.intro; apply And.intro; (first | (focus (repeat (first | (with_reducible assumption) | (with_reducible exact AH.set_same _ _ _) | ((first | refine AH.get_ne ?_ ?_); (first | (with_reducible assumption))))); done))) | (apply Exists.intro; apply And.intro; first | (with_reducible assumption) | ((try simp only [List.getElem?_drop, Nat.mul_one, Nat.add_zero, Nat.zero_add]); first | (with_reducible assumption) | rfl)) | (apply And.intro; (first | rfl | (with_reducible assumption) | exact Nat.le_of_ble_eq_true rfl | omega | (simp <;> omega))))) <;> (try (conv => whnf))
  (obtain ⟨c4, hq_⟩ : ∃ c4, c4 = c := ⟨_, rfl⟩); subst hq_
  have h4 : H c4 = none := hc
  have hn' : c ≠ c4 := Ne.symm hn
  refine Then.mk (AWq.in ?_)
  refine AWp_freezeP 3 rfl rfl (by (first | (focus (repeat (first | (with_reducible assumption) | (with_reducible exact AH.set_same _ _ _) | ((first | refine AH.get_ne ?_ ?_); (first | (with_reducible assumption))))); done))) ?_
  rw [AH.set_comm _ _ _ hn', AH.del_set _ _ _ (by rw [AH.set_ne _ _ hn']; assumption)]
  clear hn hn' hc
  refine AWp.of tt_ok (dok _) rfl ?_
  (repeat' ((conv => whnf); first | refine OpsA.cons ?_ | refine OpsA.nil ?_ | refine AWq.seq ?_ | refine AWq.region ?_ | refine AWq.cond ?_ | refine AWq.block ?_ | refine AWq.skip ?_ | refine AWq.ret ?_ | refine AWq.exit ?_ | refine AWq.loop ?_ | refine DrawA.consD ?_ | refine DrawA.nil ?_ | refine AWq.draw (by decide +kernel) ?_ | (refine Both.mk ?_ ?_ <;> intro hc <;> (first | exact Bool.noConfusion hc | exact absurd (by with_reducible rfl) hc | exact absurd hc (by assumption) | (exfalso; omega) | skip)) | (intro c hc; (try (simp only [AH.none_iff] at hc; repeat (have hn := hc.1; replace hc := hc.2))); (first | (have hc2 := Eq.trans hc (by with_reducible assumption); clear hc; subst hc2) | (refine i64_k hc ?_ ?_ ?_ ; omega; omega; (clear hc; intro hc; subst hc)) | subst hc | skip)) | (apply Exists.intro; apply And.intro; (first | (focus (repeat (first | (with_reducible assumption) | (with_reducible exact AH.set_same _ _ _) | ((first | refine AH.get_ne ?_ ?_); (first | (with_reducible assumption))))); done))) | (apply Exists.intro; apply And.intro; first | (with_reducible assumption) | ((try simp only [List.getElem?_drop, Nat.mul_one, Nat.add_zero, Nat.zero_add]); first | (with_reducible assumption) | rfl)) | (apply And.intro; (first | rfl | (with_reducible assumption) | exact Nat.le_of_ble_eq_true rfl | omega | (simp <;> omega))))) <;> (try (conv => whnf))
  refine (em _).mono ?_
  rintro y H' ⟨q1, q2, v1, v2, g, rfl⟩
  have hq1 : (H.set c4 (.row [.int .i64 0, .nils, .nils] 0)) q1 = none := g.ha
  have hq2 : (H.set c4 (.row [.int .i64 0, .nils, .nils] 0)) q2 = none := g.hb
  have n12 := g.ab
  obtain ⟨Sh, hSh⟩ : ∃ Sh : List Int → List Int → AH, ∀ A B, Sh A B = ((H.set c4 (.row [.int .i64 0, .nils, .nils] 0)).set q1 (.row (iS .i64 A) v1)).set q2 (.row (iS .i64 B) v2) := ⟨_, fun _ _ => rfl⟩
  have hH' : H' = Sh emL (emP n) := by rw [hSh]; exact g.e
  obtain ⟨hq1a, hq1b⟩ := AH.none_set hq1
  obtain ⟨hq2a, hq2b⟩ := AH.none_set hq2
  subst hH'
  clear g
  have e0 : emL = lbD T (doneQ 0 0) := by rw [doneQ_first, lbD_none]
  have e1 : emP n = pxD n T (doneQ 0 0) 0 0 := by rw [doneQ_first, pxD_none]
  rw [e0, e1]
  have gc4 : ∀ A B, Sh A B c4 = some (.row [.int .i64 0, .nils, .nils] 0) := fun A B => by
    rw [hSh, AH.set_ne _ _ (Ne.symm hq2a), AH.set_ne _ _ (Ne.symm hq1a), AH.set_same]
  (repeat' ((conv => whnf); first | refine OpsA.cons ?_ | refine OpsA.nil ?_ | refine AWq.seq ?_ | refine AWq.region ?_ | refine AWq.cond ?_ | refine AWq.block ?_ | refine AWq.skip ?_ | refine AWq.ret ?_ | refine AWq.exit ?_ | refine AWq.loop ?_ | refine DrawA.consD ?_ | refine DrawA.nil ?_ | refine AWq.draw (by decide +kernel) ?_ | (refine Both.mk ?_ ?_ <;> intro hc <;> (first | exact Bool.noConfusion hc | exact absurd (by with_reducible rfl) hc | exact absurd hc (by assumption) | (exfalso; omega) | skip)) | (intro c hc; (try (simp only [AH.none_iff] at hc; repeat (have hn := hc.1; replace hc := hc.2))); (first | (have hc2 := Eq.trans hc (by with_reducible assumption); clear hc; subst hc2) | (refine i64_k hc ?_ ?_ ?_ ; omega; omega; (clear hc; intro hc; subst hc)) | subst hc | skip)) | (apply Exists.intro; apply And.intro; (first | (focus (repeat (first | (with_reducible assumption) | (with_reducible exact AH.set_same _ _ _) | ((first | refine AH.get_ne ?_ ?_); (first | (with_reducible assumption))))); done))) | (apply Exists.intro; apply And.intro; first | (with_reducible assumption) | ((try simp only [List.getElem?_drop, Nat.mul_one, Nat.add_zero, Nat.zero_add]); first | (with_reducible assumption) | rfl)) | (apply And.intro; (first | rfl | (with_reducible assumption) | exact Nat.le_of_ble_eq_true rfl | omega | (simp <;> omega))))) <;> (try (conv => whnf))
  refine Then.mk (AWq.in ?_)
  refine AWp_segP 6 [.int .i64 n, .sl q1 v1 1 0 256 none, .sl q2 v2 1 0 (256 * n) none] rfl rfl (by assumption) rfl rfl ?_
  refine AWp.of tt_ok (dok _) rfl ?_
  obtain ⟨S, hS⟩ : ∃ S, S = Sh (lbD T (doneQ 0 0)) (pxD n T (doneQ 0 0) 0 0) := ⟨_, rfl⟩
  rw [← hS]
  (repeat' ((conv => whnf); first | refine Then.mk ?_ | refine OpsA.cons ?_ | refine OpsA.nil ?_ | refine AWq.seq ?_ | refine AWq.region ?_ | refine AWq.cond ?_ | refine AWq.block ?_ | refine AWq.skip ?_ | refine AWq.ret ?_ | refine AWq.exit ?_ | refine AWq.loop ?_ | refine DrawA.consD ?_ | refine DrawA.nil ?_ | refine AWq.draw (by decide +kernel) ?_ | (refine Both.mk ?_ ?_ <;> intro hc <;> (first | exact Bool.noConfusion hc | exact absurd (by with_reducible rfl) hc | exact absurd hc (by assumption) | (exfalso; omega) | skip)) | (intro c hc; (try (simp only [AH.none_iff] at hc; repeat (have hn := hc.1; replace hc := hc.2))); (first | (have hc2 := Eq.trans hc (by with_reducible assumption); clear hc; subst hc2) | (refine i64_k hc ?_ ?_ ?_ ; omega; omega; (clear hc; intro hc; subst hc)) | subst hc | skip)) | (apply Exists.intro; apply And.intro; (first | (focus (repeat (first | (with_reducible assumption) | (with_reducible exact AH.set_same _ _ _) | ((first | refine AH.get_ne ?_ ?_); (first | (with_reducible assumption))))); done))) | (apply Exists.intro; apply And.intro; first | (with_reducible assumption) | ((try simp only [List.getElem?_drop, Nat.mul_one, Nat.add_zero, Nat.zero_add]); first | (with_reducible assumption) | rfl)) | (apply And.intro; (first | rfl | (with_reducible assumption) | exact Nat.le_of_ble_eq_true rfl | omega | (simp <;> omega))))) <;> (try (conv => whnf))
  refine AWp_loop (σ := Nat) (5 :: 9 :: 33 :: 34 :: 35 :: 36 :: 37 :: 38 :: 39 :: 40 :: 41 :: 42 :: 43 :: 44 :: 45 :: 46 :: 47 :: 48 :: 49 :: 50 :: 51 :: 52 :: []) (fun i => [(33, .int .i64 i)]) (fun _ => S) (fun i => i ≤ 4) (fun i => 4 - i) 0 rfl (Nat.zero_le _) ⟨rfl, trivial⟩ (HLe.refl _) ?_
  intro i hi
  refine AWp.of tt_ok (dok _) rfl ?_
  dsimp only at hi ⊢
  by_cases hit : i < 4
  · have hsg : List.take 3 (List.drop ((i : Int).toNat * 3) (List.take 12 R)) = (T i).cells := hseg i hit
    have hf := hT i hit
    have hgi := hg i hit
    generalize T i = t at *
    obtain ⟨b, L, P⟩ := t
    obtain ⟨f1, f2, f3⟩ := hf
    unfold goodT at hgi
    unfold Tl.cells at hsg
    dsimp only at hgi hsg f1 f2 f3
    have ho3 : (List.take 3 (List.drop ((i : Int).toNat * 3) (List.take 12 R))).all one = true := by rw [hsg]; rfl
    have vc := fun H => valid_c b L P f1 (by unfold tI; omega) (by unfold tI; omega) H
    unfold tV at vc
    have l1 : (iS .i64 L).length = L.length := by simp
    rcases hgi with h0 | ⟨h0, hb⟩
    · (repeat' ((conv => whnf); first | (refine Then.mk (AWq.in ?_); refine AWp_segP 9 ([.int .i64 b, .cs (iS .i64 L) L.length, .cs (iS .i64 P) P.length]) rfl rfl (by assumption) (hsg) (rfl) ?_; refine AWp.of tt_ok (dok _) rfl ?_) | refine Then.mk ?_ | refine OpsA.cons ?_ | refine OpsA.nil ?_ | refine AWq.seq ?_ | refine AWq.region ?_ | refine AWq.cond ?_ | refine AWq.block ?_ | refine AWq.skip ?_ | refine AWq.ret ?_ | refine AWq.exit ?_ | refine AWq.loop ?_ | refine DrawA.consD ?_ | refine DrawA.nil ?_ | refine AWq.draw (by decide +kernel) ?_ | (refine Both.mk ?_ ?_ <;> intro hc <;> (first | exact Bool.noConfusion hc | exact absurd (by with_reducible rfl) hc | exact absurd hc (by assumption) | (exfalso; omega) | skip)) | (intro c hc; (try (simp only [AH.none_iff] at hc; repeat (have hn := hc.1; replace hc := hc.2))); (first | (have hc2 := Eq.trans hc (by with_reducible assumption); clear hc; subst hc2) | (refine i64_k hc ?_ ?_ ?_ ; omega; omega; (clear hc; intro hc; subst hc)) | subst hc | skip)) | (apply Exists.intro; apply And.intro; (first | (focus (repeat (first | (with_reducible assumption) | (with_reducible exact AH.set_same _ _ _) | ((first | refine AH.get_ne ?_ ?_); (first | (with_reducible assumption))))); done))) | (apply Exists.intro; apply And.intro; first | (with_reducible assumption) | ((try simp only [List.getElem?_drop, Nat.mul_one, Nat.add_zero, Nat.zero_add]); first | (with_reducible assumption) | rfl)) | (apply And.intro; (first | rfl | (with_reducible assumption) | exact Nat.le_of_ble_eq_true rfl | omega | (simp <;> omega))) | (refine ACall.to (vc _) ?_))) <;> (try (conv => whnf))
      exact ⟨i + 1, hit, by omega, ⟨congrArg (AV.int .i64) (by omega), trivial⟩, HLe.refl _⟩
    · rw [h0] at vc
      subst hb
      (repeat' ((conv => whnf); first | (refine Then.mk (AWq.in ?_); refine AWp_segP 9 ([.int .i64 (n : Int), .cs (iS .i64 L) L.length, .cs (iS .i64 P) P.length]) rfl rfl (by assumption) (hsg) (rfl) ?_; refine AWp.of tt_ok (dok _) rfl ?_) | refine Then.mk ?_ | refine OpsA.cons ?_ | refine OpsA.nil ?_ | refine AWq.seq ?_ | refine AWq.region ?_ | refine AWq.cond ?_ | refine AWq.block ?_ | refine AWq.skip ?_ | refine AWq.ret ?_ | refine AWq.exit ?_ | refine AWq.loop ?_ | refine DrawA.consD ?_ | refine DrawA.nil ?_ | refine AWq.draw (by decide +kernel) ?_ | (refine Both.mk ?_ ?_ <;> intro hc <;> (first | exact Bool.noConfusion hc | exact absurd (by with_reducible rfl) hc | exact absurd hc (by assumption) | (exfalso; omega) | skip)) | (intro c hc; (try (simp only [AH.none_iff] at hc; repeat (have hn := hc.1; replace hc := hc.2))); (first | (have hc2 := Eq.trans hc (by with_reducible assumption); clear hc; subst hc2) | (refine i64_k hc ?_ ?_ ?_ ; omega; omega; (clear hc; intro hc; subst hc)) | subst hc | skip)) | (apply Exists.intro; apply And.intro; (first | (focus (repeat (first | (with_reducible assumption) | (with_reducible exact AH.set_same _ _ _) | ((first | refine AH.get_ne ?_ ?_); (first | (with_reducible assumption))))); done))) | (apply Exists.intro; apply And.intro; first | (with_reducible assumption) | ((try simp only [List.getElem?_drop, Nat.mul_one, Nat.add_zero, Nat.zero_add]); first | (with_reducible assumption) | rfl)) | (apply And.intro; (first | rfl | (with_reducible assumption) | exact Nat.le_of_ble_eq_true rfl | omega | (simp <;> omega))) | (refine ACall.to (vc _) ?_))) <;> (try (conv => whnf))
      all_goals exact ⟨i + 1, hit, by omega, ⟨congrArg (AV.int .i64) (by omega), trivial⟩, HLe.refl _⟩
  have hie : i = 4 := by omega
  subst hie
  (repeat' ((conv => whnf); first | refine Then.mk ?_ | refine OpsA.cons ?_ | refine OpsA.nil ?_ | refine AWq.seq ?_ | refine AWq.region ?_ | refine AWq.cond ?_ | refine AWq.block ?_ | refine AWq.skip ?_ | refine AWq.ret ?_ | refine AWq.exit ?_ | refine AWq.loop ?_ | refine DrawA.consD ?_ | refine DrawA.nil ?_ | refine AWq.draw (by decide +kernel) ?_ | (refine Both.mk ?_ ?_ <;> intro hc <;> (first | exact Bool.noConfusion hc | exact absurd (by with_reducible rfl) hc | exact absurd hc (by assumption) | (exfalso; omega) | skip)) | (intro c hc; (try (simp only [AH.none_iff] at hc; repeat (have hn := hc.1; replace hc := hc.2))); (first | (have hc2 := Eq.trans hc (by with_reducible assumption); clear hc; subst hc2) | (refine i64_k hc ?_ ?_ ?_ ; omega; omega; (clear hc; intro hc; subst hc)) | subst hc | skip)) | (apply Exists.intro; apply And.intro; (first | (focus (repeat (first | (with_reducible assumption) | (with_reducible exact AH.set_same _ _ _) | ((first | refine AH.get_ne ?_ ?_); (first | (with_reducible assumption))))); done))) | (apply Exists.intro; apply And.intro; first | (with_reducible assumption) | ((try simp only [List.getElem?_drop, Nat.mul_one, Nat.add_zero, Nat.zero_add]); first | (with_reducible assumption) | rfl)) | (apply And.intro; (first | rfl | (with_reducible assumption) | exact Nat.le_of_ble_eq_true rfl | omega | (simp <;> omega))))) <;> (try (conv => whnf))
  rw [hS]
  clear hS S
  refine AWp_loop (σ := Nat) (10 :: 11 :: 12 :: 13 :: 14 :: 15 :: 16 :: 17 :: 18 :: 19 :: 20 :: 22 :: 54 :: 55 :: 56 :: 57 :: 58 :: 59 :: 60 :: 61 :: 62 :: 63 :: 64 :: 65 :: 66 :: 67 :: 68 :: 69 :: 70 :: 71 :: 72 :: 73 :: 74 :: 75 :: 76 :: 77 :: 78 :: 79 :: 80 :: 81 :: 82 :: 83 :: 84 :: 85 :: 86 :: 87 :: 88 :: 89 :: 90 :: 91 :: 92 :: 93 :: 94 :: 95 :: 96 :: 97 :: 98 :: 99 :: 100 :: 101 :: 102 :: 103 :: 104 :: 105 :: 106 :: 107 :: 108 :: 109 :: 110 :: 111 :: 112 :: 113 :: 114 :: 115 :: 116 :: 117 :: 118 :: 119 :: 120 :: 121 :: 122 :: 123 :: 124 :: 125 :: 126 :: 127 :: 128 :: 129 :: 130 :: 131 :: 132 :: 133 :: 134 :: 135 :: 136 :: 137 :: 138 :: 139 :: 140 :: 141 :: 142 :: 143 :: 144 :: 145 :: 146 :: 147 :: 148 :: 149 :: 150 :: 151 :: 152 :: 153 :: 154 :: 155 :: 156 :: []) (fun q => [(54, .int .i64 q)]) (fun q => Sh (lbD T (doneQ q 0)) (pxD n T (doneQ q 0) 0 0)) (fun q => q ≤ 4) (fun q => 4 - q) 0 rfl (Nat.zero_le _) ⟨rfl, trivial⟩ (HLe.refl _) ?_
  intro q hq
  refine AWp.of tt_ok (dok _) rfl ?_
  dsimp only at hq ⊢
  by_cases hqt : q < 4
  · have hsg : List.take 3 (List.drop ((q : Int).toNat * 3) (List.take 12 R)) = (T q).cells := hseg q hqt
    have hf := hT q hqt
    have hgq := hg q hqt
    obtain ⟨t, ht⟩ : ∃ t, t = T q := ⟨_, rfl⟩
    rw [← ht] at hsg hf hgq
    obtain ⟨b, L, P⟩ := t
    obtain ⟨f1, f2, f3⟩ := hf
    unfold goodT at hgq
    unfold Tl.cells at hsg
    dsimp only at hgq hsg f1 f2 f3
    have ho3 : (List.take 3 (List.drop ((q : Int).toNat * 3) (List.take 12 R))).all one = true := by rw [hsg]; rfl
    have l1 : (iS .i64 L).length = L.length := by simp
    by_cases hL0 : L.length = 0
    · have hTL : (T q).L.length = 0 := by rw [← ht]; exact hL0
      have e2 : lbD T (doneQ q 0) = lbD T (doneQ (q + 1) 0) := lbD_same fun a ha => by
        rw [doneQ_next]
        by_cases e : shQ a = q
        · exact .inr (by unfold labA; rw [e, if_pos hTL])
        · exact .inl (decide_eq_decide.2 (by omega))
      have e3 : pxD n T (doneQ q 0) 0 0 = pxD n T (doneQ (q + 1) 0) 0 0 := pxD_same (by omega) fun a ha => by
        rw [doneQ_next]
        by_cases e : shQ a = q
        · exact .inr fun b hb => by unfold pixA; rw [e, if_pos hTL]
        · exact .inl (decide_eq_decide.2 (by omega))
      have eG : Sh (lbD T (doneQ q 0)) (pxD n T (doneQ q 0) 0 0) = Sh (lbD T (doneQ (q + 1) 0)) (pxD n T (doneQ (q + 1) 0) 0 0) := by rw [← e2, ← e3]
      generalize Sh (lbD T (doneQ q 0)) (pxD n T (doneQ q 0) 0 0) = G at *
      (repeat' ((conv => whnf); first | (refine Then.mk (AWq.in ?_); refine AWp_segP 11 ([.int .i64 b, .cs (iS .i64 L) L.length, .cs (iS .i64 P) P.length]) rfl rfl (by assumption) (hsg) (rfl) ?_; refine AWp.of tt_ok (dok _) rfl ?_) | refine Then.mk ?_ | refine OpsA.cons ?_ | refine OpsA.nil ?_ | refine AWq.seq ?_ | refine AWq.region ?_ | refine AWq.cond ?_ | refine AWq.block ?_ | refine AWq.skip ?_ | refine AWq.ret ?_ | refine AWq.exit ?_ | refine AWq.loop ?_ | refine DrawA.consD ?_ | refine DrawA.nil ?_ | refine AWq.draw (by decide +kernel) ?_ | (refine Both.mk ?_ ?_ <;> intro hc <;> (first | exact Bool.noConfusion hc | exact absurd (by with_reducible rfl) hc | exact absurd hc (by assumption) | (exfalso; omega) | skip)) | (intro c hc; (try (simp only [AH.none_iff] at hc; repeat (have hn := hc.1; replace hc := hc.2))); (first | (have hc2 := Eq.trans hc (by with_reducible assumption); clear hc; subst hc2) | (refine i64_k hc ?_ ?_ ?_ ; omega; omega; (clear hc; intro hc; subst hc)) | subst hc | skip)) | (apply Exists.intro; apply And.intro; (first | (focus (repeat (first | (with_reducible assumption) | (with_reducible exact AH.set_same _ _ _) | ((first | refine AH.get_ne ?_ ?_); (first | (with_reducible assumption))))); done))) | (apply Exists.intro; apply And.intro; first | (with_reducible assumption) | ((try simp only [List.getElem?_drop, Nat.mul_one, Nat.add_zero, Nat.zero_add]); first | (with_reducible assumption) | rfl)) | (apply And.intro; (first | rfl | (with_reducible assumption) | exact Nat.le_of_ble_eq_true rfl | omega | (simp <;> omega))))) <;> (try (conv => whnf))
      refine AWp_loop (σ := Nat) (12 :: 13 :: 14 :: 15 :: 16 :: 17 :: 18 :: 19 :: 20 :: 22 :: 58 :: 59 :: 60 :: 61 :: 62 :: 63 :: 64 :: 65 :: 66 :: 67 :: 68 :: 69 :: 70 :: 71 :: 72 :: 73 :: 74 :: 75 :: 76 :: 77 :: 78 :: 79 :: 80 :: 81 :: 82 :: 83 :: 84 :: 85 :: 86 :: 87 :: 88 :: 89 :: 90 :: 91 :: 92 :: 93 :: 94 :: 95 :: 96 :: 97 :: 98 :: 99 :: 100 :: 101 :: 102 :: 103 :: 104 :: 105 :: 106 :: 107 :: 108 :: 109 :: 110 :: 111 :: 112 :: 113 :: 114 :: 115 :: 116 :: 117 :: 118 :: 119 :: 120 :: 121 :: 122 :: 123 :: 124 :: 125 :: 126 :: 127 :: 128 :: 129 :: 130 :: 131 :: 132 :: 133 :: 134 :: 135 :: 136 :: 137 :: 138 :: 139 :: 140 :: 141 :: 142 :: 143 :: 144 :: 145 :: 146 :: 147 :: 148 :: 149 :: 150 :: 151 :: 152 :: 153 :: 154 :: 155 :: []) (fun i => [(12, .int .i64 0)]) (fun i => G) (fun i => i ≤ 64) (fun i => 64 - i) 0 rfl (Nat.zero_le _) ⟨rfl, trivial⟩ (HLe.refl _) ?_
      intro i hi
      refine AWp.of tt_ok (dok _) rfl ?_
      dsimp only at hi ⊢
      (repeat' ((conv => whnf); first | refine Then.mk ?_ | refine OpsA.cons ?_ | refine OpsA.nil ?_ | refine AWq.seq ?_ | refine AWq.region ?_ | refine AWq.cond ?_ | refine AWq.block ?_ | refine AWq.skip ?_ | refine AWq.ret ?_ | refine AWq.exit ?_ | refine AWq.loop ?_ | refine DrawA.consD ?_ | refine DrawA.nil ?_ | refine AWq.draw (by decide +kernel) ?_ | (refine Both.mk ?_ ?_ <;> intro hc <;> (first | exact Bool.noConfusion hc | exact absurd (by with_reducible rfl) hc | exact absurd hc (by assumption) | (exfalso; omega) | skip)) | (intro c hc; (try (simp only [AH.none_iff] at hc; repeat (have hn := hc.1; replace hc := hc.2))); (first | (have hc2 := Eq.trans hc (by with_reducible assumption); clear hc; subst hc2) | (refine i64_k hc ?_ ?_ ?_ ; omega; omega; (clear hc; intro hc; subst hc)) | subst hc | skip)) | (apply Exists.intro; apply And.intro; (first | (focus (repeat (first | (with_reducible assumption) | (with_reducible exact AH.set_same _ _ _) | ((first | refine AH.get_ne ?_ ?_); (first | (with_reducible assumption))))); done))) | (apply Exists.intro; apply And.intro; first | (with_reducible assumption) | ((try simp only [List.getElem?_drop, Nat.mul_one, Nat.add_zero, Nat.zero_add]); first | (with_reducible assumption) | rfl)) | (apply And.intro; (first | rfl | (with_reducible assumption) | exact Nat.le_of_ble_eq_true rfl | omega | (simp <;> omega))))) <;> (try (conv => whnf))
      exact ⟨q + 1, hqt, by omega, ⟨congrArg (AV.int .i64) (by omega), trivial⟩, HLe.of_eq eG.symm⟩
    · have hgd := hgq.resolve_left hL0
      obtain ⟨hte, rfl⟩ := hgd
      obtain ⟨⟨-, t2, t3⟩, hlb⟩ := tile_good hte
      rw [Int.toNat_natCast] at hlb
      have hl2 : P.length = 256 * n := by omega
      have hfl := fun a => frm_labels t2 hlb a
      have labT : ∀ a, shQ a = q → labA T a = shL L a := fun a ha => by unfold labA; rw [ha, ← ht, if_neg hL0]
      have pixT : ∀ a b, shQ a = q → pixA n T a b = shP n L P a b := fun a b ha => by unfold pixA; rw [ha, ← ht, if_neg hL0]
      obtain ⟨G, hG⟩ : ∃ G, G = Sh (lbD T (doneQ q 0)) (pxD n T (doneQ q 0) 0 0) := ⟨_, rfl⟩
      rw [← hG]
      (repeat' ((conv => whnf); first | (refine Then.mk (AWq.in ?_); refine AWp_segP 11 ([.int .i64 (n : Int), .cs (iS .i64 L) L.length, .cs (iS .i64 P) P.length]) rfl rfl (by assumption) (hsg) (rfl) ?_; refine AWp.of tt_ok (dok _) rfl ?_) | refine Then.mk ?_ | refine OpsA.cons ?_ | refine OpsA.nil ?_ | refine AWq.seq ?_ | refine AWq.region ?_ | refine AWq.cond ?_ | refine AWq.block ?_ | refine AWq.skip ?_ | refine AWq.ret ?_ | refine AWq.exit ?_ | refine AWq.loop ?_ | refine DrawA.consD ?_ | refine DrawA.nil ?_ | refine AWq.draw (by decide +kernel) ?_ | (refine Both.mk ?_ ?_ <;> intro hc <;> (first | exact Bool.noConfusion hc | exact absurd (by with_reducible rfl) hc | exact absurd hc (by assumption) | (exfalso; omega) | skip)) | (intro c hc; (try (simp only [AH.none_iff] at hc; repeat (have hn := hc.1; replace hc := hc.2))); (first | (have hc2 := Eq.trans hc (by with_reducible assumption); clear hc; subst hc2) | (refine i64_k hc ?_ ?_ ?_ ; omega; omega; (clear hc; intro hc; subst hc)) | subst hc | skip)) | (apply Exists.intro; apply And.intro; (first | (focus (repeat (first | (with_reducible assumption) | (with_reducible exact AH.set_same _ _ _) | ((first | refine AH.get_ne ?_ ?_); (first | (with_reducible assumption))))); done))) | (apply Exists.intro; apply And.intro; first | (with_reducible assumption) | ((try simp only [List.getElem?_drop, Nat.mul_one, Nat.add_zero, Nat.zero_add]); first | (with_reducible assumption) | rfl)) | (apply And.intro; (first | rfl | (with_reducible assumption) | exact Nat.le_of_ble_eq_true rfl | omega | (simp <;> omega))))) <;> (try (conv => whnf))
      rw [hG]
      clear hc hG G
      refine AWp_loop (σ := Nat) (12 :: 13 :: 14 :: 15 :: 16 :: 17 :: 18 :: 19 :: 20 :: 22 :: 58 :: 59 :: 60 :: 61 :: 62 :: 63 :: 64 :: 65 :: 66 :: 67 :: 68 :: 69 :: 70 :: 71 :: 72 :: 73 :: 74 :: 75 :: 76 :: 77 :: 78 :: 79 :: 80 :: 81 :: 82 :: 83 :: 84 :: 85 :: 86 :: 87 :: 88 :: 89 :: 90 :: 91 :: 92 :: 93 :: 94 :: 95 :: 96 :: 97 :: 98 :: 99 :: 100 :: 101 :: 102 :: 103 :: 104 :: 105 :: 106 :: 107 :: 108 :: 109 :: 110 :: 111 :: 112 :: 113 :: 114 :: 115 :: 116 :: 117 :: 118 :: 119 :: 120 :: 121 :: 122 :: 123 :: 124 :: 125 :: 126 :: 127 :: 128 :: 129 :: 130 :: 131 :: 132 :: 133 :: 134 :: 135 :: 136 :: 137 :: 138 :: 139 :: 140 :: 141 :: 142 :: 143 :: 144 :: 145 :: 146 :: 147 :: 148 :: 149 :: 150 :: 151 :: 152 :: 153 :: 154 :: 155 :: []) (fun i => [(12, .int .i64 i)]) (fun i => Sh (lbD T (doneQ q i)) (pxD n T (doneQ q i) 0 0)) (fun i => i ≤ 64) (fun i => 64 - i) 0 rfl (Nat.zero_le _) ⟨rfl, trivial⟩ (HLe.refl _) ?_
      intro i hi
      refine AWp.of tt_ok (dok _) rfl ?_
      dsimp only at hi ⊢
      by_cases hit : i < 64
      · obtain ⟨G, hG⟩ : ∃ G, G = Sh (lbD T (doneQ q i)) (pxD n T (doneQ q i) 0 0) := ⟨_, rfl⟩
        rw [← hG]
        obtain ⟨a, ha⟩ : ∃ a, a = shAt q i := ⟨_, rfl⟩
        obtain ⟨F, hF⟩ : ∃ F, F = shF a := ⟨_, rfl⟩
        have ww : ∀ x : Int, 0 ≤ x → x < 1000000 → IntKind.i64.wrap x = x := fun x h1 h2 => by rw [IntKind.wrap_i64]; omega
        have eA : IntKind.i64.wrap (IntKind.i64.wrap (IntKind.i64.wrap (IntKind.i64.wrap (IntKind.i64.wrap (IntKind.i64.wrap ((q : Int).tdiv 2) * 8) + IntKind.i64.wrap ((i : Int).tdiv 8)) * 16) + IntKind.i64.wrap ((q : Int).tmod 2 * 8)) + (i : Int).tmod 8) = (a : Nat) := by
          rw [ha, show (q : Int).tdiv 2 = ((q / 2 : Nat) : Int) from rfl, show (q : Int).tmod 2 = ((q % 2 : Nat) : Int) from rfl, show (i : Int).tdiv 8 = ((i / 8 : Nat) : Int) from rfl, show (i : Int).tmod 8 = ((i % 8 : Nat) : Int) from rfl]
          unfold shAt
          rw [ww ((q / 2 : Nat) : Int) (by omega) (by omega), ww (((q / 2 : Nat) : Int) * 8) (by omega) (by omega), ww ((i / 8 : Nat) : Int) (by omega) (by omega), ww (((q / 2 : Nat) : Int) * 8 + ((i / 8 : Nat) : Int)) (by omega) (by omega),
            ww ((((q / 2 : Nat) : Int) * 8 + ((i / 8 : Nat) : Int)) * 16) (by omega) (by omega), ww (((q % 2 : Nat) : Int) * 8) (by omega) (by omega), ww ((((q / 2 : Nat) : Int) * 8 + ((i / 8 : Nat) : Int)) * 16 + ((q % 2 : Nat) : Int) * 8) (by omega) (by omega),
            ww ((((q / 2 : Nat) : Int) * 8 + ((i / 8 : Nat) : Int)) * 16 + ((q % 2 : Nat) : Int) * 8 + ((i % 8 : Nat) : Int)) (by omega) (by omega)]
          omega
        have eF : IntKind.i64.wrap (IntKind.i64.wrap (IntKind.i64.wrap (2 * IntKind.i64.wrap ((i : Int).tdiv 8)) * 16) + IntKind.i64.wrap (2 * (i : Int).tmod 8)) = (F : Nat) := by
          rw [hF, ha, shF_at hqt hit, show (i : Int).tdiv 8 = ((i / 8 : Nat) : Int) from rfl, show (i : Int).tmod 8 = ((i % 8 : Nat) : Int) from rfl]
          rw [ww ((i / 8 : Nat) : Int) (by omega) (by omega), ww (2 * ((i / 8 : Nat) : Int)) (by omega) (by omega), ww (2 * ((i / 8 : Nat) : Int) * 16) (by omega) (by omega), ww (2 * ((i % 8 : Nat) : Int)) (by omega) (by omega), ww (2 * ((i / 8 : Nat) : Int) * 16 + 2 * ((i % 8 : Nat) : Int)) (by omega) (by omega)]
          omega
        have hF2 : F ≤ 238 := by rw [hF]; exact shF_le _
        have hac : a < 256 := by rw [ha]; exact shAt_lt hqt hit
        have haq : shQ a = q := by rw [ha]; exact shQ_at hqt hit
        have x1 : IntKind.i64.wrap ((F : Int) + 1) = F + 1 := by rw [IntKind.wrap_i64]; omega
        have x2 : IntKind.i64.wrap ((F : Int) + 16) = F + 16 := by rw [IntKind.wrap_i64]; omega
        have x3 : IntKind.i64.wrap (((F : Int) + 16) + 1) = F + 17 := by rw [IntKind.wrap_i64]; omega
        have hdel := fun c H h => delete_c 55 (tC n L P) (lessP L) (shA F) (Nat.le_of_ble_eq_true rfl) (shr1_c n L P (shA F) (fun x hx => by have := shA_in hF2 x hx; omega) (by omega)) c 0 H h
        have hfr : keep (lessP L) (shA F) = frm L a := by rw [hF]; rfl
        rw [hfr] at hdel
        iterate 5 ((repeat' ((conv => whnf); first | refine OpsA.cons ?_ | refine OpsA.nil ?_ | refine AWq.seq ?_ | refine AWq.region ?_ | refine AWq.cond ?_ | refine AWq.block ?_ | refine AWq.skip ?_ | refine AWq.ret ?_ | refine AWq.exit ?_ | refine AWq.loop ?_ | refine DrawA.consD ?_ | refine DrawA.nil ?_ | refine AWq.draw (by decide +kernel) ?_ | (refine Both.mk ?_ ?_ <;> intro hc <;> (first | exact Bool.noConfusion hc | exact absurd (by with_reducible rfl) hc | exact absurd hc (by assumption) | (exfalso; omega) | skip)) | (intro c hc; (try (simp only [AH.none_iff] at hc; repeat (have hn := hc.1; replace hc := hc.2))); (first | (have hc2 := Eq.trans hc (by with_reducible assumption); clear hc; subst hc2) | (refine i64_k hc ?_ ?_ ?_ ; omega; omega; (clear hc; intro hc; subst hc)) | subst hc | skip)) | (apply Exists.intro; apply And.intro; (first | (focus (repeat (first | (with_reducible assumption) | (with_reducible exact AH.set_same _ _ _) | ((first | refine AH.get_ne ?_ ?_); (first | (with_reducible assumption))))); done))) | (apply Exists.intro; apply And.intro; first | (with_reducible assumption) | ((try simp only [List.getElem?_drop, Nat.mul_one, Nat.add_zero, Nat.zero_add]); first | (with_reducible assumption) | rfl)) | (apply And.intro; (first | rfl | (with_reducible assumption) | exact Nat.le_of_ble_eq_true rfl | omega | (simp <;> omega))))) <;> (try (conv => whnf)); refine Then.mk ?_)
        (repeat' ((conv => whnf); first | refine Or.inr (Or.inl ?_) | refine OpsA.cons ?_ | refine OpsA.nil ?_ | refine AWq.seq ?_ | refine AWq.region ?_ | refine AWq.cond ?_ | refine AWq.block ?_ | refine AWq.skip ?_ | refine AWq.ret ?_ | refine AWq.exit ?_ | refine AWq.loop ?_ | refine DrawA.consD ?_ | refine DrawA.nil ?_ | refine AWq.draw (by decide +kernel) ?_ | (refine Both.mk ?_ ?_ <;> intro hc <;> (first | exact Bool.noConfusion hc | exact absurd (by with_reducible rfl) hc | exact absurd hc (by assumption) | (exfalso; omega) | skip)) | (intro c hc; (try (simp only [AH.none_iff] at hc; repeat (have hn := hc.1; replace hc := hc.2))); (first | (have hc2 := Eq.trans hc (by with_reducible assumption); clear hc; subst hc2) | (refine i64_k hc ?_ ?_ ?_ ; omega; omega; (clear hc; intro hc; subst hc)) | subst hc | skip)) | (apply Exists.intro; apply And.intro; (first | (focus (repeat (first | (with_reducible assumption) | (with_reducible exact AH.set_same _ _ _) | ((first | refine AH.get_ne ?_ ?_); (first | (with_reducible assumption))))); done))) | (apply Exists.intro; apply And.intro; first | (with_reducible assumption) | ((try simp only [List.getElem?_drop, Nat.mul_one, Nat.add_zero, Nat.zero_add]); first | (with_reducible assumption) | rfl)) | (apply And.intro; (first | rfl | (with_reducible assumption) | exact Nat.le_of_ble_eq_true rfl | omega | (simp <;> omega))))) <;> (try (conv => whnf))
        refine (hdel c (G.set c (.row (iS .i64 (shA F)) 0)) (AH.set_same _ _ _)).mono ?_
        have hGc : G c = none := hc
        rintro y H' ⟨lim, rfl, rfl⟩
        (repeat' ((conv => whnf); first | refine OpsA.cons ?_ | refine OpsA.nil ?_ | refine AWq.seq ?_ | refine AWq.region ?_ | refine AWq.cond ?_ | refine AWq.block ?_ | refine AWq.skip ?_ | refine AWq.ret ?_ | refine AWq.exit ?_ | refine AWq.loop ?_ | refine DrawA.consD ?_ | refine DrawA.nil ?_ | refine AWq.draw (by decide +kernel) ?_ | (refine Both.mk ?_ ?_ <;> intro hc <;> (first | exact Bool.noConfusion hc | exact absurd (by with_reducible rfl) hc | exact absurd hc (by assumption) | (exfalso; omega) | skip)) | (intro c hc; (try (simp only [AH.none_iff] at hc; repeat (have hn := hc.1; replace hc := hc.2))); (first | (have hc2 := Eq.trans hc (by with_reducible assumption); clear hc; subst hc2) | (refine i64_k hc ?_ ?_ ?_ ; omega; omega; (clear hc; intro hc; subst hc)) | subst hc | skip)) | (apply Exists.intro; apply And.intro; (first | (focus (repeat (first | (with_reducible assumption) | (with_reducible exact AH.set_same _ _ _) | ((first | refine AH.get_ne ?_ ?_); (first | (with_reducible assumption))))); done))) | (apply Exists.intro; apply And.intro; first | (with_reducible assumption) | ((try simp only [List.getElem?_drop, Nat.mul_one, Nat.add_zero, Nat.zero_add]); first | (with_reducible assumption) | rfl)) | (apply And.intro; (first | rfl | (with_reducible assumption) | exact Nat.le_of_ble_eq_true rfl | omega | (simp <;> omega))))) <;> (try (conv => whnf))
        refine Then.mk (AWq.in ?_)
        refine AWp_freezeK 17 (frm L a) _ rfl rfl rfl hGc ?_
        refine AWp.of tt_ok (dok _) rfl ?_
        clear eA eF x1 x2 x3 hdel hfr
        have hlf : (iS .i64 (frm L a)).length = (frm L a).length := by simp
        have hf4 := frm_len L a
        have hdq : ∀ x, x < 256 → doneQ q (i + 1) x = (doneQ q i x || decide (x = a)) := by rw [ha]; exact doneQ_put hqt hit
        have hput := lbD_put (T := T) (p := a) hdq
        by_cases h0 : (frm L a).length = 0
        · have hA1 : labA T a = -1 := by rw [labT a haq]; unfold shL; rw [if_pos h0]
          have eL : lbD T (doneQ q (i + 1)) = lbD T (doneQ q i) := lbD_same fun x hx => by
            by_cases e : x = a
            · rw [e]; exact .inr hA1
            · rw [hdq x hx, decide_eq_false e, Bool.or_false]; exact .inl rfl
          have eP : pxD n T (doneQ q (i + 1)) 0 0 = pxD n T (doneQ q i) 0 0 := pxD_same (by omega) fun x hx => by
            by_cases e : x = a
            · rw [e]; exact .inr fun b hb => by rw [pixT a b haq]; unfold shP; rw [if_pos h0]
            · rw [hdq x hx, decide_eq_false e, Bool.or_false]; exact .inl rfl
          (repeat' ((conv => whnf); first | refine Then.mk ?_ | refine OpsA.cons ?_ | refine OpsA.nil ?_ | refine AWq.seq ?_ | refine AWq.region ?_ | refine AWq.cond ?_ | refine AWq.block ?_ | refine AWq.skip ?_ | refine AWq.ret ?_ | refine AWq.exit ?_ | refine AWq.loop ?_ | refine DrawA.consD ?_ | refine DrawA.nil ?_ | refine AWq.draw (by decide +kernel) ?_ | (refine Both.mk ?_ ?_ <;> intro hc <;> (first | exact Bool.noConfusion hc | exact absurd (by with_reducible rfl) hc | exact absurd hc (by assumption) | (exfalso; omega) | skip)) | (intro c hc; (try (simp only [AH.none_iff] at hc; repeat (have hn := hc.1; replace hc := hc.2))); (first | (have hc2 := Eq.trans hc (by with_reducible assumption); clear hc; subst hc2) | (refine i64_k hc ?_ ?_ ?_ ; omega; omega; (clear hc; intro hc; subst hc)) | subst hc | skip)) | (apply Exists.intro; apply And.intro; (first | (focus (repeat (first | (with_reducible assumption) | (with_reducible exact AH.set_same _ _ _) | ((first | refine AH.get_ne ?_ ?_); (first | (with_reducible assumption))))); done))) | (apply Exists.intro; apply And.intro; first | (with_reducible assumption) | ((try simp only [List.getElem?_drop, Nat.mul_one, Nat.add_zero, Nat.zero_add]); first | (with_reducible assumption) | rfl)) | (apply And.intro; (first | rfl | (with_reducible assumption) | exact Nat.le_of_ble_eq_true rfl | omega | (simp <;> omega))))) <;> (try (conv => whnf))
          exact ⟨i + 1, hit, by omega, ⟨congrArg (AV.int .i64) (by omega), trivial⟩, HLe.of_eq (by rw [eL, eP, hG])⟩
        · have hmin := fun H => min_c 57 (tC n L P) (fun x => L.getD x.toNat 0) (frm L a) (by omega) (by omega) (shr2_c n L P (frm L a) (fun x hx => by have := (frm_in L a x hx).1; omega) (hfl a) (by omega)) H
          have hsl : L.getD (leastF (fun x => L.getD x.toNat 0) (frm L a) ((frm L a).length - 1)).toNat 0 = labA T a := by rw [labT a haq]; unfold shL; rw [if_neg h0]
          have hml := frm_in L a _ (leastF_mem (fun x => L.getD x.toNat 0) (frm L a) ((frm L a).length - 1) (by omega))
          generalize leastF (fun x => L.getD x.toNat 0) (frm L a) ((frm L a).length - 1) = m0 at *
          have gm : (iS .i64 L)[m0.toNat]? = some (.int .i64 (L.getD m0.toNat 0)) := iS_get (by omega)
          rw [hsl] at gm
          iterate 2 ((repeat' ((conv => whnf); first | refine OpsA.cons ?_ | refine OpsA.nil ?_ | refine AWq.seq ?_ | refine AWq.region ?_ | refine AWq.cond ?_ | refine AWq.block ?_ | refine AWq.skip ?_ | refine AWq.ret ?_ | refine AWq.exit ?_ | refine AWq.loop ?_ | refine DrawA.consD ?_ | refine DrawA.nil ?_ | refine AWq.draw (by decide +kernel) ?_ | (refine Both.mk ?_ ?_ <;> intro hc <;> (first | exact Bool.noConfusion hc | exact absurd (by with_reducible rfl) hc | exact absurd hc (by assumption) | (exfalso; omega) | skip)) | (intro c hc; (try (simp only [AH.none_iff] at hc; repeat (have hn := hc.1; replace hc := hc.2))); (first | (have hc2 := Eq.trans hc (by with_reducible assumption); clear hc; subst hc2) | (refine i64_k hc ?_ ?_ ?_ ; omega; omega; (clear hc; intro hc; subst hc)) | subst hc | skip)) | (apply Exists.intro; apply And.intro; (first | (focus (repeat (first | (with_reducible assumption) | (with_reducible exact AH.set_same _ _ _) | ((first | refine AH.get_ne ?_ ?_); (first | (with_reducible assumption))))); done))) | (apply Exists.intro; apply And.intro; first | (with_reducible assumption) | ((try simp only [List.getElem?_drop, Nat.mul_one, Nat.add_zero, Nat.zero_add]); first | (with_reducible assumption) | rfl)) | (apply And.intro; (first | rfl | (with_reducible assumption) | exact Nat.le_of_ble_eq_true rfl | omega | (simp <;> omega))) | (refine ACall.to (hmin _) ?_))) <;> (try (conv => whnf)); refine Then.mk ?_)
          have gA : G q1 = some (.row (iS .i64 (lbD T (doneQ q i))) v1) := by rw [hG, hSh]; (first | (focus (repeat (first | (with_reducible assumption) | (with_reducible exact AH.set_same _ _ _) | ((first | refine AH.get_ne ?_ ?_); (first | (with_reducible assumption))))); done))
          have lA : (iS .i64 (lbD T (doneQ q i))).length = 256 := by rw [iS_length]; exact lbD_len _ _
          have hwr : wrA (iS .i64 (lbD T (doneQ q i))) (0 + (a : Int).toNat * 1) [.int .i64 (labA T a)] = iS .i64 (lbD T (doneQ q (i + 1))) := by
            rw [show 0 + (a : Int).toNat * 1 = a by omega, iS_wr1 (by rw [lbD_len]; exact hac), hput]
          have e5 : Sh (lbD T (doneQ q (i + 1))) (pxD n T (doneQ q i) a 0) = G.set q1 (.row (wrA (iS .i64 (lbD T (doneQ q i))) (0 + (a : Int).toNat * 1) [.int .i64 (labA T a)]) v1) := by
            rw [hwr, hG, hSh, hSh, pxD_same (n := n) (T := T) (D := doneQ q i) (D2 := doneQ q i) (p := a) (p2 := 0) (by omega) fun x hx => .inl rfl]; ((funext s; simp only [AH.set, AH.del]; repeat' split) <;> (first | rfl | (exfalso; omega)))
          generalize hRA : iS .i64 (lbD T (doneQ q i)) = RA at *
          iterate 2 ((repeat' ((conv => whnf); first | refine OpsA.cons ?_ | refine OpsA.nil ?_ | refine AWq.seq ?_ | refine AWq.region ?_ | refine AWq.cond ?_ | refine AWq.block ?_ | refine AWq.skip ?_ | refine AWq.ret ?_ | refine AWq.exit ?_ | refine AWq.loop ?_ | refine DrawA.consD ?_ | refine DrawA.nil ?_ | refine AWq.draw (by decide +kernel) ?_ | (refine Both.mk ?_ ?_ <;> intro hc <;> (first | exact Bool.noConfusion hc | exact absurd (by with_reducible rfl) hc | exact absurd hc (by assumption) | (exfalso; omega) | skip)) | (intro c hc; (try (simp only [AH.none_iff] at hc; repeat (have hn := hc.1; replace hc := hc.2))); (first | (have hc2 := Eq.trans hc (by with_reducible assumption); clear hc; subst hc2) | (refine i64_k hc ?_ ?_ ?_ ; omega; omega; (clear hc; intro hc; subst hc)) | subst hc | skip)) | (apply Exists.intro; apply And.intro; (first | (focus (repeat (first | (with_reducible assumption) | (with_reducible exact AH.set_same _ _ _) | ((first | refine AH.get_ne ?_ ?_); (first | (with_reducible assumption))))); done))) | (apply Exists.intro; apply And.intro; first | (with_reducible assumption) | ((try simp only [List.getElem?_drop, Nat.mul_one, Nat.add_zero, Nat.zero_add]); first | (with_reducible assumption) | rfl)) | (apply And.intro; (first | rfl | (with_reducible assumption) | exact Nat.le_of_ble_eq_true rfl | omega | (simp <;> omega))) | (refine ACall.to (hmin _) ?_))) <;> (try (conv => whnf)); refine Then.mk ?_)
          (repeat' ((conv => whnf); first | refine Then.mk ?_ | refine OpsA.cons ?_ | refine OpsA.nil ?_ | refine AWq.seq ?_ | refine AWq.region ?_ | refine AWq.cond ?_ | refine AWq.block ?_ | refine AWq.skip ?_ | refine AWq.ret ?_ | refine AWq.exit ?_ | refine AWq.loop ?_ | refine DrawA.consD ?_ | refine DrawA.nil ?_ | refine AWq.draw (by decide +kernel) ?_ | (refine Both.mk ?_ ?_ <;> intro hc <;> (first | exact Bool.noConfusion hc | exact absurd (by with_reducible rfl) hc | exact absurd hc (by assumption) | (exfalso; omega) | skip)) | (intro c hc; (try (simp only [AH.none_iff] at hc; repeat (have hn := hc.1; replace hc := hc.2))); (first | (have hc2 := Eq.trans hc (by with_reducible assumption); clear hc; subst hc2) | (refine i64_k hc ?_ ?_ ?_ ; omega; omega; (clear hc; intro hc; subst hc)) | subst hc | skip)) | (apply Exists.intro; apply And.intro; (first | (focus (repeat (first | (with_reducible assumption) | (with_reducible exact AH.set_same _ _ _) | ((first | refine AH.get_ne ?_ ?_); (first | (with_reducible assumption))))); done))) | (apply Exists.intro; apply And.intro; first | (with_reducible assumption) | ((try simp only [List.getElem?_drop, Nat.mul_one, Nat.add_zero, Nat.zero_add]); first | (with_reducible assumption) | rfl)) | (apply And.intro; (first | rfl | (with_reducible assumption) | exact Nat.le_of_ble_eq_true rfl | omega | (simp <;> omega))))) <;> (try (conv => whnf))
          refine AWp_loop (σ := Nat) (19 :: 20 :: 22 :: 117 :: 118 :: 119 :: 120 :: 121 :: 122 :: 123 :: 124 :: 125 :: 126 :: 127 :: 128 :: 129 :: 130 :: 131 :: 132 :: 133 :: 134 :: 135 :: 136 :: 137 :: 138 :: 139 :: 140 :: 141 :: 142 :: 143 :: 144 :: 145 :: 146 :: 147 :: 148 :: 149 :: 150 :: 151 :: 152 :: 153 :: 154 :: 155 :: []) (fun k => [(117, .int .i64 k)]) (fun k => Sh (lbD T (doneQ q (i + 1))) (pxD n T (doneQ q i) a k)) (fun k => k ≤ n) (fun k => n - k) 0 rfl (Nat.zero_le _) ⟨rfl, trivial⟩ (HLe.of_eq e5) ?_
          clear e5 hwr gA lA hRA hc RA hmin
          intro k hk
          refine AWp.of tt_ok (dok _) rfl ?_
          dsimp only at hk ⊢
          by_cases hkt : k < n
          · have hbd := shS_bd t2 hlb (a := a) hkt
            obtain ⟨G2, hG2⟩ : ∃ G2, G2 = Sh (lbD T (doneQ q (i + 1))) (pxD n T (doneQ q i) a k) := ⟨_, rfl⟩
            rw [← hG2]
            (repeat' ((conv => whnf); first | refine Then.mk ?_ | refine OpsA.cons ?_ | refine OpsA.nil ?_ | refine AWq.seq ?_ | refine AWq.region ?_ | refine AWq.cond ?_ | refine AWq.block ?_ | refine AWq.skip ?_ | refine AWq.ret ?_ | refine AWq.exit ?_ | refine AWq.loop ?_ | refine DrawA.consD ?_ | refine DrawA.nil ?_ | refine AWq.draw (by decide +kernel) ?_ | (refine Both.mk ?_ ?_ <;> intro hc <;> (first | exact Bool.noConfusion hc | exact absurd (by with_reducible rfl) hc | exact absurd hc (by assumption) | (exfalso; omega) | skip)) | (intro c hc; (try (simp only [AH.none_iff] at hc; repeat (have hn := hc.1; replace hc := hc.2))); (first | (have hc2 := Eq.trans hc (by with_reducible assumption); clear hc; subst hc2) | (refine i64_k hc ?_ ?_ ?_ ; omega; omega; (clear hc; intro hc; subst hc)) | subst hc | skip)) | (apply Exists.intro; apply And.intro; (first | (focus (repeat (first | (with_reducible assumption) | (with_reducible exact AH.set_same _ _ _) | ((first | refine AH.get_ne ?_ ?_); (first | (with_reducible assumption))))); done))) | (apply Exists.intro; apply And.intro; first | (with_reducible assumption) | ((try simp only [List.getElem?_drop, Nat.mul_one, Nat.add_zero, Nat.zero_add]); first | (with_reducible assumption) | rfl)) | (apply And.intro; (first | rfl | (with_reducible assumption) | exact Nat.le_of_ble_eq_true rfl | omega | (simp <;> omega))))) <;> (try (conv => whnf))
            refine AWp_loop (σ := Nat) (20 :: 22 :: 122 :: 123 :: 124 :: 125 :: 126 :: 127 :: 128 :: 129 :: 130 :: 131 :: 132 :: 133 :: 134 :: 135 :: 136 :: 137 :: []) (fun j => [(122, .int .i64 j), (20, .int .i64 (shS n P k (frm L a) j))]) (fun _ => G2) (fun j => j ≤ (frm L a).length) (fun j => (frm L a).length - j) 0 rfl (Nat.zero_le _) ⟨rfl, rfl, trivial⟩ (HLe.refl _) ?_
            intro j hj
            refine AWp.of tt_ok (dok _) rfl ?_
            dsimp only at hj ⊢
            have hbj := hbd j hj
            by_cases hjt : j < (frm L a).length
            · have hm := (frm_in L a _ (getD_in hjt)).1
              have gx : (iS .i64 (frm L a))[(j : Int).toNat]? = some (.int .i64 ((frm L a).getD j 0)) := iS_get hjt
              have hvb := (hlb ((frm L a).getD j 0).toNat (by omega)).2 k hkt
              unfold vOk at hvb
              have hS1 : shS n P k (frm L a) (j + 1) = shS n P k (frm L a) j + P.getD (((frm L a).getD j 0).toNat * n + k) 0 := rfl
              generalize (frm L a).getD j 0 = x at *
              have hxn : x.toNat * n + n ≤ 256 * n := by
                have := Nat.mul_le_mul_right n (show x.toNat + 1 ≤ 256 by omega)
                rwa [Nat.add_mul, Nat.one_mul] at this
              have w1 : IntKind.i64.wrap (x * (n : Int)) = ((x.toNat * n : Nat) : Int) := by
                rw [Int.natCast_mul, Int.toNat_of_nonneg hm.1, IntKind.wrap_i64]
                have : x * (n : Int) = ((x.toNat * n : Nat) : Int) := by rw [Int.natCast_mul, Int.toNat_of_nonneg hm.1]
                omega
              have gp : (iS .i64 P)[x.toNat * n + k]? = some (.int .i64 (P.getD (x.toNat * n + k) 0)) := iS_get (by omega)
              have hPl : (iS .i64 P).length = P.length := by simp
              generalize x.toNat * n = Q at *
              have gp : (iS .i64 P)[((Q : Int) + k).toNat]? = some (.int .i64 (P.getD (Q + k) 0)) := by rw [show ((Q : Int) + k).toNat = Q + k by omega]; exact gp
              have w2 : IntKind.i64.wrap ((Q : Int) + k) = (Q : Int) + k := by rw [IntKind.wrap_i64]; omega
              generalize P.getD (Q + k) 0 = u at *
              have w3 : IntKind.i64.wrap (shS n P k (frm L a) j + u) = shS n P k (frm L a) (j + 1) := by rw [hS1, IntKind.wrap_i64]; omega
              (repeat' ((conv => whnf); first | refine Then.mk ?_ | refine OpsA.cons ?_ | refine OpsA.nil ?_ | refine AWq.seq ?_ | refine AWq.region ?_ | refine AWq.cond ?_ | refine AWq.block ?_ | refine AWq.skip ?_ | refine AWq.ret ?_ | refine AWq.exit ?_ | refine AWq.loop ?_ | refine DrawA.consD ?_ | refine DrawA.nil ?_ | refine AWq.draw (by decide +kernel) ?_ | (refine Both.mk ?_ ?_ <;> intro hc <;> (first | exact Bool.noConfusion hc | exact absurd (by with_reducible rfl) hc | exact absurd hc (by assumption) | (exfalso; omega) | skip)) | (intro c hc; (try (simp only [AH.none_iff] at hc; repeat (have hn := hc.1; replace hc := hc.2))); (first | (have hc2 := Eq.trans hc (by with_reducible assumption); clear hc; subst hc2) | (refine i64_k hc ?_ ?_ ?_ ; omega; omega; (clear hc; intro hc; subst hc)) | subst hc | skip)) | (apply Exists.intro; apply And.intro; (first | (focus (repeat (first | (with_reducible assumption) | (with_reducible exact AH.set_same _ _ _) | ((first | refine AH.get_ne ?_ ?_); (first | (with_reducible assumption))))); done))) | (apply Exists.intro; apply And.intro; first | (with_reducible assumption) | ((try simp only [List.getElem?_drop, Nat.mul_one, Nat.add_zero, Nat.zero_add]); first | (with_reducible assumption) | rfl)) | (apply And.intro; (first | rfl | (with_reducible assumption) | exact Nat.le_of_ble_eq_true rfl | omega | (simp <;> omega))))) <;> (try (conv => whnf))
              exact ⟨j + 1, hjt, by omega, ⟨congrArg (AV.int .i64) (by omega), rfl, trivial⟩, HLe.refl _⟩
            · have hje : j = (frm L a).length := by omega
              subst hje
              have hpp := pixT a k haq
              unfold shP at hpp
              rw [if_neg h0] at hpp
              generalize shS n P k (frm L a) (frm L a).length = S at *
              generalize (frm L a).length = m at *
              have hfl := fun H => floor_c (2 * S + m) (2 * m) (by unfold I64; omega) (by omega) H
              rw [← hpp] at hfl
              have gB : G2 q2 = some (.row (iS .i64 (pxD n T (doneQ q i) a k)) v2) := by rw [hG2, hSh, AH.set_same]
              have lB : (iS .i64 (pxD n T (doneQ q i) a k)).length = 256 * n := by rw [iS_length]; exact pxD_len _ _ _ _ _
              have han : a * n + n ≤ 256 * n := by
                have := Nat.mul_le_mul_right n (show a + 1 ≤ 256 by omega)
                rwa [Nat.add_mul, Nat.one_mul] at this
              have w1 : IntKind.i64.wrap ((a : Int) * (n : Int)) = ((a * n : Nat) : Int) := by
                rw [← Int.natCast_mul, IntKind.wrap_i64]; omega
              have hwr : wrA (iS .i64 (pxD n T (doneQ q i) a k)) (a * n + k) [.int .i64 (pixA n T a k)] = iS .i64 (pxD n T (doneQ q i) a (k + 1)) := by
                rw [iS_wr1 (by rw [pxD_len]; omega), pxD_put hkt]
              have e5 : Sh (lbD T (doneQ q (i + 1))) (pxD n T (doneQ q i) a (k + 1)) = G2.set q2 (.row (wrA (iS .i64 (pxD n T (doneQ q i) a k)) (a * n + k) [.int .i64 (pixA n T a k)]) v2) := by
                rw [hwr, hG2, hSh, hSh, AH.set_set]
              generalize hRB : iS .i64 (pxD n T (doneQ q i) a k) = RB at *
              generalize a * n = Q at *
              have w2 : IntKind.i64.wrap ((Q : Int) + k) = (Q : Int) + k := by rw [IntKind.wrap_i64]; omega
              have w4 : IntKind.i64.wrap (2 * S) = 2 * S := by rw [IntKind.wrap_i64]; omega
              have w5 : IntKind.i64.wrap (2 * S + m) = 2 * S + m := by rw [IntKind.wrap_i64]; omega
              have w6 : IntKind.i64.wrap (2 * (m : Int)) = 2 * m := by rw [IntKind.wrap_i64]; omega
              rw [show Q + k = 0 + ((Q : Int) + k).toNat * 1 by omega] at e5
              (repeat' ((conv => whnf); first | refine Then.mk ?_ | refine OpsA.cons ?_ | refine OpsA.nil ?_ | refine AWq.seq ?_ | refine AWq.region ?_ | refine AWq.cond ?_ | refine AWq.block ?_ | refine AWq.skip ?_ | refine AWq.ret ?_ | refine AWq.exit ?_ | refine AWq.loop ?_ | refine DrawA.consD ?_ | refine DrawA.nil ?_ | refine AWq.draw (by decide +kernel) ?_ | (apply Exists.intro; apply And.intro; exact hfl _) | (refine Both.mk ?_ ?_ <;> intro hc <;> (first | exact Bool.noConfusion hc | exact absurd (by with_reducible rfl) hc | exact absurd hc (by assumption) | (exfalso; omega) | skip)) | (intro c hc; (try (simp only [AH.none_iff] at hc; repeat (have hn := hc.1; replace hc := hc.2))); (first | (have hc2 := Eq.trans hc (by with_reducible assumption); clear hc; subst hc2) | (refine i64_k hc ?_ ?_ ?_ ; omega; omega; (clear hc; intro hc; subst hc)) | subst hc | skip)) | (apply Exists.intro; apply And.intro; (first | (focus (repeat (first | (with_reducible assumption) | (with_reducible exact AH.set_same _ _ _) | ((first | refine AH.get_ne ?_ ?_); (first | (with_reducible assumption))))); done))) | (apply Exists.intro; apply And.intro; first | (with_reducible assumption) | ((try simp only [List.getElem?_drop, Nat.mul_one, Nat.add_zero, Nat.zero_add]); first | (with_reducible assumption) | rfl)) | (apply And.intro; (first | rfl | (with_reducible assumption) | exact Nat.le_of_ble_eq_true rfl | omega | (simp <;> omega))))) <;> (try (conv => whnf))
              exact ⟨k + 1, hkt, by omega, ⟨congrArg (AV.int .i64) (by omega), trivial⟩, HLe.of_eq e5⟩
          · have hke : k = n := by omega
            subst hke
            (repeat' ((conv => whnf); first | refine Then.mk ?_ | refine OpsA.cons ?_ | refine OpsA.nil ?_ | refine AWq.seq ?_ | refine AWq.region ?_ | refine AWq.cond ?_ | refine AWq.block ?_ | refine AWq.skip ?_ | refine AWq.ret ?_ | refine AWq.exit ?_ | refine AWq.loop ?_ | refine DrawA.consD ?_ | refine DrawA.nil ?_ | refine AWq.draw (by decide +kernel) ?_ | (refine Both.mk ?_ ?_ <;> intro hc <;> (first | exact Bool.noConfusion hc | exact absurd (by with_reducible rfl) hc | exact absurd hc (by assumption) | (exfalso; omega) | skip)) | (intro c hc; (try (simp only [AH.none_iff] at hc; repeat (have hn := hc.1; replace hc := hc.2))); (first | (have hc2 := Eq.trans hc (by with_reducible assumption); clear hc; subst hc2) | (refine i64_k hc ?_ ?_ ?_ ; omega; omega; (clear hc; intro hc; subst hc)) | subst hc | skip)) | (apply Exists.intro; apply And.intro; (first | (focus (repeat (first | (with_reducible assumption) | (with_reducible exact AH.set_same _ _ _) | ((first | refine AH.get_ne ?_ ?_); (first | (with_reducible assumption))))); done))) | (apply Exists.intro; apply And.intro; first | (with_reducible assumption) | ((try simp only [List.getElem?_drop, Nat.mul_one, Nat.add_zero, Nat.zero_add]); first | (with_reducible assumption) | rfl)) | (apply And.intro; (first | rfl | (with_reducible assumption) | exact Nat.le_of_ble_eq_true rfl | omega | (simp <;> omega))))) <;> (try (conv => whnf))
            exact ⟨i + 1, hit, by omega, ⟨congrArg (AV.int .i64) (by omega), trivial⟩, HLe.of_eq (by rw [pxD_end (p2 := 0) (by omega) hdq])⟩
      · have hie : i = 64 := by omega
        subst hie
        (repeat' ((conv => whnf); first | refine Then.mk ?_ | refine OpsA.cons ?_ | refine OpsA.nil ?_ | refine AWq.seq ?_ | refine AWq.region ?_ | refine AWq.cond ?_ | refine AWq.block ?_ | refine AWq.skip ?_ | refine AWq.ret ?_ | refine AWq.exit ?_ | refine AWq.loop ?_ | refine DrawA.consD ?_ | refine DrawA.nil ?_ | refine AWq.draw (by decide +kernel) ?_ | (refine Both.mk ?_ ?_ <;> intro hc <;> (first | exact Bool.noConfusion hc | exact absurd (by with_reducible rfl) hc | exact absurd hc (by assumption) | (exfalso; omega) | skip)) | (intro c hc; (try (simp only [AH.none_iff] at hc; repeat (have hn := hc.1; replace hc := hc.2))); (first | (have hc2 := Eq.trans hc (by with_reducible assumption); clear hc; subst hc2) | (refine i64_k hc ?_ ?_ ?_ ; omega; omega; (clear hc; intro hc; subst hc)) | subst hc | skip)) | (apply Exists.intro; apply And.intro; (first | (focus (repeat (first | (with_reducible assumption) | (with_reducible exact AH.set_same _ _ _) | ((first | refine AH.get_ne ?_ ?_); (first | (with_reducible assumption))))); done))) | (apply Exists.intro; apply And.intro; first | (with_reducible assumption) | ((try simp only [List.getElem?_drop, Nat.mul_one, Nat.add_zero, Nat.zero_add]); first | (with_reducible assumption) | rfl)) | (apply And.intro; (first | rfl | (with_reducible assumption) | exact Nat.le_of_ble_eq_true rfl | omega | (simp <;> omega))))) <;> (try (conv => whnf))
        exact ⟨q + 1, hqt, by omega, ⟨congrArg (AV.int .i64) (by omega), trivial⟩, HLe.of_eq (by rw [show doneQ (q + 1) 0 = doneQ q 64 from funext (doneQ_next q)])⟩
  · have hqe : q = 4 := by omega
    subst hqe
    have e2 : lbD T (doneQ 4 0) = shLL T := lbD_same fun a ha => .inl (doneQ_last a ha)
    have e3 : pxD n T (doneQ 4 0) 0 0 = shPP n T := pxD_same (by omega) fun a ha => .inl (doneQ_last a ha)
    rw [e2, e3]
    have gc := gc4 (shLL T) (shPP n T)
    have hle : HLe ((H.set q1 (.row (iS .i64 (shLL T)) v1)).set q2 (.row (iS .i64 (shPP n T)) v2)) (Sh (shLL T) (shPP n T)) := by
      rw [hSh]
      have n4 := Ne.symm hq1a
      have n5 := Ne.symm hq2a
      rw [AH.set_comm H _ _ n4, AH.set_comm (H.set q1 _) _ _ n5]
      exact HLe.fresh _ (by rw [AH.set_ne _ _ n5, AH.set_ne _ _ n4]; exact h4)
    have l1 := shLL_len T
    have l2 := shPP_len n T
    generalize Sh (shLL T) (shPP n T) = G at *
    (repeat' ((conv => whnf); first | refine Then.mk ?_ | refine OpsA.cons ?_ | refine OpsA.nil ?_ | refine AWq.seq ?_ | refine AWq.region ?_ | refine AWq.cond ?_ | refine AWq.block ?_ | refine AWq.skip ?_ | refine AWq.ret ?_ | refine AWq.exit ?_ | refine AWq.loop ?_ | refine DrawA.consD ?_ | refine DrawA.nil ?_ | refine AWq.draw (by decide +kernel) ?_ | (refine Both.mk ?_ ?_ <;> intro hc <;> (first | exact Bool.noConfusion hc | exact absurd (by with_reducible rfl) hc | exact absurd hc (by assumption) | (exfalso; omega) | skip)) | (intro c hc; (try (simp only [AH.none_iff] at hc; repeat (have hn := hc.1; replace hc := hc.2))); (first | (have hc2 := Eq.trans hc (by with_reducible assumption); clear hc; subst hc2) | (refine i64_k hc ?_ ?_ ?_ ; omega; omega; (clear hc; intro hc; subst hc)) | subst hc | skip)) | (apply Exists.intro; apply And.intro; (first | (focus (repeat (first | (with_reducible assumption) | (with_reducible exact AH.set_same _ _ _) | ((first | refine AH.get_ne ?_ ?_); (first | (with_reducible assumption))))); done))) | (apply Exists.intro; apply And.intro; first | (with_reducible assumption) | ((try simp only [List.getElem?_drop, Nat.mul_one, Nat.add_zero, Nat.zero_add]); first | (with_reducible assumption) | rfl)) | (apply And.intro; (first | rfl | (with_reducible assumption) | exact Nat.le_of_ble_eq_true rfl | omega | (simp <;> omega))))) <;> (try (conv => whnf))
    exact ⟨q1, q2, v1, v2, shLL T, shPP n T, n, hq1b, hq2b, n12, by rw [l1, l2]; rfl, HLe.set_of _ _ hle (by rw [AH.set_ne _ _ (Ne.symm hq2a), AH.set_ne _ _ (Ne.symm hq1a)]; exact h4), rfl⟩
end Go.Proofs.Ytghielfbdpkhmaa
/- Tiles: the walk of Empty. -/
namespace Go.Proofs.Ytghielfbdpkhmaa
open Go.Fw Go
set_option linter.unusedVariables false
set_option linter.unusedSimpArgs false

theorem zeros_fn (n : Nat) : (List.replicate n [AV.int .i64 0]).flatten = iS .i64 (fnL n fun _ => 0) := dL_zero n
set_option maxHeartbeats 8000000 in
set_option maxRecDepth 8000 in
theorem empty_c (b : Int) (hb : I64 b) (H : AH) : ACall Try.prog 40 [.int .i64 b] H (fun z H' => z = .tup [(emV b).1, .int .i64 (emV b).2] ∧ H' = H) := by
  unfold emV
  have b0 := fun H => btw_c b 1 4 H
  unfold I64 at hb
  by_cases h1 : 1 ≤ b ∧ b ≤ 4
  · rw [if_pos h1]
    rw [decide_eq_true h1] at b0
    obtain ⟨n, rfl⟩ : ∃ n : Nat, b = n := ⟨b.toNat, by omega⟩
    rw [Int.toNat_natCast]
    have rp := fun H => repeat_k (-1) 256 (by decide) (by decide) H
    have rp : ∀ H, ACall Try.prog 52 [.cs [.int .i64 (-1)] 1, .int .i64 256] H (fun y H' => y = .cs (iS .i64 emL) 256 ∧ H' = H) := rp
    have ez : (List.replicate (256 * n) [AV.int .i64 0]).flatten = iS .i64 (emP n) := zeros_fn _
    have lP : (iS .i64 (emP n)).length = 256 * n := by rw [iS_length]; exact emP_len n
    have lL : (iS .i64 emL).length = 256 := by rw [iS_length]; exact emL_len
    unfold tV
    rw [emL_len, emP_len]
    refine ACall.back ?_
    refine ACall_of tt_ok (dok _) Try.func40 rfl (by decide) rfl ?_
    (repeat' ((conv => whnf); first | refine Then.mk ?_ | left | refine OpsA.cons ?_ | refine OpsA.nil ?_ | refine AWq.seq ?_ | refine AWq.region ?_ | refine AWq.cond ?_ | refine AWq.skip ?_ | refine AWq.ret ?_ | (refine Both.mk ?_ ?_ <;> intro hc <;> (first | exact Bool.noConfusion hc | skip)) | (intro c hc; (try (simp only [AH.none_iff] at hc; repeat (have hn := hc.1; replace hc := hc.2))); (first | (refine i64_k hc ?_ ?_ ?_ ; omega; omega; (clear hc; intro hc; subst hc)) | skip)) | (apply Exists.intro; apply And.intro; (first | (focus (repeat (first | (with_reducible assumption) | (with_reducible exact AH.set_same _ _ _))); done) | (focus (repeat (first | assumption)); done))) | (apply Exists.intro; apply And.intro; first | (with_reducible assumption) | ((try simp only [List.getElem?_drop, Nat.mul_one, Nat.add_zero, Nat.zero_add]); first | (with_reducible assumption) | assumption | rfl)) | (apply Exists.intro; apply And.intro; (focus (intro G; ((conv => whnf); (try left); (conv => whnf); first | exact And.intro rfl rfl)))) | (apply And.intro; (first | rfl | (with_reducible assumption) | exact Nat.le_of_ble_eq_true rfl | omega | assumption | (simp <;> fail))) | (refine ACall.to (b0 _) ?_))) <;> (try (conv => whnf))
    (obtain ⟨t2, hq_⟩ : ∃ t2, t2 = c := ⟨_, rfl⟩); subst hq_
    have gt := AH.set_same H t2 (.row [.int .i64 0, .nils, .nils] 0)
    refine AWq.drawK mo [(2, 0)] (fun _ => t2) (fun a b ha hb _ => by simp at ha hb; rw [ha, hb]) (by decide +kernel) ?_
    (repeat' ((conv => whnf); first | refine DrawK.consD ?_ | refine DrawK.nil ?_ | refine Then.mk ?_ | left | refine OpsA.cons ?_ | refine OpsA.nil ?_ | refine AWq.seq ?_ | refine AWq.region ?_ | refine AWq.cond ?_ | refine AWq.skip ?_ | refine AWq.ret ?_ | (refine Both.mk ?_ ?_ <;> intro hc <;> (first | exact Bool.noConfusion hc | skip)) | (intro c hc; (try (simp only [AH.none_iff] at hc; repeat (have hn := hc.1; replace hc := hc.2))); (first | (refine i64_k hc ?_ ?_ ?_ ; omega; omega; (clear hc; intro hc; subst hc)) | skip)) | (apply Exists.intro; apply And.intro; (first | (focus (repeat (first | (with_reducible assumption) | (with_reducible exact AH.set_same _ _ _))); done) | (focus (repeat (first | assumption)); done))) | (apply Exists.intro; apply And.intro; first | (with_reducible assumption) | ((try simp only [List.getElem?_drop, Nat.mul_one, Nat.add_zero, Nat.zero_add]); first | (with_reducible assumption) | assumption | rfl)) | (apply Exists.intro; apply And.intro; (focus (intro G; ((conv => whnf); (try left); (conv => whnf); first | exact And.intro rfl rfl)))) | (apply And.intro; (first | rfl | (with_reducible assumption) | exact Nat.le_of_ble_eq_true rfl | omega | assumption | (simp <;> fail))))) <;> (try (conv => whnf))
    have hc0 : H t2 = none := hc
    rw [show (256 * (n : Int)).toNat = 256 * n by omega, ez]
    refine ⟨rfl, ?_⟩
    show HLe H (AH.set (AH.set H t2 _) t2 _)
    rw [AH.set_set]; exact HLe.fresh _ hc0
  · rw [if_neg h1]
    rw [decide_eq_false h1] at b0
    refine ACall.told ?_
    refine ACall_of tt_ok (dok _) Try.func40 rfl (by decide) rfl ?_
    (repeat' ((conv => whnf); first | refine Then.mk ?_ | left | refine OpsA.cons ?_ | refine OpsA.nil ?_ | refine AWq.seq ?_ | refine AWq.region ?_ | refine AWq.cond ?_ | refine AWq.skip ?_ | refine AWq.ret ?_ | (refine Both.mk ?_ ?_ <;> intro hc <;> (first | exact Bool.noConfusion hc | skip)) | (intro c hc; (try (simp only [AH.none_iff] at hc; repeat (have hn := hc.1; replace hc := hc.2))); (first | (refine i64_k hc ?_ ?_ ?_ ; omega; omega; (clear hc; intro hc; subst hc)) | skip)) | (apply Exists.intro; apply And.intro; (first | (focus (repeat (first | (with_reducible assumption) | (with_reducible exact AH.set_same _ _ _))); done) | (focus (repeat (first | assumption)); done))) | (apply Exists.intro; apply And.intro; first | (with_reducible assumption) | ((try simp only [List.getElem?_drop, Nat.mul_one, Nat.add_zero, Nat.zero_add]); first | (with_reducible assumption) | assumption | rfl)) | (apply Exists.intro; apply And.intro; (focus (intro G; ((conv => whnf); (try left); (conv => whnf); first | exact And.intro rfl rfl)))) | (apply And.intro; (first | rfl | (with_reducible assumption) | exact Nat.le_of_ble_eq_true rfl | omega | assumption | (simp <;> fail))) | (refine ACall.to (b0 _) ?_))) <;> (try (conv => whnf))
    all_goals exact ⟨_, _, AVle.tup (AVles.cons (AVle.agg (AVles.cons (AVle.refl _) (AVles.cons AVle.nils (AVles.cons AVle.nils AVles.nil)))) (AVles.refl _)), (by (first | ((repeat' (first | (with_reducible exact HLe.refl _) | (with_reducible assumption) | refine HLe.set_of _ _ ?_ ?_)); done)) : HLe H _), rfl, rfl⟩
end Go.Proofs.Ytghielfbdpkhmaa
/- The walk of blend.Shrink where it fails. -/
namespace Go.Proofs.Ytghielfbdpkhmaa
open Go.Fw Go
set_option linter.unusedVariables false
set_option linter.unusedSimpArgs false

theorem tup_le : AVle (.tup [.agg [.int .i64 0, .nils, .nils], .int .i64 1]) (.tup [tV 0 [] [], .int .i64 1]) :=
  AVle.tup (AVles.cons (AVle.agg (AVles.cons (AVle.refl _) (AVles.cons AVle.nils (AVles.cons AVle.nils AVles.nil)))) (AVles.cons (AVle.refl _) AVles.nil))
set_option maxHeartbeats 8000000 in
set_option maxRecDepth 8000 in
theorem shrink_bad (n : Nat) (h1 : 1 ≤ (n : Int) ∧ (n : Int) ≤ 4) (T : Nat → Tl) (hT : ∀ q, q < 4 → (T q).Fit) (k : Nat) (hk : k < 4) (hb : ¬ goodT n (T k)) (hg : ∀ q, q < k → goodT n (T q)) (H : AH) :
    ACall Try.prog 44 [.int .i64 n, .agg (rowF T)] H (fun z H' => z = .tup [tV 0 [] [], .int .i64 1] ∧ H' = H) := by
  have em := fun H => empty_r n h1 H
  have hseg : ∀ q : Nat, q < 4 → List.take 3 (List.drop ((q : Int).toNat * 3) (List.take 12 (rowF T))) = (T q).cells := fun q hq => by
    rw [List.take_of_length_le (Nat.le_of_eq (rowF_len T)), Int.toNat_natCast]; exact rowF_seg T hq
  have hRl := rowF_len T
  refine ACall.told ?_
  generalize rowF T = R at *
  refine ACall_of tt_ok (dok _) Try.func44 rfl (by decide) rfl ?_
  (repeat' ((conv => whnf); first | left | refine OpsA.cons ?_ | refine OpsA.nil ?_ | refine AWq.seq ?_ | refine AWq.region ?_ | refine AWq.cond ?_ | refine AWq.block ?_ | refine AWq.skip ?_ | refine AWq.ret ?_ | refine AWq.loop ?_ | (refine Both.mk ?_ ?_ <;> intro hc <;> (first | exact Bool.noConfusion hc | exact absurd (by with_reducible rfl) hc | exact absurd (by assumption) hc | (exfalso; omega) | skip)) | (intro c hc; (try (simp only [AH.none_iff] at hc; repeat (have hn := hc.1; replace hc := hc.2))); (first | (refine i64_k hc ?_ ?_ ?_ ; omega; omega; (clear hc; intro hc; subst hc)) | skip)) | (apply Exists.intro; apply And.intro; (first | (focus (repeat (first | (with_reducible assumption) | (with_reducible exact AH.set_same _ _ _) | ((first | refine AH.get_ne ?_ ?_); (first | (with_reducible assumption))))); done))) | (apply Exists.intro; apply And.intro; first | (with_reducible assumption) | ((try simp only [List.getElem?_drop, Nat.mul_one, Nat.add_zero, Nat.zero_add]); first | (with_reducible assumption) | rfl)) | (apply And.intro; (first | rfl | (with_reducible assumption) | exact Nat.le_of_ble_eq_true rfl | omega | (simp <;> omega))))) <;> (try (conv => whnf))
  (obtain ⟨c4, hq_⟩ : ∃ c4, c4 = c := ⟨_, rfl⟩); subst hq_
  have h4 : H c4 = none := hc
  have hn' : c ≠ c4 := Ne.symm hn
  refine Then.mk (AWq.in ?_)
  refine AWp_freezeP 3 rfl rfl (by (first | (focus (repeat (first | (with_reducible assumption) | (with_reducible exact AH.set_same _ _ _) | ((first | refine AH.get_ne ?_ ?_); (first | (with_reducible assumption))))); done))) ?_
  rw [AH.set_comm _ _ _ hn', AH.del_set _ _ _ (by rw [AH.set_ne _ _ hn']; assumption)]
  clear hn hn' hc
  refine AWp.of tt_ok (dok _) rfl ?_
  (repeat' ((conv => whnf); first | left | refine OpsA.cons ?_ | refine OpsA.nil ?_ | refine AWq.seq ?_ | refine AWq.region ?_ | refine AWq.cond ?_ | refine AWq.block ?_ | refine AWq.skip ?_ | refine AWq.ret ?_ | refine AWq.loop ?_ | (refine Both.mk ?_ ?_ <;> intro hc <;> (first | exact Bool.noConfusion hc | exact absurd (by with_reducible rfl) hc | exact absurd (by assumption) hc | (exfalso; omega) | skip)) | (intro c hc; (try (simp only [AH.none_iff] at hc; repeat (have hn := hc.1; replace hc := hc.2))); (first | (refine i64_k hc ?_ ?_ ?_ ; omega; omega; (clear hc; intro hc; subst hc)) | skip)) | (apply Exists.intro; apply And.intro; (first | (focus (repeat (first | (with_reducible assumption) | (with_reducible exact AH.set_same _ _ _) | ((first | refine AH.get_ne ?_ ?_); (first | (with_reducible assumption))))); done))) | (apply Exists.intro; apply And.intro; first | (with_reducible assumption) | ((try simp only [List.getElem?_drop, Nat.mul_one, Nat.add_zero, Nat.zero_add]); first | (with_reducible assumption) | rfl)) | (apply And.intro; (first | rfl | (with_reducible assumption) | exact Nat.le_of_ble_eq_true rfl | omega | (simp <;> omega))))) <;> (try (conv => whnf))
  refine (em _).mono ?_
  rintro y H' ⟨q1, q2, v1, v2, g, rfl⟩
  have hq1 : (H.set c4 (.row [.int .i64 0, .nils, .nils] 0)) q1 = none := g.ha
  have hq2 : (H.set c4 (.row [.int .i64 0, .nils, .nils] 0)) q2 = none := g.hb
  have n12 := g.ab
  obtain ⟨hq1a, hq1b⟩ := AH.none_set hq1
  obtain ⟨hq2a, hq2b⟩ := AH.none_set hq2
  have hHH : HLe H H' := by
    rw [g.e]
    exact HLe.set_of _ _ (HLe.set_of _ _ (HLe.fresh _ h4) hq1b) hq2b
  have g4 : H' c4 = some (.row [.int .i64 0, .nils, .nils] 0) := by
    rw [g.e, AH.set_ne _ _ (Ne.symm hq2a), AH.set_ne _ _ (Ne.symm hq1a), AH.set_same]
  (repeat' ((conv => whnf); first | left | refine OpsA.cons ?_ | refine OpsA.nil ?_ | refine AWq.seq ?_ | refine AWq.region ?_ | refine AWq.cond ?_ | refine AWq.block ?_ | refine AWq.skip ?_ | refine AWq.ret ?_ | refine AWq.loop ?_ | (refine Both.mk ?_ ?_ <;> intro hc <;> (first | exact Bool.noConfusion hc | exact absurd (by with_reducible rfl) hc | exact absurd (by assumption) hc | (exfalso; omega) | skip)) | (intro c hc; (try (simp only [AH.none_iff] at hc; repeat (have hn := hc.1; replace hc := hc.2))); (first | (refine i64_k hc ?_ ?_ ?_ ; omega; omega; (clear hc; intro hc; subst hc)) | skip)) | (apply Exists.intro; apply And.intro; (first | (focus (repeat (first | (with_reducible assumption) | (with_reducible exact AH.set_same _ _ _) | ((first | refine AH.get_ne ?_ ?_); (first | (with_reducible assumption))))); done))) | (apply Exists.intro; apply And.intro; first | (with_reducible assumption) | ((try simp only [List.getElem?_drop, Nat.mul_one, Nat.add_zero, Nat.zero_add]); first | (with_reducible assumption) | rfl)) | (apply And.intro; (first | rfl | (with_reducible assumption) | exact Nat.le_of_ble_eq_true rfl | omega | (simp <;> omega))))) <;> (try (conv => whnf))
  refine Then.mk (AWq.in ?_)
  refine AWp_segP 6 [.int .i64 n, .sl q1 v1 1 0 256 none, .sl q2 v2 1 0 (256 * n) none] rfl rfl (by assumption) rfl rfl ?_
  refine AWp.of tt_ok (dok _) rfl ?_
  (repeat' ((conv => whnf); first | refine Then.mk ?_ | left | refine OpsA.cons ?_ | refine OpsA.nil ?_ | refine AWq.seq ?_ | refine AWq.region ?_ | refine AWq.cond ?_ | refine AWq.block ?_ | refine AWq.skip ?_ | refine AWq.ret ?_ | refine AWq.loop ?_ | (refine Both.mk ?_ ?_ <;> intro hc <;> (first | exact Bool.noConfusion hc | exact absurd (by with_reducible rfl) hc | exact absurd (by assumption) hc | (exfalso; omega) | skip)) | (intro c hc; (try (simp only [AH.none_iff] at hc; repeat (have hn := hc.1; replace hc := hc.2))); (first | (refine i64_k hc ?_ ?_ ?_ ; omega; omega; (clear hc; intro hc; subst hc)) | skip)) | (apply Exists.intro; apply And.intro; (first | (focus (repeat (first | (with_reducible assumption) | (with_reducible exact AH.set_same _ _ _) | ((first | refine AH.get_ne ?_ ?_); (first | (with_reducible assumption))))); done))) | (apply Exists.intro; apply And.intro; first | (with_reducible assumption) | ((try simp only [List.getElem?_drop, Nat.mul_one, Nat.add_zero, Nat.zero_add]); first | (with_reducible assumption) | rfl)) | (apply And.intro; (first | rfl | (with_reducible assumption) | exact Nat.le_of_ble_eq_true rfl | omega | (simp <;> omega))))) <;> (try (conv => whnf))
  refine AWp_loop (σ := Nat) (5 :: 9 :: 33 :: 34 :: 35 :: 36 :: 37 :: 38 :: 39 :: 40 :: 41 :: 42 :: 43 :: 44 :: 45 :: 46 :: 47 :: 48 :: 49 :: 50 :: 51 :: 52 :: []) (fun i => [(33, .int .i64 i)]) (fun _ => H') (fun i => i ≤ k) (fun i => 4 - i) 0 rfl (Nat.zero_le _) ⟨rfl, trivial⟩ (HLe.refl _) ?_
  intro i hi
  refine AWp.of tt_ok (dok _) rfl ?_
  dsimp only at hi ⊢
  have hi4 : i < 4 := by omega
  have hsg : List.take 3 (List.drop ((i : Int).toNat * 3) (List.take 12 R)) = (T i).cells := hseg i hi4
  have hf := hT i hi4
  by_cases hit : i < k
  · have hgi := hg i hit
    generalize T i = t at *
    obtain ⟨b, L, P⟩ := t
    obtain ⟨f1, f2, f3⟩ := hf
    unfold goodT at hgi
    unfold Tl.cells at hsg
    dsimp only at hgi hsg f1 f2 f3
    have ho3 : (List.take 3 (List.drop ((i : Int).toNat * 3) (List.take 12 R))).all one = true := by rw [hsg]; rfl
    have vc := fun H => valid_c b L P f1 (by unfold tI; omega) (by unfold tI; omega) H
    unfold tV at vc
    have l1 : (iS .i64 L).length = L.length := by simp
    rcases hgi with h0 | ⟨h0, hb⟩
    · (repeat' ((conv => whnf); first | (refine Then.mk (AWq.in ?_); refine AWp_segP 9 ([.int .i64 b, .cs (iS .i64 L) L.length, .cs (iS .i64 P) P.length]) rfl rfl (by assumption) (hsg) (rfl) ?_; refine AWp.of tt_ok (dok _) rfl ?_) | refine Then.mk ?_ | left | refine OpsA.cons ?_ | refine OpsA.nil ?_ | refine AWq.seq ?_ | refine AWq.region ?_ | refine AWq.cond ?_ | refine AWq.block ?_ | refine AWq.skip ?_ | refine AWq.ret ?_ | refine AWq.loop ?_ | (refine Both.mk ?_ ?_ <;> intro hc <;> (first | exact Bool.noConfusion hc | exact absurd (by with_reducible rfl) hc | exact absurd (by assumption) hc | (exfalso; omega) | skip)) | (intro c hc; (try (simp only [AH.none_iff] at hc; repeat (have hn := hc.1; replace hc := hc.2))); (first | (refine i64_k hc ?_ ?_ ?_ ; omega; omega; (clear hc; intro hc; subst hc)) | skip)) | (apply Exists.intro; apply And.intro; (first | (focus (repeat (first | (with_reducible assumption) | (with_reducible exact AH.set_same _ _ _) | ((first | refine AH.get_ne ?_ ?_); (first | (with_reducible assumption))))); done))) | (apply Exists.intro; apply And.intro; first | (with_reducible assumption) | ((try simp only [List.getElem?_drop, Nat.mul_one, Nat.add_zero, Nat.zero_add]); first | (with_reducible assumption) | rfl)) | (apply And.intro; (first | rfl | (with_reducible assumption) | exact Nat.le_of_ble_eq_true rfl | omega | (simp <;> omega))) | (refine ACall.to (vc _) ?_))) <;> (try (conv => whnf))
      exact ⟨i + 1, hit, by omega, ⟨congrArg (AV.int .i64) (by omega), trivial⟩, HLe.refl _⟩
    · rw [h0] at vc
      subst hb
      (repeat' ((conv => whnf); first | (refine Then.mk (AWq.in ?_); refine AWp_segP 9 ([.int .i64 (n : Int), .cs (iS .i64 L) L.length, .cs (iS .i64 P) P.length]) rfl rfl (by assumption) (hsg) (rfl) ?_; refine AWp.of tt_ok (dok _) rfl ?_) | refine Then.mk ?_ | left | refine OpsA.cons ?_ | refine OpsA.nil ?_ | refine AWq.seq ?_ | refine AWq.region ?_ | refine AWq.cond ?_ | refine AWq.block ?_ | refine AWq.skip ?_ | refine AWq.ret ?_ | refine AWq.loop ?_ | (refine Both.mk ?_ ?_ <;> intro hc <;> (first | exact Bool.noConfusion hc | exact absurd (by with_reducible rfl) hc | exact absurd (by assumption) hc | (exfalso; omega) | skip)) | (intro c hc; (try (simp only [AH.none_iff] at hc; repeat (have hn := hc.1; replace hc := hc.2))); (first | (refine i64_k hc ?_ ?_ ?_ ; omega; omega; (clear hc; intro hc; subst hc)) | skip)) | (apply Exists.intro; apply And.intro; (first | (focus (repeat (first | (with_reducible assumption) | (with_reducible exact AH.set_same _ _ _) | ((first | refine AH.get_ne ?_ ?_); (first | (with_reducible assumption))))); done))) | (apply Exists.intro; apply And.intro; first | (with_reducible assumption) | ((try simp only [List.getElem?_drop, Nat.mul_one, Nat.add_zero, Nat.zero_add]); first | (with_reducible assumption) | rfl)) | (apply And.intro; (first | rfl | (with_reducible assumption) | exact Nat.le_of_ble_eq_true rfl | omega | (simp <;> omega))) | (refine ACall.to (vc _) ?_))) <;> (try (conv => whnf))
      all_goals exact ⟨i + 1, hit, by omega, ⟨congrArg (AV.int .i64) (by omega), trivial⟩, HLe.refl _⟩
  · have hik : i = k := by omega
    subst hik
    generalize T i = t at *
    obtain ⟨b, L, P⟩ := t
    obtain ⟨f1, f2, f3⟩ := hf
    unfold goodT at hb
    unfold Tl.cells at hsg
    dsimp only at hb hsg f1 f2 f3
    have ho3 : (List.take 3 (List.drop ((i : Int).toNat * 3) (List.take 12 R))).all one = true := by rw [hsg]; rfl
    have vc := fun H => valid_c b L P f1 (by unfold tI; omega) (by unfold tI; omega) H
    unfold tV at vc
    have l1 : (iS .i64 L).length = L.length := by simp
    generalize tileE b L P = e at *
    by_cases he : e = 0
    · subst he
      have hbn : ¬ b = n := fun h => hb (.inr ⟨rfl, h⟩)
      (repeat' ((conv => whnf); first | (refine Then.mk (AWq.in ?_); refine AWp_segP 9 ([.int .i64 b, .cs (iS .i64 L) L.length, .cs (iS .i64 P) P.length]) rfl rfl (by assumption) (hsg) (rfl) ?_; refine AWp.of tt_ok (dok _) rfl ?_) | refine Then.mk ?_ | left | refine OpsA.cons ?_ | refine OpsA.nil ?_ | refine AWq.seq ?_ | refine AWq.region ?_ | refine AWq.cond ?_ | refine AWq.block ?_ | refine AWq.skip ?_ | refine AWq.ret ?_ | refine AWq.loop ?_ | (refine Both.mk ?_ ?_ <;> intro hc <;> (first | exact Bool.noConfusion hc | exact absurd (by with_reducible rfl) hc | exact absurd (by assumption) hc | (exfalso; omega) | skip)) | (intro c hc; (try (simp only [AH.none_iff] at hc; repeat (have hn := hc.1; replace hc := hc.2))); (first | (refine i64_k hc ?_ ?_ ?_ ; omega; omega; (clear hc; intro hc; subst hc)) | skip)) | (apply Exists.intro; apply And.intro; (first | (focus (repeat (first | (with_reducible assumption) | (with_reducible exact AH.set_same _ _ _) | ((first | refine AH.get_ne ?_ ?_); (first | (with_reducible assumption))))); done))) | (apply Exists.intro; apply And.intro; first | (with_reducible assumption) | ((try simp only [List.getElem?_drop, Nat.mul_one, Nat.add_zero, Nat.zero_add]); first | (with_reducible assumption) | rfl)) | (apply And.intro; (first | rfl | (with_reducible assumption) | exact Nat.le_of_ble_eq_true rfl | omega | (simp <;> omega))) | (refine ACall.to (vc _) ?_))) <;> (try (conv => whnf))
      all_goals exact ⟨_, _, tup_le, by (first | ((repeat' (first | (with_reducible assumption) | refine HLe.set_of _ _ ?_ ?_)); done)), rfl, rfl⟩
    · (repeat' ((conv => whnf); first | (refine Then.mk (AWq.in ?_); refine AWp_segP 9 ([.int .i64 b, .cs (iS .i64 L) L.length, .cs (iS .i64 P) P.length]) rfl rfl (by assumption) (hsg) (rfl) ?_; refine AWp.of tt_ok (dok _) rfl ?_) | refine Then.mk ?_ | left | refine OpsA.cons ?_ | refine OpsA.nil ?_ | refine AWq.seq ?_ | refine AWq.region ?_ | refine AWq.cond ?_ | refine AWq.block ?_ | refine AWq.skip ?_ | refine AWq.ret ?_ | refine AWq.loop ?_ | (refine Both.mk ?_ ?_ <;> intro hc <;> (first | exact Bool.noConfusion hc | exact absurd (by with_reducible rfl) hc | exact absurd (by assumption) hc | (exfalso; omega) | skip)) | (intro c hc; (try (simp only [AH.none_iff] at hc; repeat (have hn := hc.1; replace hc := hc.2))); (first | (refine i64_k hc ?_ ?_ ?_ ; omega; omega; (clear hc; intro hc; subst hc)) | skip)) | (apply Exists.intro; apply And.intro; (first | (focus (repeat (first | (with_reducible assumption) | (with_reducible exact AH.set_same _ _ _) | ((first | refine AH.get_ne ?_ ?_); (first | (with_reducible assumption))))); done))) | (apply Exists.intro; apply And.intro; first | (with_reducible assumption) | ((try simp only [List.getElem?_drop, Nat.mul_one, Nat.add_zero, Nat.zero_add]); first | (with_reducible assumption) | rfl)) | (apply And.intro; (first | rfl | (with_reducible assumption) | exact Nat.le_of_ble_eq_true rfl | omega | (simp <;> omega))) | (refine ACall.to (vc _) ?_))) <;> (try (conv => whnf))
      all_goals exact ⟨_, _, tup_le, by (first | ((repeat' (first | (with_reducible assumption) | refine HLe.set_of _ _ ?_ ?_)); done)), rfl, rfl⟩
end Go.Proofs.Ytghielfbdpkhmaa
/- Tiles: the walk of the reference's Valid. -/
namespace Go.Proofs.Ytghielfbdpkhmaa
open Go.Fw Go
set_option linter.unusedVariables false
set_option linter.unusedSimpArgs false

set_option maxHeartbeats 8000000 in
set_option maxRecDepth 8000 in
theorem rvalid_c (b : Int) (L P : List Int) (hb : I64 b) (hL : tI L) (hP : tI P) (H : AH) :
    ACall Try.prog 39 [tV b L P] H (fun z H' => z = .int .i64 (tileE b L P) ∧ H' = H) := by
  unfold tileE
  unfold tI at hL hP
  unfold I64 at hb
  by_cases hf : tForm b L P
  · rw [if_neg (fun h => h hf)]
    obtain ⟨h1, h2, h3⟩ := hf
    obtain ⟨n, rfl⟩ : ∃ n : Nat, b = n := ⟨b.toNat, by omega⟩
    rw [Int.toNat_natCast]
    have hn : P.length = 256 * n := by omega
    have hLl : (iS .i64 L).length = L.length := by simp
    have hPl : (iS .i64 P).length = P.length := by simp
    refine ACall_of tt_ok (dok _) Try.func39 rfl (by decide) rfl ?_
    (repeat' ((conv => whnf); first | refine OpsA.cons ?_ | refine OpsA.nil ?_ | refine AWq.seq ?_ | refine AWq.region ?_ | refine AWq.cond ?_ | refine AWq.block ?_ | refine AWq.skip ?_ | refine AWq.ret ?_ | refine AWq.exit ?_ | refine AWq.loop ?_ | (refine Both.mk ?_ ?_ <;> intro hc <;> (first | exact Bool.noConfusion hc | exact absurd (by assumption) hc | (exfalso; omega) | skip)) | (intro c hc; (try (simp only [AH.none_iff] at hc; repeat (have hn := hc.1; replace hc := hc.2))); (first | (have hc2 := Eq.trans hc (by with_reducible assumption); clear hc; subst hc2) | (refine i64_k hc ?_ ?_ ?_ ; omega; omega; (clear hc; intro hc; subst hc)) | skip)) | (apply Exists.intro; apply And.intro; first | (with_reducible assumption) | ((try simp only [List.getElem?_drop, Nat.mul_one, Nat.add_zero, Nat.zero_add]); first | (with_reducible assumption) | rfl)) | (apply And.intro; (first | rfl | (with_reducible assumption) | exact Nat.le_of_ble_eq_true rfl | omega)))) <;> (try (conv => whnf))
    refine Then.mk (AWq.in ?_)
    refine AWp_freezeP 1 rfl rfl (AH.set_same _ _ _) ?_
    rw [AH.del_set _ _ _ (by assumption)]
    refine AWp.of tt_ok (dok _) rfl ?_
    (repeat' ((conv => whnf); first | refine Then.mk ?_ | refine OpsA.cons ?_ | refine OpsA.nil ?_ | refine AWq.seq ?_ | refine AWq.region ?_ | refine AWq.cond ?_ | refine AWq.block ?_ | refine AWq.skip ?_ | refine AWq.ret ?_ | refine AWq.exit ?_ | refine AWq.loop ?_ | (refine Both.mk ?_ ?_ <;> intro hc <;> (first | exact Bool.noConfusion hc | exact absurd (by assumption) hc | (exfalso; omega) | skip)) | (intro c hc; (try (simp only [AH.none_iff] at hc; repeat (have hn := hc.1; replace hc := hc.2))); (first | (have hc2 := Eq.trans hc (by with_reducible assumption); clear hc; subst hc2) | (refine i64_k hc ?_ ?_ ?_ ; omega; omega; (clear hc; intro hc; subst hc)) | skip)) | (apply Exists.intro; apply And.intro; first | (with_reducible assumption) | ((try simp only [List.getElem?_drop, Nat.mul_one, Nat.add_zero, Nat.zero_add]); first | (with_reducible assumption) | rfl)) | (apply And.intro; (first | rfl | (with_reducible assumption) | exact Nat.le_of_ble_eq_true rfl | omega)))) <;> (try (conv => whnf))
    refine AWp_loop (σ := Nat) (2 :: 3 :: 4 :: 5 :: 29 :: 30 :: 31 :: 32 :: 33 :: 34 :: 35 :: 36 :: 37 :: 38 :: 39 :: 40 :: 41 :: 42 :: 43 :: 44 :: 45 :: 46 :: 47 :: 48 :: 49 :: 50 :: 51 :: 52 :: 53 :: 54 :: 55 :: 56 :: 57 :: 58 :: 59 :: 60 :: 61 :: 62 :: 63 :: 64 :: 65 :: 66 :: 67 :: 68 :: 69 :: 70 :: 71 :: 72 :: 73 :: 74 :: 75 :: 76 :: 77 :: 78 :: 79 :: 80 :: []) (fun i => [(3, .int .i64 i)]) (fun _ => H) (fun i => i ≤ 256 ∧ lbOk n L P i) (fun i => 256 - i) 0 rfl ⟨Nat.zero_le _, fun j hj => absurd hj (Nat.not_lt_zero j)⟩ ⟨rfl, trivial⟩ (HLe.refl _) ?_
    rintro i ⟨hi, hio⟩
    refine AWp.of tt_ok (dok _) rfl ?_
    dsimp only at hi ⊢
    by_cases hit : i < 256
    · have gl : (iS .i64 L)[(i : Int).toNat]? = some (.int .i64 (L.getD i 0)) := iS_get (by omega)
      by_cases hl : -1 ≤ L.getD i 0 ∧ L.getD i 0 ≤ 4095
      · skip
        have hq : i * n + n ≤ 256 * n := by
          have := Nat.mul_le_mul_right n (show i + 1 ≤ 256 by omega)
          rwa [Nat.add_mul, Nat.one_mul] at this
        have w1 : IntKind.i64.wrap ((i : Int) * (n : Int)) = ((i * n : Nat) : Int) := by rw [← Int.natCast_mul, IntKind.wrap_i64]; omega
        have w2 : IntKind.i64.wrap (((i : Int) + 1) * (n : Int)) = ((i * n + n : Nat) : Int) := by
          rw [show ((i : Int) + 1) * (n : Int) = ((i * n + n : Nat) : Int) by rw [Int.add_mul, Int.natCast_add, Int.natCast_mul]; omega, IntKind.wrap_i64]; omega
        have hst := fun hp => lbOk_snoc (n := n) (P := P) hio hl hp
        have hpx : ∀ k, lbOk n L P 256 → k < n → vOk (L.getD i 0) (P.getD (i * n + k) 0) := fun k h hk => (h i hit).2 k hk
        obtain ⟨Q, hQ⟩ : ∃ Q, Q = i * n := ⟨_, rfl⟩
        have hsn : ∀ k, pxOk n L P i k → vOk (L.getD i 0) (P.getD (i * n + k) 0) → pxOk n L P i (k + 1) := fun k => pxOk_snoc
        rw [← hQ] at hq w1 w2 hpx hsn
        generalize hl0 : L.getD i 0 = l at *
        (repeat' ((conv => whnf); first | refine Then.mk ?_ | refine OpsA.cons ?_ | refine OpsA.nil ?_ | refine AWq.seq ?_ | refine AWq.region ?_ | refine AWq.cond ?_ | refine AWq.block ?_ | refine AWq.skip ?_ | refine AWq.ret ?_ | refine AWq.exit ?_ | refine AWq.loop ?_ | (refine Both.mk ?_ ?_ <;> intro hc <;> (first | exact Bool.noConfusion hc | exact absurd (by assumption) hc | (exfalso; omega) | skip)) | (intro c hc; (try (simp only [AH.none_iff] at hc; repeat (have hn := hc.1; replace hc := hc.2))); (first | (have hc2 := Eq.trans hc (by with_reducible assumption); clear hc; subst hc2) | (refine i64_k hc ?_ ?_ ?_ ; omega; omega; (clear hc; intro hc; subst hc)) | skip)) | (apply Exists.intro; apply And.intro; first | (with_reducible assumption) | ((try simp only [List.getElem?_drop, Nat.mul_one, Nat.add_zero, Nat.zero_add]); first | (with_reducible assumption) | rfl)) | (apply And.intro; (first | rfl | (with_reducible assumption) | exact Nat.le_of_ble_eq_true rfl | omega)))) <;> (try (conv => whnf))
        refine AWp_loop (σ := Nat) (2 :: 4 :: 5 :: 47 :: 48 :: 49 :: 50 :: 51 :: 52 :: 53 :: 54 :: 55 :: 56 :: 57 :: 58 :: 59 :: 60 :: 61 :: 62 :: 63 :: 64 :: 65 :: 66 :: 67 :: 68 :: 69 :: 70 :: 71 :: 72 :: 73 :: 74 :: 75 :: 76 :: 77 :: 78 :: 79 :: 80 :: []) (fun k => [(4, .int .i64 k)]) (fun _ => H) (fun k => k ≤ n ∧ pxOk n L P i k) (fun k => n - k) 0 rfl ⟨Nat.zero_le _, fun j hj => absurd hj (Nat.not_lt_zero j)⟩ ⟨rfl, trivial⟩ (HLe.refl _) ?_
        rintro k ⟨hk, hko⟩
        refine AWp.of tt_ok (dok _) rfl ?_
        dsimp only at hk ⊢
        by_cases hkt : k < n
        · have gp : (iS .i64 P)[((Q : Int) + (k : Int)).toNat]? = some (.int .i64 (P.getD (Q + k) 0)) := by rw [show ((Q : Int) + (k : Int)).toNat = Q + k by omega]; exact iS_get (by omega)
          have hsk := hsn k hko
          have hpk := fun h => hpx k h hkt
          unfold vOk at hsk hpk
          generalize P.getD (Q + k) 0 = v at *
          by_cases hv : 0 ≤ v ∧ v ≤ 65535
          · skip
            by_cases hv2 : l < 0 ∧ v ≠ 0
            · rw [if_neg (fun h => hv2.2 ((hpk h).2 hv2.1))]
              obtain ⟨hv3, hv4⟩ := hv2
              (repeat' ((conv => whnf); first | refine Then.mk ?_ | refine OpsA.cons ?_ | refine OpsA.nil ?_ | refine AWq.seq ?_ | refine AWq.region ?_ | refine AWq.cond ?_ | refine AWq.block ?_ | refine AWq.skip ?_ | refine AWq.ret ?_ | refine AWq.exit ?_ | refine AWq.loop ?_ | (refine Both.mk ?_ ?_ <;> intro hc <;> (first | exact Bool.noConfusion hc | exact absurd (by assumption) hc | (exfalso; omega) | skip)) | (intro c hc; (try (simp only [AH.none_iff] at hc; repeat (have hn := hc.1; replace hc := hc.2))); (first | (have hc2 := Eq.trans hc (by with_reducible assumption); clear hc; subst hc2) | (refine i64_k hc ?_ ?_ ?_ ; omega; omega; (clear hc; intro hc; subst hc)) | skip)) | (apply Exists.intro; apply And.intro; first | (with_reducible assumption) | ((try simp only [List.getElem?_drop, Nat.mul_one, Nat.add_zero, Nat.zero_add]); first | (with_reducible assumption) | rfl)) | (apply And.intro; (first | rfl | (with_reducible assumption) | exact Nat.le_of_ble_eq_true rfl | omega)))) <;> (try (conv => whnf))
              done
            · have hsk2 := hsk ⟨hv, fun h => Decidable.byContradiction fun h2 => hv2 ⟨h, h2⟩⟩
              (repeat' ((conv => whnf); first | refine Then.mk ?_ | refine OpsA.cons ?_ | refine OpsA.nil ?_ | refine AWq.seq ?_ | refine AWq.region ?_ | refine AWq.cond ?_ | refine AWq.block ?_ | refine AWq.skip ?_ | refine AWq.ret ?_ | refine AWq.exit ?_ | refine AWq.loop ?_ | (refine Both.mk ?_ ?_ <;> intro hc <;> (first | exact Bool.noConfusion hc | exact absurd (by assumption) hc | (exfalso; omega) | skip)) | (intro c hc; (try (simp only [AH.none_iff] at hc; repeat (have hn := hc.1; replace hc := hc.2))); (first | (have hc2 := Eq.trans hc (by with_reducible assumption); clear hc; subst hc2) | (refine i64_k hc ?_ ?_ ?_ ; omega; omega; (clear hc; intro hc; subst hc)) | skip)) | (apply Exists.intro; apply And.intro; first | (with_reducible assumption) | ((try simp only [List.getElem?_drop, Nat.mul_one, Nat.add_zero, Nat.zero_add]); first | (with_reducible assumption) | rfl)) | (apply And.intro; (first | rfl | (with_reducible assumption) | exact Nat.le_of_ble_eq_true rfl | omega)))) <;> (try (conv => whnf))
              all_goals exact ⟨k + 1, ⟨hkt, hsk2⟩, show n - (k + 1) < n - k by omega, ⟨congrArg (AV.int .i64) (by omega), trivial⟩, HLe.refl _⟩
          · skip
            rw [if_neg (fun h => hv (hpk h).1)]
            (repeat' ((conv => whnf); first | refine Then.mk ?_ | refine OpsA.cons ?_ | refine OpsA.nil ?_ | refine AWq.seq ?_ | refine AWq.region ?_ | refine AWq.cond ?_ | refine AWq.block ?_ | refine AWq.skip ?_ | refine AWq.ret ?_ | refine AWq.exit ?_ | refine AWq.loop ?_ | (refine Both.mk ?_ ?_ <;> intro hc <;> (first | exact Bool.noConfusion hc | exact absurd (by assumption) hc | (exfalso; omega) | skip)) | (intro c hc; (try (simp only [AH.none_iff] at hc; repeat (have hn := hc.1; replace hc := hc.2))); (first | (have hc2 := Eq.trans hc (by with_reducible assumption); clear hc; subst hc2) | (refine i64_k hc ?_ ?_ ?_ ; omega; omega; (clear hc; intro hc; subst hc)) | skip)) | (apply Exists.intro; apply And.intro; first | (with_reducible assumption) | ((try simp only [List.getElem?_drop, Nat.mul_one, Nat.add_zero, Nat.zero_add]); first | (with_reducible assumption) | rfl)) | (apply And.intro; (first | rfl | (with_reducible assumption) | exact Nat.le_of_ble_eq_true rfl | omega)))) <;> (try (conv => whnf))
            done
        · have hke : k = n := by omega
          subst hke
          (repeat' ((conv => whnf); first | refine Then.mk ?_ | refine OpsA.cons ?_ | refine OpsA.nil ?_ | refine AWq.seq ?_ | refine AWq.region ?_ | refine AWq.cond ?_ | refine AWq.block ?_ | refine AWq.skip ?_ | refine AWq.ret ?_ | refine AWq.exit ?_ | refine AWq.loop ?_ | (refine Both.mk ?_ ?_ <;> intro hc <;> (first | exact Bool.noConfusion hc | exact absurd (by assumption) hc | (exfalso; omega) | skip)) | (intro c hc; (try (simp only [AH.none_iff] at hc; repeat (have hn := hc.1; replace hc := hc.2))); (first | (have hc2 := Eq.trans hc (by with_reducible assumption); clear hc; subst hc2) | (refine i64_k hc ?_ ?_ ?_ ; omega; omega; (clear hc; intro hc; subst hc)) | skip)) | (apply Exists.intro; apply And.intro; first | (with_reducible assumption) | ((try simp only [List.getElem?_drop, Nat.mul_one, Nat.add_zero, Nat.zero_add]); first | (with_reducible assumption) | rfl)) | (apply And.intro; (first | rfl | (with_reducible assumption) | exact Nat.le_of_ble_eq_true rfl | omega)))) <;> (try (conv => whnf))
          exact ⟨i + 1, ⟨hit, hst hko⟩, show 256 - (i + 1) < 256 - i by omega, ⟨congrArg (AV.int .i64) (by omega), trivial⟩, HLe.refl _⟩
      · skip
        rw [if_neg (fun h => hl (h i hit).1)]
        (repeat' ((conv => whnf); first | refine Then.mk ?_ | refine OpsA.cons ?_ | refine OpsA.nil ?_ | refine AWq.seq ?_ | refine AWq.region ?_ | refine AWq.cond ?_ | refine AWq.block ?_ | refine AWq.skip ?_ | refine AWq.ret ?_ | refine AWq.exit ?_ | refine AWq.loop ?_ | (refine Both.mk ?_ ?_ <;> intro hc <;> (first | exact Bool.noConfusion hc | exact absurd (by assumption) hc | (exfalso; omega) | skip)) | (intro c hc; (try (simp only [AH.none_iff] at hc; repeat (have hn := hc.1; replace hc := hc.2))); (first | (have hc2 := Eq.trans hc (by with_reducible assumption); clear hc; subst hc2) | (refine i64_k hc ?_ ?_ ?_ ; omega; omega; (clear hc; intro hc; subst hc)) | skip)) | (apply Exists.intro; apply And.intro; first | (with_reducible assumption) | ((try simp only [List.getElem?_drop, Nat.mul_one, Nat.add_zero, Nat.zero_add]); first | (with_reducible assumption) | rfl)) | (apply And.intro; (first | rfl | (with_reducible assumption) | exact Nat.le_of_ble_eq_true rfl | omega)))) <;> (try (conv => whnf))
        done
    · have hie : i = 256 := by omega
      subst hie
      rw [if_pos hio]
      (repeat' ((conv => whnf); first | refine Then.mk ?_ | refine OpsA.cons ?_ | refine OpsA.nil ?_ | refine AWq.seq ?_ | refine AWq.region ?_ | refine AWq.cond ?_ | refine AWq.block ?_ | refine AWq.skip ?_ | refine AWq.ret ?_ | refine AWq.exit ?_ | refine AWq.loop ?_ | (refine Both.mk ?_ ?_ <;> intro hc <;> (first | exact Bool.noConfusion hc | exact absurd (by assumption) hc | (exfalso; omega) | skip)) | (intro c hc; (try (simp only [AH.none_iff] at hc; repeat (have hn := hc.1; replace hc := hc.2))); (first | (have hc2 := Eq.trans hc (by with_reducible assumption); clear hc; subst hc2) | (refine i64_k hc ?_ ?_ ?_ ; omega; omega; (clear hc; intro hc; subst hc)) | skip)) | (apply Exists.intro; apply And.intro; first | (with_reducible assumption) | ((try simp only [List.getElem?_drop, Nat.mul_one, Nat.add_zero, Nat.zero_add]); first | (with_reducible assumption) | rfl)) | (apply And.intro; (first | rfl | (with_reducible assumption) | exact Nat.le_of_ble_eq_true rfl | omega)))) <;> (try (conv => whnf))
      done
  · rw [if_pos hf]
    unfold tForm at hf
    refine ACall_of tt_ok (dok _) Try.func39 rfl (by decide) rfl ?_
    (repeat' ((conv => whnf); first | refine OpsA.cons ?_ | refine OpsA.nil ?_ | refine AWq.seq ?_ | refine AWq.region ?_ | refine AWq.cond ?_ | refine AWq.block ?_ | refine AWq.skip ?_ | refine AWq.ret ?_ | refine AWq.exit ?_ | refine AWq.loop ?_ | (refine Both.mk ?_ ?_ <;> intro hc <;> (first | exact Bool.noConfusion hc | exact absurd (by assumption) hc | (exfalso; omega) | skip)) | (intro c hc; (try (simp only [AH.none_iff] at hc; repeat (have hn := hc.1; replace hc := hc.2))); (first | (have hc2 := Eq.trans hc (by with_reducible assumption); clear hc; subst hc2) | (refine i64_k hc ?_ ?_ ?_ ; omega; omega; (clear hc; intro hc; subst hc)) | skip)) | (apply Exists.intro; apply And.intro; first | (with_reducible assumption) | ((try simp only [List.getElem?_drop, Nat.mul_one, Nat.add_zero, Nat.zero_add]); first | (with_reducible assumption) | rfl)) | (apply And.intro; (first | rfl | (with_reducible assumption) | exact Nat.le_of_ble_eq_true rfl | omega)))) <;> (try (conv => whnf))
    refine Then.mk (AWq.in ?_)
    refine AWp_freezeP 1 rfl rfl (AH.set_same _ _ _) ?_
    rw [AH.del_set _ _ _ (by assumption)]
    refine AWp.of tt_ok (dok _) rfl ?_
    by_cases h1 : 1 ≤ b ∧ b ≤ 4
    · skip
      have w1 : IntKind.i64.wrap (256 * b) = 256 * b := by rw [IntKind.wrap_i64]; omega
      by_cases h2 : L.length = 256
      · (repeat' ((conv => whnf); first | refine Then.mk ?_ | refine OpsA.cons ?_ | refine OpsA.nil ?_ | refine AWq.seq ?_ | refine AWq.region ?_ | refine AWq.cond ?_ | refine AWq.block ?_ | refine AWq.skip ?_ | refine AWq.ret ?_ | refine AWq.exit ?_ | refine AWq.loop ?_ | (refine Both.mk ?_ ?_ <;> intro hc <;> (first | exact Bool.noConfusion hc | exact absurd (by assumption) hc | (exfalso; omega) | skip)) | (intro c hc; (try (simp only [AH.none_iff] at hc; repeat (have hn := hc.1; replace hc := hc.2))); (first | (have hc2 := Eq.trans hc (by with_reducible assumption); clear hc; subst hc2) | (refine i64_k hc ?_ ?_ ?_ ; omega; omega; (clear hc; intro hc; subst hc)) | skip)) | (apply Exists.intro; apply And.intro; first | (with_reducible assumption) | ((try simp only [List.getElem?_drop, Nat.mul_one, Nat.add_zero, Nat.zero_add]); first | (with_reducible assumption) | rfl)) | (apply And.intro; (first | rfl | (with_reducible assumption) | exact Nat.le_of_ble_eq_true rfl | omega)))) <;> (try (conv => whnf))
        done
      · (repeat' ((conv => whnf); first | refine Then.mk ?_ | refine OpsA.cons ?_ | refine OpsA.nil ?_ | refine AWq.seq ?_ | refine AWq.region ?_ | refine AWq.cond ?_ | refine AWq.block ?_ | refine AWq.skip ?_ | refine AWq.ret ?_ | refine AWq.exit ?_ | refine AWq.loop ?_ | (refine Both.mk ?_ ?_ <;> intro hc <;> (first | exact Bool.noConfusion hc | exact absurd (by assumption) hc | (exfalso; omega) | skip)) | (intro c hc; (try (simp only [AH.none_iff] at hc; repeat (have hn := hc.1; replace hc := hc.2))); (first | (have hc2 := Eq.trans hc (by with_reducible assumption); clear hc; subst hc2) | (refine i64_k hc ?_ ?_ ?_ ; omega; omega; (clear hc; intro hc; subst hc)) | skip)) | (apply Exists.intro; apply And.intro; first | (with_reducible assumption) | ((try simp only [List.getElem?_drop, Nat.mul_one, Nat.add_zero, Nat.zero_add]); first | (with_reducible assumption) | rfl)) | (apply And.intro; (first | rfl | (with_reducible assumption) | exact Nat.le_of_ble_eq_true rfl | omega)))) <;> (try (conv => whnf))
        done
    · skip
      (repeat' ((conv => whnf); first | refine Then.mk ?_ | refine OpsA.cons ?_ | refine OpsA.nil ?_ | refine AWq.seq ?_ | refine AWq.region ?_ | refine AWq.cond ?_ | refine AWq.block ?_ | refine AWq.skip ?_ | refine AWq.ret ?_ | refine AWq.exit ?_ | refine AWq.loop ?_ | (refine Both.mk ?_ ?_ <;> intro hc <;> (first | exact Bool.noConfusion hc | exact absurd (by assumption) hc | (exfalso; omega) | skip)) | (intro c hc; (try (simp only [AH.none_iff] at hc; repeat (have hn := hc.1; replace hc := hc.2))); (first | (have hc2 := Eq.trans hc (by with_reducible assumption); clear hc; subst hc2) | (refine i64_k hc ?_ ?_ ?_ ; omega; omega; (clear hc; intro hc; subst hc)) | skip)) | (apply Exists.intro; apply And.intro; first | (with_reducible assumption) | ((try simp only [List.getElem?_drop, Nat.mul_one, Nat.add_zero, Nat.zero_add]); first | (with_reducible assumption) | rfl)) | (apply And.intro; (first | rfl | (with_reducible assumption) | exact Nat.le_of_ble_eq_true rfl | omega)))) <;> (try (conv => whnf))
      done
end Go.Proofs.Ytghielfbdpkhmaa
/- The walk of the reference's Shrink where it fails. -/
namespace Go.Proofs.Ytghielfbdpkhmaa
open Go.Fw Go
set_option linter.unusedVariables false
set_option linter.unusedSimpArgs false

set_option maxHeartbeats 8000000 in
set_option maxRecDepth 8000 in
theorem rshrink_bad (n : Nat) (h1 : 1 ≤ (n : Int) ∧ (n : Int) ≤ 4) (T : Nat → Tl) (hT : ∀ q, q < 4 → (T q).Fit) (k : Nat) (hk : k < 4) (hb : ¬ goodT n (T k)) (hg : ∀ q, q < k → goodT n (T q)) (H : AH) :
    ACall Try.prog 45 [.int .i64 n, .agg (rowF T)] H (fun z H' => z = .tup [tV 0 [] [], .int .i64 1] ∧ H' = H) := by
  have em := fun H => rempty_r n h1 H
  have hseg : ∀ q : Nat, q < 4 → List.take 3 (List.drop ((q : Int).toNat * 3) (rowF T)) = (T q).cells := fun q hq => by
    rw [Int.toNat_natCast]; exact rowF_seg T hq
  have hRl := rowF_len T
  refine ACall.told ?_
  generalize rowF T = R at *
  refine ACall_of tt_ok (dok _) Try.func45 rfl (by decide) rfl ?_
  (repeat' ((conv => whnf); first | left | refine OpsA.cons ?_ | refine OpsA.nil ?_ | refine AWq.seq ?_ | refine AWq.region ?_ | refine AWq.cond ?_ | refine AWq.block ?_ | refine AWq.skip ?_ | refine AWq.ret ?_ | refine AWq.loop ?_ | (refine Both.mk ?_ ?_ <;> intro hc <;> (first | exact Bool.noConfusion hc | exact absurd (by with_reducible rfl) hc | exact absurd (by assumption) hc | (exfalso; omega) | skip)) | (intro c hc; (try (simp only [AH.none_iff] at hc; repeat (have hn := hc.1; replace hc := hc.2))); (first | (refine i64_k hc ?_ ?_ ?_ ; omega; omega; (clear hc; intro hc; subst hc)) | skip)) | (apply Exists.intro; apply And.intro; (first | (focus (repeat (first | (with_reducible assumption) | (with_reducible exact AH.set_same _ _ _) | ((first | refine AH.get_ne ?_ ?_); (first | (with_reducible assumption))))); done))) | (apply And.intro; (first | rfl | (with_reducible assumption) | exact Nat.le_of_ble_eq_true rfl | omega | (simp <;> omega))))) <;> (try (conv => whnf))
  (obtain ⟨c4, hq_⟩ : ∃ c4, c4 = c := ⟨_, rfl⟩); subst hq_
  have h4 : H c4 = none := hc
  have hn' : c ≠ c4 := Ne.symm hn
  refine Then.mk (AWq.in ?_)
  refine AWp_freezeP 3 rfl rfl (by (first | (focus (repeat (first | (with_reducible assumption) | (with_reducible exact AH.set_same _ _ _) | ((first | refine AH.get_ne ?_ ?_); (first | (with_reducible assumption))))); done))) ?_
  rw [AH.set_comm _ _ _ hn', AH.del_set _ _ _ (by rw [AH.set_ne _ _ hn']; assumption)]
  clear hn hn' hc
  refine AWp.of tt_ok (dok _) rfl ?_
  (repeat' ((conv => whnf); first | left | refine OpsA.cons ?_ | refine OpsA.nil ?_ | refine AWq.seq ?_ | refine AWq.region ?_ | refine AWq.cond ?_ | refine AWq.block ?_ | refine AWq.skip ?_ | refine AWq.ret ?_ | refine AWq.loop ?_ | (refine Both.mk ?_ ?_ <;> intro hc <;> (first | exact Bool.noConfusion hc | exact absurd (by with_reducible rfl) hc | exact absurd (by assumption) hc | (exfalso; omega) | skip)) | (intro c hc; (try (simp only [AH.none_iff] at hc; repeat (have hn := hc.1; replace hc := hc.2))); (first | (refine i64_k hc ?_ ?_ ?_ ; omega; omega; (clear hc; intro hc; subst hc)) | skip)) | (apply Exists.intro; apply And.intro; (first | (focus (repeat (first | (with_reducible assumption) | (with_reducible exact AH.set_same _ _ _) | ((first | refine AH.get_ne ?_ ?_); (first | (with_reducible assumption))))); done))) | (apply And.intro; (first | rfl | (with_reducible assumption) | exact Nat.le_of_ble_eq_true rfl | omega | (simp <;> omega))))) <;> (try (conv => whnf))
  refine (em _).mono ?_
  rintro y H' ⟨q1, q2, v1, v2, g, rfl⟩
  have hq1 : (H.set c4 (.row [.int .i64 0, .nils, .nils] 0)) q1 = none := g.ha
  have hq2 : (H.set c4 (.row [.int .i64 0, .nils, .nils] 0)) q2 = none := g.hb
  have n12 := g.ab
  obtain ⟨hq1a, hq1b⟩ := AH.none_set hq1
  obtain ⟨hq2a, hq2b⟩ := AH.none_set hq2
  have hHH : HLe H H' := by
    rw [g.e]
    exact HLe.set_of _ _ (HLe.set_of _ _ (HLe.fresh _ h4) hq1b) hq2b
  have g4 : H' c4 = some (.row [.int .i64 0, .nils, .nils] 0) := by
    rw [g.e, AH.set_ne _ _ (Ne.symm hq2a), AH.set_ne _ _ (Ne.symm hq1a), AH.set_same]
  (repeat' ((conv => whnf); first | left | refine OpsA.cons ?_ | refine OpsA.nil ?_ | refine AWq.seq ?_ | refine AWq.region ?_ | refine AWq.cond ?_ | refine AWq.block ?_ | refine AWq.skip ?_ | refine AWq.ret ?_ | refine AWq.loop ?_ | (refine Both.mk ?_ ?_ <;> intro hc <;> (first | exact Bool.noConfusion hc | exact absurd (by with_reducible rfl) hc | exact absurd (by assumption) hc | (exfalso; omega) | skip)) | (intro c hc; (try (simp only [AH.none_iff] at hc; repeat (have hn := hc.1; replace hc := hc.2))); (first | (refine i64_k hc ?_ ?_ ?_ ; omega; omega; (clear hc; intro hc; subst hc)) | skip)) | (apply Exists.intro; apply And.intro; (first | (focus (repeat (first | (with_reducible assumption) | (with_reducible exact AH.set_same _ _ _) | ((first | refine AH.get_ne ?_ ?_); (first | (with_reducible assumption))))); done))) | (apply And.intro; (first | rfl | (with_reducible assumption) | exact Nat.le_of_ble_eq_true rfl | omega | (simp <;> omega))))) <;> (try (conv => whnf))
  refine Then.mk (AWq.in ?_)
  refine AWp_segP 6 [.int .i64 n, .sl q1 v1 1 0 256 none, .sl q2 v2 1 0 (256 * n) none] rfl rfl (by assumption) rfl rfl ?_
  refine AWp.of tt_ok (dok _) rfl ?_
  (repeat' ((conv => whnf); first | refine Then.mk ?_ | left | refine OpsA.cons ?_ | refine OpsA.nil ?_ | refine AWq.seq ?_ | refine AWq.region ?_ | refine AWq.cond ?_ | refine AWq.block ?_ | refine AWq.skip ?_ | refine AWq.ret ?_ | refine AWq.loop ?_ | (refine Both.mk ?_ ?_ <;> intro hc <;> (first | exact Bool.noConfusion hc | exact absurd (by with_reducible rfl) hc | exact absurd (by assumption) hc | (exfalso; omega) | skip)) | (intro c hc; (try (simp only [AH.none_iff] at hc; repeat (have hn := hc.1; replace hc := hc.2))); (first | (refine i64_k hc ?_ ?_ ?_ ; omega; omega; (clear hc; intro hc; subst hc)) | skip)) | (apply Exists.intro; apply And.intro; (first | (focus (repeat (first | (with_reducible assumption) | (with_reducible exact AH.set_same _ _ _) | ((first | refine AH.get_ne ?_ ?_); (first | (with_reducible assumption))))); done))) | (apply And.intro; (first | rfl | (with_reducible assumption) | exact Nat.le_of_ble_eq_true rfl | omega | (simp <;> omega))))) <;> (try (conv => whnf))
  refine AWp_loop (σ := Nat) (5 :: 8 :: 31 :: 32 :: 33 :: 34 :: 35 :: 36 :: 37 :: 38 :: 39 :: 40 :: 41 :: 42 :: 43 :: 44 :: 45 :: 46 :: 47 :: 48 :: 49 :: 50 :: 51 :: 52 :: 53 :: 54 :: 55 :: 56 :: []) (fun i => [(8, .int .i64 i)]) (fun _ => H') (fun i => i ≤ k) (fun i => 4 - i) 0 rfl (Nat.zero_le _) ⟨rfl, trivial⟩ (HLe.refl _) ?_
  intro i hi
  refine AWp.of tt_ok (dok _) rfl ?_
  dsimp only at hi ⊢
  have hi4 : i < 4 := by omega
  have hf := hT i hi4
  have hsg : List.take 3 (List.drop ((i : Int).toNat * 3) R) = (T i).cells := hseg i hi4
  have hgt : ∀ j, j < 3 → (List.drop j (List.drop ((i : Int).toNat * 3) R))[0]? = (T i).cells[j]? := fun j hj => by
    rw [← hsg, List.getElem?_take_of_lt hj, List.getElem?_drop, Nat.add_zero]
  by_cases hit : i < k
  · have hgi := hg i hit
    generalize T i = t at *
    obtain ⟨b, L, P⟩ := t
    obtain ⟨f1, f2, f3⟩ := hf
    unfold goodT at hgi
    unfold Tl.cells at hsg hgt
    dsimp only at hgi hsg f1 f2 f3
    have vc := fun H => rvalid_c b L P f1 (by unfold tI; omega) (by unfold tI; omega) H
    unfold tV at vc
    rw [← hsg] at vc
    have g1 : (List.drop (1, 1, false).fst (List.drop ((i : Int).toNat * 3) R))[0]? = some (.cs (iS .i64 L) L.length) := hgt 1 (by decide)
    have g0 : (List.drop (0, 1, false).fst (List.drop ((i : Int).toNat * 3) R))[0]? = some (.int .i64 b) := hgt 0 (by decide)
    have l1 : (iS .i64 L).length = L.length := by simp
    rcases hgi with h0 | ⟨h0, hb⟩
    · (repeat' ((conv => whnf); first | refine Then.mk ?_ | left | refine OpsA.cons ?_ | refine OpsA.nil ?_ | refine AWq.seq ?_ | refine AWq.region ?_ | refine AWq.cond ?_ | refine AWq.block ?_ | refine AWq.skip ?_ | refine AWq.ret ?_ | refine AWq.loop ?_ | (refine Both.mk ?_ ?_ <;> intro hc <;> (first | exact Bool.noConfusion hc | exact absurd (by with_reducible rfl) hc | exact absurd (by assumption) hc | (exfalso; omega) | skip)) | (intro c hc; (try (simp only [AH.none_iff] at hc; repeat (have hn := hc.1; replace hc := hc.2))); (first | (refine i64_k hc ?_ ?_ ?_ ; omega; omega; (clear hc; intro hc; subst hc)) | skip)) | (apply Exists.intro; apply And.intro; (first | (focus (repeat (first | (with_reducible assumption) | (with_reducible exact AH.set_same _ _ _) | ((first | refine AH.get_ne ?_ ?_); (first | (with_reducible assumption))))); done))) | (apply And.intro; (first | rfl | (with_reducible assumption) | exact Nat.le_of_ble_eq_true rfl | omega | (simp <;> omega))) | (refine ACall.to (vc _) ?_))) <;> (try (conv => whnf))
      exact ⟨i + 1, hit, by omega, ⟨congrArg (AV.int .i64) (by omega), trivial⟩, HLe.refl _⟩
    · rw [h0] at vc
      subst hb
      (repeat' ((conv => whnf); first | refine Then.mk ?_ | left | refine OpsA.cons ?_ | refine OpsA.nil ?_ | refine AWq.seq ?_ | refine AWq.region ?_ | refine AWq.cond ?_ | refine AWq.block ?_ | refine AWq.skip ?_ | refine AWq.ret ?_ | refine AWq.loop ?_ | (refine Both.mk ?_ ?_ <;> intro hc <;> (first | exact Bool.noConfusion hc | exact absurd (by with_reducible rfl) hc | exact absurd (by assumption) hc | (exfalso; omega) | skip)) | (intro c hc; (try (simp only [AH.none_iff] at hc; repeat (have hn := hc.1; replace hc := hc.2))); (first | (refine i64_k hc ?_ ?_ ?_ ; omega; omega; (clear hc; intro hc; subst hc)) | skip)) | (apply Exists.intro; apply And.intro; (first | (focus (repeat (first | (with_reducible assumption) | (with_reducible exact AH.set_same _ _ _) | ((first | refine AH.get_ne ?_ ?_); (first | (with_reducible assumption))))); done))) | (apply And.intro; (first | rfl | (with_reducible assumption) | exact Nat.le_of_ble_eq_true rfl | omega | (simp <;> omega))) | (refine ACall.to (vc _) ?_))) <;> (try (conv => whnf))
      all_goals exact ⟨i + 1, hit, by omega, ⟨congrArg (AV.int .i64) (by omega), trivial⟩, HLe.refl _⟩
  · have hik : i = k := by omega
    subst hik
    generalize T i = t at *
    obtain ⟨b, L, P⟩ := t
    obtain ⟨f1, f2, f3⟩ := hf
    unfold goodT at hb
    unfold Tl.cells at hsg hgt
    dsimp only at hb hsg f1 f2 f3
    have vc := fun H => rvalid_c b L P f1 (by unfold tI; omega) (by unfold tI; omega) H
    unfold tV at vc
    rw [← hsg] at vc
    have g1 : (List.drop (1, 1, false).fst (List.drop ((i : Int).toNat * 3) R))[0]? = some (.cs (iS .i64 L) L.length) := hgt 1 (by decide)
    have g0 : (List.drop (0, 1, false).fst (List.drop ((i : Int).toNat * 3) R))[0]? = some (.int .i64 b) := hgt 0 (by decide)
    have l1 : (iS .i64 L).length = L.length := by simp
    generalize tileE b L P = e at *
    by_cases he : e = 0
    · subst he
      have hbn : ¬ b = n := fun h => hb (.inr ⟨rfl, h⟩)
      (repeat' ((conv => whnf); first | refine Then.mk ?_ | left | refine OpsA.cons ?_ | refine OpsA.nil ?_ | refine AWq.seq ?_ | refine AWq.region ?_ | refine AWq.cond ?_ | refine AWq.block ?_ | refine AWq.skip ?_ | refine AWq.ret ?_ | refine AWq.loop ?_ | (refine Both.mk ?_ ?_ <;> intro hc <;> (first | exact Bool.noConfusion hc | exact absurd (by with_reducible rfl) hc | exact absurd (by assumption) hc | (exfalso; omega) | skip)) | (intro c hc; (try (simp only [AH.none_iff] at hc; repeat (have hn := hc.1; replace hc := hc.2))); (first | (refine i64_k hc ?_ ?_ ?_ ; omega; omega; (clear hc; intro hc; subst hc)) | skip)) | (apply Exists.intro; apply And.intro; (first | (focus (repeat (first | (with_reducible assumption) | (with_reducible exact AH.set_same _ _ _) | ((first | refine AH.get_ne ?_ ?_); (first | (with_reducible assumption))))); done))) | (apply And.intro; (first | rfl | (with_reducible assumption) | exact Nat.le_of_ble_eq_true rfl | omega | (simp <;> omega))) | (refine ACall.to (vc _) ?_))) <;> (try (conv => whnf))
      all_goals exact ⟨_, _, tup_le, by (first | ((repeat' (first | (with_reducible assumption) | refine HLe.set_of _ _ ?_ ?_)); done)), rfl, rfl⟩
    · (repeat' ((conv => whnf); first | refine Then.mk ?_ | left | refine OpsA.cons ?_ | refine OpsA.nil ?_ | refine AWq.seq ?_ | refine AWq.region ?_ | refine AWq.cond ?_ | refine AWq.block ?_ | refine AWq.skip ?_ | refine AWq.ret ?_ | refine AWq.loop ?_ | (refine Both.mk ?_ ?_ <;> intro hc <;> (first | exact Bool.noConfusion hc | exact absurd (by with_reducible rfl) hc | exact absurd (by assumption) hc | (exfalso; omega) | skip)) | (intro c hc; (try (simp only [AH.none_iff] at hc; repeat (have hn := hc.1; replace hc := hc.2))); (first | (refine i64_k hc ?_ ?_ ?_ ; omega; omega; (clear hc; intro hc; subst hc)) | skip)) | (apply Exists.intro; apply And.intro; (first | (focus (repeat (first | (with_reducible assumption) | (with_reducible exact AH.set_same _ _ _) | ((first | refine AH.get_ne ?_ ?_); (first | (with_reducible assumption))))); done))) | (apply And.intro; (first | rfl | (with_reducible assumption) | exact Nat.le_of_ble_eq_true rfl | omega | (simp <;> omega))) | (refine ACall.to (vc _) ?_))) <;> (try (conv => whnf))
      all_goals exact ⟨_, _, tup_le, by (first | ((repeat' (first | (with_reducible assumption) | refine HLe.set_of _ _ ?_ ?_)); done)), rfl, rfl⟩
end Go.Proofs.Ytghielfbdpkhmaa
/- The walk of the reference's Shrink. -/
namespace Go.Proofs.Ytghielfbdpkhmaa
open Go.Fw Go
set_option linter.unusedVariables false
set_option linter.unusedSimpArgs false

/-- The pixels with a label among the first k of the four. -/
def fk (L : List Int) (F k : Nat) : List Int := keep (lessP L) ((shA F).take k)
theorem fk_len (L : List Int) (F k : Nat) (hk : k ≤ 4) : (fk L F k).length ≤ k := by
  have := keep_len (lessP L) ((shA F).take k)
  rw [List.length_take] at this
  unfold fk; omega
theorem fk_t {L : List Int} {F k : Nat} (hk : k < 4) (h : 0 ≤ L.getD ((shA F).getD k 0).toNat 0) : fk L F (k + 1) = fk L F k ++ [(shA F).getD k 0] := by
  unfold fk
  rw [keep_take (lessP L) (shA F) hk, if_neg]
  unfold lessP
  rw [decide_eq_false (by omega)]
  exact Bool.false_ne_true
theorem fk_f {L : List Int} {F k : Nat} (hk : k < 4) (h : L.getD ((shA F).getD k 0).toNat 0 < 0) : fk L F (k + 1) = fk L F k := by
  unfold fk
  rw [keep_take (lessP L) (shA F) hk, if_pos, List.append_nil]
  exact decide_eq_true h
theorem runMin_app (L F : List Int) (x : Int) : ∀ m, m ≤ F.length → runMin L (F ++ [x]) m = runMin L F m
  | 0, _ => rfl
  | m + 1, h => by
    have e : (F ++ [x]).getD m 0 = F.getD m 0 := by
      rw [List.getD_eq_getElem?_getD, List.getElem?_append_left (by omega), ← List.getD_eq_getElem?_getD]
    show (if runMin L (F ++ [x]) m < 0 ∨ L.getD ((F ++ [x]).getD m 0).toNat 0 < runMin L (F ++ [x]) m then L.getD ((F ++ [x]).getD m 0).toNat 0 else runMin L (F ++ [x]) m) = _
    rw [e, runMin_app L F x m (by omega)]
    rfl
theorem runMin_snoc (L F : List Int) (x : Int) : runMin L (F ++ [x]) (F ++ [x]).length = if runMin L F F.length < 0 ∨ L.getD x.toNat 0 < runMin L F F.length then L.getD x.toNat 0 else runMin L F F.length := by
  have e : (F ++ [x]).getD F.length 0 = x := by
    rw [List.getD_eq_getElem?_getD, List.getElem?_append_right (Nat.le_refl _), Nat.sub_self]; rfl
  rw [List.length_append]
  show (if runMin L (F ++ [x]) F.length < 0 ∨ L.getD ((F ++ [x]).getD F.length 0).toNat 0 < runMin L (F ++ [x]) F.length then L.getD ((F ++ [x]).getD F.length 0).toNat 0 else runMin L (F ++ [x]) F.length) = _
  rw [e, runMin_app L F x _ (Nat.le_refl _)]
set_option maxHeartbeats 8000000 in
set_option maxRecDepth 8000 in
theorem rshrink_ok (n : Nat) (h1 : 1 ≤ (n : Int) ∧ (n : Int) ≤ 4) (T : Nat → Tl) (hT : ∀ q, q < 4 → (T q).Fit) (hg : ∀ q, q < 4 → goodT n (T q)) (H : AH) :
    ACall Try.prog 45 [.int .i64 n, .agg (rowF T)] H (fun z H' => z = .tup [tV n (shLL T) (shPP n T), .int .i64 0] ∧ H' = H) := by
  have em := fun H => rempty_r n h1 H
  have hseg : ∀ q : Nat, q < 4 → List.take 3 (List.drop ((q : Int).toNat * 3) (rowF T)) = (T q).cells := fun q hq => by
    rw [Int.toNat_natCast]; exact rowF_seg T hq
  have hRl := rowF_len T
  refine ACall.coldT ?_
  generalize rowF T = R at *
  refine ACall_of tt_ok (dok _) Try.func45 rfl (by decide) rfl ?_
  (repeat' ((conv => whnf); first | left | refine OpsA.cons ?_ | refine OpsA.nil ?_ | refine AWq.seq ?_ | refine AWq.region ?_ | refine AWq.cond ?_ | refine AWq.block ?_ | refine AWq.skip ?_ | refine AWq.ret ?_ | refine AWq.exit ?_ | refine AWq.loop ?_ | refine DrawA.consD ?_ | refine DrawA.nil ?_ | refine AWq.draw (by decide +kernel) ?_ | (refine Both.mk ?_ ?_ <;> intro hc <;> (first | exact Bool.noConfusion hc | exact absurd (by with_reducible rfl) hc | exact absurd (by assumption) hc | exact absurd hc (by assumption) | (exfalso; omega) | skip)) | (intro c hc; (try (simp only [AH.none_iff] at hc; repeat (have hn := hc.1; replace hc := hc.2))); (first | (have hc2 := Eq.trans hc (by with_reducible assumption); clear hc; subst hc2) | (refine i64_k hc ?_ ?_ ?_ ; omega; omega; (clear hc; intro hc; subst hc)) | subst hc | skip)) | (apply Exists.intro; apply And.intro; (first | (focus (repeat (first | (with_reducible assumption) | (with_reducible exact AH.set_same _ _ _) | ((first | refine AH.get_ne ?_ ?_ | refine AH.getd_ne ?_ ?_); (first | (with_reducible assumption) | exact Ne.symm (by with_reducible assumption))))); done))) | (apply Exists.intro; apply And.intro; first | (with_reducible assumption) | ((try simp only [List.getElem?_drop, Nat.mul_one, Nat.add_zero, Nat.zero_add]); first | (with_reducible assumption) | rfl)) | (apply And.intro; (first | rfl | (with_reducible assumption) | exact Nat.le_of_ble_eq_true rfl | omega | (simp <;> omega))))) <;> (try (conv => whnf))
  (obtain ⟨c4, hq_⟩ : ∃ c4, c4 = c := ⟨_, rfl⟩); subst hq_
  have h4 : H c4 = none := hc
  have hn' : c ≠ c4 := Ne.symm hn
  refine Then.mk (AWq.in ?_)
  refine AWp_freezeP 3 rfl rfl (by (first | (focus (repeat (first | (with_reducible assumption) | (with_reducible exact AH.set_same _ _ _) | ((first | refine AH.get_ne ?_ ?_ | refine AH.getd_ne ?_ ?_); (first | (with_reducible assumption) | exact Ne.symm (by with_reducible assumption))))); done))) ?_
  rw [AH.set_comm _ _ _ hn', AH.del_set _ _ _ (by rw [AH.set_ne _ _ hn']; assumption)]
  clear hn hn' hc
  refine AWp.of tt_ok (dok _) rfl ?_
  (repeat' ((conv => whnf); first | left | refine OpsA.cons ?_ | refine OpsA.nil ?_ | refine AWq.seq ?_ | refine AWq.region ?_ | refine AWq.cond ?_ | refine AWq.block ?_ | refine AWq.skip ?_ | refine AWq.ret ?_ | refine AWq.exit ?_ | refine AWq.loop ?_ | refine DrawA.consD ?_ | refine DrawA.nil ?_ | refine AWq.draw (by decide +kernel) ?_ | (refine Both.mk ?_ ?_ <;> intro hc <;> (first | exact Bool.noConfusion hc | exact absurd (by with_reducible rfl) hc | exact absurd (by assumption) hc | exact absurd hc (by assumption) | (exfalso; omega) | skip)) | (intro c hc; (try (simp only [AH.none_iff] at hc; repeat (have hn := hc.1; replace hc := hc.2))); (first | (have hc2 := Eq.trans hc (by with_reducible assumption); clear hc; subst hc2) | (refine i64_k hc ?_ ?_ ?_ ; omega; omega; (clear hc; intro hc; subst hc)) | subst hc | skip)) | (apply Exists.intro; apply And.intro; (first | (focus (repeat (first | (with_reducible assumption) | (with_reducible exact AH.set_same _ _ _) | ((first | refine AH.get_ne ?_ ?_ | refine AH.getd_ne ?_ ?_); (first | (with_reducible assumption) | exact Ne.symm (by with_reducible assumption))))); done))) | (apply Exists.intro; apply And.intro; first | (with_reducible assumption) | ((try simp only [List.getElem?_drop, Nat.mul_one, Nat.add_zero, Nat.zero_add]); first | (with_reducible assumption) | rfl)) | (apply And.intro; (first | rfl | (with_reducible assumption) | exact Nat.le_of_ble_eq_true rfl | omega | (simp <;> omega))))) <;> (try (conv => whnf))
  refine (em _).mono ?_
  rintro y H' ⟨q1, q2, v1, v2, g, rfl⟩
  have hq1 : (H.set c4 (.row [.int .i64 0, .nils, .nils] 0)) q1 = none := g.ha
  have hq2 : (H.set c4 (.row [.int .i64 0, .nils, .nils] 0)) q2 = none := g.hb
  have n12 := g.ab
  obtain ⟨Sh, hSh⟩ : ∃ Sh : List Int → List Int → AH, ∀ A B, Sh A B = ((H.set c4 (.row [.int .i64 0, .nils, .nils] 0)).set q1 (.row (iS .i64 A) v1)).set q2 (.row (iS .i64 B) v2) := ⟨_, fun _ _ => rfl⟩
  have hH' : H' = Sh emL (emP n) := by rw [hSh]; exact g.e
  obtain ⟨hq1a, hq1b⟩ := AH.none_set hq1
  obtain ⟨hq2a, hq2b⟩ := AH.none_set hq2
  subst hH'
  clear g
  have e0 : emL = lbD T (doneR 0) := by rw [doneR_first, lbD_none]
  have e1 : emP n = pxD n T (doneR 0) 0 0 := by rw [doneR_first, pxD_none]
  rw [e0, e1]
  have gc4 : ∀ A B, Sh A B c4 = some (.row [.int .i64 0, .nils, .nils] 0) := fun A B => by
    rw [hSh, AH.set_ne _ _ (Ne.symm hq2a), AH.set_ne _ _ (Ne.symm hq1a), AH.set_same]
  (repeat' ((conv => whnf); first | left | refine OpsA.cons ?_ | refine OpsA.nil ?_ | refine AWq.seq ?_ | refine AWq.region ?_ | refine AWq.cond ?_ | refine AWq.block ?_ | refine AWq.skip ?_ | refine AWq.ret ?_ | refine AWq.exit ?_ | refine AWq.loop ?_ | refine DrawA.consD ?_ | refine DrawA.nil ?_ | refine AWq.draw (by decide +kernel) ?_ | (refine Both.mk ?_ ?_ <;> intro hc <;> (first | exact Bool.noConfusion hc | exact absurd (by with_reducible rfl) hc | exact absurd (by assumption) hc | exact absurd hc (by assumption) | (exfalso; omega) | skip)) | (intro c hc; (try (simp only [AH.none_iff] at hc; repeat (have hn := hc.1; replace hc := hc.2))); (first | (have hc2 := Eq.trans hc (by with_reducible assumption); clear hc; subst hc2) | (refine i64_k hc ?_ ?_ ?_ ; omega; omega; (clear hc; intro hc; subst hc)) | subst hc | skip)) | (apply Exists.intro; apply And.intro; (first | (focus (repeat (first | (with_reducible assumption) | (with_reducible exact AH.set_same _ _ _) | ((first | refine AH.get_ne ?_ ?_ | refine AH.getd_ne ?_ ?_); (first | (with_reducible assumption) | exact Ne.symm (by with_reducible assumption))))); done))) | (apply Exists.intro; apply And.intro; first | (with_reducible assumption) | ((try simp only [List.getElem?_drop, Nat.mul_one, Nat.add_zero, Nat.zero_add]); first | (with_reducible assumption) | rfl)) | (apply And.intro; (first | rfl | (with_reducible assumption) | exact Nat.le_of_ble_eq_true rfl | omega | (simp <;> omega))))) <;> (try (conv => whnf))
  refine Then.mk (AWq.in ?_)
  refine AWp_segP 6 [.int .i64 n, .sl q1 v1 1 0 256 none, .sl q2 v2 1 0 (256 * n) none] rfl rfl (by assumption) rfl rfl ?_
  refine AWp.of tt_ok (dok _) rfl ?_
  obtain ⟨S, hS⟩ : ∃ S, S = Sh (lbD T (doneR 0)) (pxD n T (doneR 0) 0 0) := ⟨_, rfl⟩
  rw [← hS]
  (repeat' ((conv => whnf); first | refine Then.mk ?_ | left | refine OpsA.cons ?_ | refine OpsA.nil ?_ | refine AWq.seq ?_ | refine AWq.region ?_ | refine AWq.cond ?_ | refine AWq.block ?_ | refine AWq.skip ?_ | refine AWq.ret ?_ | refine AWq.exit ?_ | refine AWq.loop ?_ | refine DrawA.consD ?_ | refine DrawA.nil ?_ | refine AWq.draw (by decide +kernel) ?_ | (refine Both.mk ?_ ?_ <;> intro hc <;> (first | exact Bool.noConfusion hc | exact absurd (by with_reducible rfl) hc | exact absurd (by assumption) hc | exact absurd hc (by assumption) | (exfalso; omega) | skip)) | (intro c hc; (try (simp only [AH.none_iff] at hc; repeat (have hn := hc.1; replace hc := hc.2))); (first | (have hc2 := Eq.trans hc (by with_reducible assumption); clear hc; subst hc2) | (refine i64_k hc ?_ ?_ ?_ ; omega; omega; (clear hc; intro hc; subst hc)) | subst hc | skip)) | (apply Exists.intro; apply And.intro; (first | (focus (repeat (first | (with_reducible assumption) | (with_reducible exact AH.set_same _ _ _) | ((first | refine AH.get_ne ?_ ?_ | refine AH.getd_ne ?_ ?_); (first | (with_reducible assumption) | exact Ne.symm (by with_reducible assumption))))); done))) | (apply Exists.intro; apply And.intro; first | (with_reducible assumption) | ((try simp only [List.getElem?_drop, Nat.mul_one, Nat.add_zero, Nat.zero_add]); first | (with_reducible assumption) | rfl)) | (apply And.intro; (first | rfl | (with_reducible assumption) | exact Nat.le_of_ble_eq_true rfl | omega | (simp <;> omega))))) <;> (try (conv => whnf))
  refine AWp_loop (σ := Nat) (5 :: 8 :: 31 :: 32 :: 33 :: 34 :: 35 :: 36 :: 37 :: 38 :: 39 :: 40 :: 41 :: 42 :: 43 :: 44 :: 45 :: 46 :: 47 :: 48 :: 49 :: 50 :: 51 :: 52 :: 53 :: 54 :: 55 :: 56 :: []) (fun i => [(8, .int .i64 i)]) (fun _ => S) (fun i => i ≤ 4) (fun i => 4 - i) 0 rfl (Nat.zero_le _) ⟨rfl, trivial⟩ (HLe.refl _) ?_
  intro i hi
  refine AWp.of tt_ok (dok _) rfl ?_
  dsimp only at hi ⊢
  by_cases hit : i < 4
  · have hsg : List.take 3 (List.drop ((i : Int).toNat * 3) R) = (T i).cells := hseg i hit
    have hgt : ∀ j, j < 3 → (List.drop j (List.drop ((i : Int).toNat * 3) R))[0]? = (T i).cells[j]? := fun j hj => by
      rw [← hsg, List.getElem?_take_of_lt hj, List.getElem?_drop, Nat.add_zero]
    have hf := hT i hit
    have hgi := hg i hit
    generalize T i = t at *
    obtain ⟨b, L, P⟩ := t
    obtain ⟨f1, f2, f3⟩ := hf
    unfold goodT at hgi
    unfold Tl.cells at hsg hgt
    dsimp only at hgi hsg f1 f2 f3
    have vc := fun H => rvalid_c b L P f1 (by unfold tI; omega) (by unfold tI; omega) H
    unfold tV at vc
    rw [← hsg] at vc
    have g1 : (List.drop (1, 1, false).fst (List.drop ((i : Int).toNat * 3) R))[0]? = some (.cs (iS .i64 L) L.length) := hgt 1 (by decide)
    have g0 : (List.drop (0, 1, false).fst (List.drop ((i : Int).toNat * 3) R))[0]? = some (.int .i64 b) := hgt 0 (by decide)
    have l1 : (iS .i64 L).length = L.length := by simp
    rcases hgi with h0 | ⟨h0, hb⟩
    · (repeat' ((conv => whnf); first | refine Then.mk ?_ | left | refine OpsA.cons ?_ | refine OpsA.nil ?_ | refine AWq.seq ?_ | refine AWq.region ?_ | refine AWq.cond ?_ | refine AWq.block ?_ | refine AWq.skip ?_ | refine AWq.ret ?_ | refine AWq.exit ?_ | refine AWq.loop ?_ | refine DrawA.consD ?_ | refine DrawA.nil ?_ | refine AWq.draw (by decide +kernel) ?_ | (refine Both.mk ?_ ?_ <;> intro hc <;> (first | exact Bool.noConfusion hc | exact absurd (by with_reducible rfl) hc | exact absurd (by assumption) hc | exact absurd hc (by assumption) | (exfalso; omega) | skip)) | (intro c hc; (try (simp only [AH.none_iff] at hc; repeat (have hn := hc.1; replace hc := hc.2))); (first | (have hc2 := Eq.trans hc (by with_reducible assumption); clear hc; subst hc2) | (refine i64_k hc ?_ ?_ ?_ ; omega; omega; (clear hc; intro hc; subst hc)) | subst hc | skip)) | (apply Exists.intro; apply And.intro; (first | (focus (repeat (first | (with_reducible assumption) | (with_reducible exact AH.set_same _ _ _) | ((first | refine AH.get_ne ?_ ?_ | refine AH.getd_ne ?_ ?_); (first | (with_reducible assumption) | exact Ne.symm (by with_reducible assumption))))); done))) | (apply Exists.intro; apply And.intro; first | (with_reducible assumption) | ((try simp only [List.getElem?_drop, Nat.mul_one, Nat.add_zero, Nat.zero_add]); first | (with_reducible assumption) | rfl)) | (apply And.intro; (first | rfl | (with_reducible assumption) | exact Nat.le_of_ble_eq_true rfl | omega | (simp <;> omega))) | (refine ACall.to (vc _) ?_))) <;> (try (conv => whnf))
      exact ⟨i + 1, hit, by omega, ⟨congrArg (AV.int .i64) (by omega), trivial⟩, HLe.refl _⟩
    · rw [h0] at vc
      subst hb
      (repeat' ((conv => whnf); first | refine Then.mk ?_ | left | refine OpsA.cons ?_ | refine OpsA.nil ?_ | refine AWq.seq ?_ | refine AWq.region ?_ | refine AWq.cond ?_ | refine AWq.block ?_ | refine AWq.skip ?_ | refine AWq.ret ?_ | refine AWq.exit ?_ | refine AWq.loop ?_ | refine DrawA.consD ?_ | refine DrawA.nil ?_ | refine AWq.draw (by decide +kernel) ?_ | (refine Both.mk ?_ ?_ <;> intro hc <;> (first | exact Bool.noConfusion hc | exact absurd (by with_reducible rfl) hc | exact absurd (by assumption) hc | exact absurd hc (by assumption) | (exfalso; omega) | skip)) | (intro c hc; (try (simp only [AH.none_iff] at hc; repeat (have hn := hc.1; replace hc := hc.2))); (first | (have hc2 := Eq.trans hc (by with_reducible assumption); clear hc; subst hc2) | (refine i64_k hc ?_ ?_ ?_ ; omega; omega; (clear hc; intro hc; subst hc)) | subst hc | skip)) | (apply Exists.intro; apply And.intro; (first | (focus (repeat (first | (with_reducible assumption) | (with_reducible exact AH.set_same _ _ _) | ((first | refine AH.get_ne ?_ ?_ | refine AH.getd_ne ?_ ?_); (first | (with_reducible assumption) | exact Ne.symm (by with_reducible assumption))))); done))) | (apply Exists.intro; apply And.intro; first | (with_reducible assumption) | ((try simp only [List.getElem?_drop, Nat.mul_one, Nat.add_zero, Nat.zero_add]); first | (with_reducible assumption) | rfl)) | (apply And.intro; (first | rfl | (with_reducible assumption) | exact Nat.le_of_ble_eq_true rfl | omega | (simp <;> omega))) | (refine ACall.to (vc _) ?_))) <;> (try (conv => whnf))
      all_goals exact ⟨i + 1, hit, by omega, ⟨congrArg (AV.int .i64) (by omega), trivial⟩, HLe.refl _⟩
  have hie : i = 4 := by omega
  subst hie
  (repeat' ((conv => whnf); first | refine Then.mk ?_ | left | refine OpsA.cons ?_ | refine OpsA.nil ?_ | refine AWq.seq ?_ | refine AWq.region ?_ | refine AWq.cond ?_ | refine AWq.block ?_ | refine AWq.skip ?_ | refine AWq.ret ?_ | refine AWq.exit ?_ | refine AWq.loop ?_ | refine DrawA.consD ?_ | refine DrawA.nil ?_ | refine AWq.draw (by decide +kernel) ?_ | (refine Both.mk ?_ ?_ <;> intro hc <;> (first | exact Bool.noConfusion hc | exact absurd (by with_reducible rfl) hc | exact absurd (by assumption) hc | exact absurd hc (by assumption) | (exfalso; omega) | skip)) | (intro c hc; (try (simp only [AH.none_iff] at hc; repeat (have hn := hc.1; replace hc := hc.2))); (first | (have hc2 := Eq.trans hc (by with_reducible assumption); clear hc; subst hc2) | (refine i64_k hc ?_ ?_ ?_ ; omega; omega; (clear hc; intro hc; subst hc)) | subst hc | skip)) | (apply Exists.intro; apply And.intro; (first | (focus (repeat (first | (with_reducible assumption) | (with_reducible exact AH.set_same _ _ _) | ((first | refine AH.get_ne ?_ ?_ | refine AH.getd_ne ?_ ?_); (first | (with_reducible assumption) | exact Ne.symm (by with_reducible assumption))))); done))) | (apply Exists.intro; apply And.intro; first | (with_reducible assumption) | ((try simp only [List.getElem?_drop, Nat.mul_one, Nat.add_zero, Nat.zero_add]); first | (with_reducible assumption) | rfl)) | (apply And.intro; (first | rfl | (with_reducible assumption) | exact Nat.le_of_ble_eq_true rfl | omega | (simp <;> omega))))) <;> (try (conv => whnf))
  rw [hS]
  clear hS S
  refine AWp_loop (σ := Nat) (9 :: 10 :: 11 :: 12 :: 13 :: 14 :: 15 :: 16 :: 17 :: 18 :: 19 :: 20 :: 21 :: 57 :: 58 :: 59 :: 60 :: 61 :: 62 :: 63 :: 64 :: 65 :: 66 :: 67 :: 68 :: 69 :: 70 :: 71 :: 72 :: 73 :: 74 :: 75 :: 76 :: 77 :: 78 :: 79 :: 80 :: 81 :: 82 :: 83 :: 84 :: 85 :: 86 :: 87 :: 88 :: 89 :: 90 :: 91 :: 92 :: 93 :: 94 :: 95 :: 96 :: 97 :: 98 :: 99 :: 100 :: 101 :: 102 :: 103 :: 104 :: 105 :: 106 :: 107 :: 108 :: 109 :: 110 :: 111 :: 112 :: 113 :: 114 :: 115 :: 116 :: 117 :: 118 :: 119 :: 120 :: 121 :: 122 :: 123 :: 124 :: 125 :: 126 :: 127 :: 128 :: 129 :: 130 :: 131 :: 132 :: 133 :: 134 :: 135 :: 136 :: 137 :: 138 :: 139 :: 140 :: 141 :: 142 :: 143 :: 144 :: 145 :: 146 :: 147 :: 148 :: 149 :: 150 :: 151 :: 152 :: 153 :: 154 :: 155 :: 156 :: 157 :: 158 :: 159 :: 160 :: 161 :: 162 :: 163 :: 164 :: 165 :: 166 :: 167 :: 168 :: 169 :: 170 :: 171 :: 172 :: 173 :: 174 :: 175 :: 176 :: 177 :: 178 :: 179 :: 180 :: 181 :: []) (fun p => [(9, .int .i64 p)]) (fun p => Sh (lbD T (doneR p)) (pxD n T (doneR p) 0 0)) (fun p => p ≤ 256) (fun p => 256 - p) 0 rfl (Nat.zero_le _) ⟨rfl, trivial⟩ (HLe.refl _) ?_
  clear hi hit hc
  intro p hp
  refine AWp.of tt_ok (dok _) rfl ?_
  dsimp only at hp ⊢
  by_cases hpt : p < 256
  · obtain ⟨q, hq⟩ : ∃ q, q = shQ p := ⟨_, rfl⟩
    have hqt : q < 4 := by rw [hq]; exact shQ_lt hpt
    have hsg : List.take 3 (List.drop ((q : Int).toNat * 3) R) = (T q).cells := hseg q hqt
    have hf := hT q hqt
    have hgq := hg q hqt
    obtain ⟨t, ht⟩ : ∃ t, t = T q := ⟨_, rfl⟩
    rw [← ht] at hsg hf hgq
    obtain ⟨b, L, P⟩ := t
    obtain ⟨f1, f2, f3⟩ := hf
    unfold goodT at hgq
    unfold Tl.cells at hsg
    dsimp only at hgq hsg f1 f2 f3
    have ho3 : (List.take 3 (List.drop ((q : Int).toNat * 3) R)).all one = true := by rw [hsg]; rfl
    have l1 : (iS .i64 L).length = L.length := by simp
    have hdr := doneR_put p
    have ww : ∀ x : Int, 0 ≤ x → x < 1000000 → IntKind.i64.wrap x = x := fun x h1 h2 => by rw [IntKind.wrap_i64]; omega
    have eQ : IntKind.i64.wrap (IntKind.i64.wrap (IntKind.i64.wrap ((IntKind.i64.wrap ((p : Int).tdiv 16)).tdiv 8) * 2) + IntKind.i64.wrap (((p : Int).tmod 16).tdiv 8)) = (q : Nat) := by
      rw [hq, show (p : Int).tdiv 16 = ((p / 16 : Nat) : Int) from rfl, show (p : Int).tmod 16 = ((p % 16 : Nat) : Int) from rfl, ww ((p / 16 : Nat) : Int) (by omega) (by omega),
        show ((p / 16 : Nat) : Int).tdiv 8 = ((p / 16 / 8 : Nat) : Int) from rfl, show ((p % 16 : Nat) : Int).tdiv 8 = ((p % 16 / 8 : Nat) : Int) from rfl, ww ((p / 16 / 8 : Nat) : Int) (by omega) (by omega), ww (((p / 16 / 8 : Nat) : Int) * 2) (by omega) (by omega),
        ww ((p % 16 / 8 : Nat) : Int) (by omega) (by omega), ww (((p / 16 / 8 : Nat) : Int) * 2 + ((p % 16 / 8 : Nat) : Int)) (by omega) (by omega)]
      unfold shQ
      omega
    by_cases hL0 : L.length = 0
    · have hTL : (T (shQ p)).L.length = 0 := by rw [← hq, ← ht]; exact hL0
      have e2 : lbD T (doneR (p + 1)) = lbD T (doneR p) := lbD_same fun x hx => by
        by_cases e : x = p
        · exact .inr (by unfold labA; rw [e, if_pos hTL])
        · rw [hdr x hx, decide_eq_false e, Bool.or_false]; exact .inl rfl
      have e3 : pxD n T (doneR (p + 1)) 0 0 = pxD n T (doneR p) 0 0 := pxD_same (by omega) fun x hx => by
        by_cases e : x = p
        · exact .inr fun b hb => by unfold pixA; rw [e, if_pos hTL]
        · rw [hdr x hx, decide_eq_false e, Bool.or_false]; exact .inl rfl
      have eG : Sh (lbD T (doneR (p + 1))) (pxD n T (doneR (p + 1)) 0 0) = Sh (lbD T (doneR p)) (pxD n T (doneR p) 0 0) := by rw [e2, e3]
      generalize Sh (lbD T (doneR p)) (pxD n T (doneR p) 0 0) = G at *
      (repeat' ((conv => whnf); first | (refine Then.mk (AWq.in ?_); refine AWp_segP 12 ([.int .i64 b, .cs (iS .i64 L) L.length, .cs (iS .i64 P) P.length]) rfl rfl (by assumption) (hsg) (rfl) ?_; refine AWp.of tt_ok (dok _) rfl ?_) | refine Then.mk ?_ | left | refine OpsA.cons ?_ | refine OpsA.nil ?_ | refine AWq.seq ?_ | refine AWq.region ?_ | refine AWq.cond ?_ | refine AWq.block ?_ | refine AWq.skip ?_ | refine AWq.ret ?_ | refine AWq.exit ?_ | refine AWq.loop ?_ | refine DrawA.consD ?_ | refine DrawA.nil ?_ | refine AWq.draw (by decide +kernel) ?_ | (refine Both.mk ?_ ?_ <;> intro hc <;> (first | exact Bool.noConfusion hc | exact absurd (by with_reducible rfl) hc | exact absurd (by assumption) hc | exact absurd hc (by assumption) | (exfalso; omega) | skip)) | (intro c hc; (try (simp only [AH.none_iff] at hc; repeat (have hn := hc.1; replace hc := hc.2))); (first | (have hc2 := Eq.trans hc (by with_reducible assumption); clear hc; subst hc2) | (refine i64_k hc ?_ ?_ ?_ ; omega; omega; (clear hc; intro hc; subst hc)) | subst hc | skip)) | (apply Exists.intro; apply And.intro; (first | (focus (repeat (first | (with_reducible assumption) | (with_reducible exact AH.set_same _ _ _) | ((first | refine AH.get_ne ?_ ?_ | refine AH.getd_ne ?_ ?_); (first | (with_reducible assumption) | exact Ne.symm (by with_reducible assumption))))); done))) | (apply Exists.intro; apply And.intro; first | (with_reducible assumption) | ((try simp only [List.getElem?_drop, Nat.mul_one, Nat.add_zero, Nat.zero_add]); first | (with_reducible assumption) | rfl)) | (apply And.intro; (first | rfl | (with_reducible assumption) | exact Nat.le_of_ble_eq_true rfl | omega | (simp <;> omega))))) <;> (try (conv => whnf))
      exact ⟨p + 1, hpt, by omega, ⟨congrArg (AV.int .i64) (by omega), trivial⟩, HLe.of_eq eG⟩
    · have hgd := hgq.resolve_left hL0
      obtain ⟨hte, rfl⟩ := hgd
      obtain ⟨⟨-, t2, t3⟩, hlb⟩ := tile_good hte
      rw [Int.toNat_natCast] at hlb
      have hl2 : P.length = 256 * n := by omega
      have hfl := fun a => frm_labels t2 hlb a
      have labT : labA T p = shL L p := by unfold labA; rw [← hq, ← ht, if_neg hL0]
      have pixT : ∀ b, pixA n T p b = shP n L P p b := fun b => by unfold pixA; rw [← hq, ← ht, if_neg hL0]
      obtain ⟨G, hG⟩ : ∃ G, G = Sh (lbD T (doneR p)) (pxD n T (doneR p) 0 0) := ⟨_, rfl⟩
      rw [← hG]
      (repeat' ((conv => whnf); first | (refine Then.mk (AWq.in ?_); refine AWp_segP 12 ([.int .i64 (n : Int), .cs (iS .i64 L) L.length, .cs (iS .i64 P) P.length]) rfl rfl (by assumption) (hsg) (rfl) ?_; refine AWp.of tt_ok (dok _) rfl ?_) | refine Then.mk ?_ | left | refine OpsA.cons ?_ | refine OpsA.nil ?_ | refine AWq.seq ?_ | refine AWq.region ?_ | refine AWq.cond ?_ | refine AWq.block ?_ | refine AWq.skip ?_ | refine AWq.ret ?_ | refine AWq.exit ?_ | refine AWq.loop ?_ | refine DrawA.consD ?_ | refine DrawA.nil ?_ | refine AWq.draw (by decide +kernel) ?_ | (refine Both.mk ?_ ?_ <;> intro hc <;> (first | exact Bool.noConfusion hc | exact absurd (by with_reducible rfl) hc | exact absurd (by assumption) hc | exact absurd hc (by assumption) | (exfalso; omega) | skip)) | (intro c hc; (try (simp only [AH.none_iff] at hc; repeat (have hn := hc.1; replace hc := hc.2))); (first | (have hc2 := Eq.trans hc (by with_reducible assumption); clear hc; subst hc2) | (refine i64_k hc ?_ ?_ ?_ ; omega; omega; (clear hc; intro hc; subst hc)) | subst hc | skip)) | (apply Exists.intro; apply And.intro; (first | (focus (repeat (first | (with_reducible assumption) | (with_reducible exact AH.set_same _ _ _) | ((first | refine AH.get_ne ?_ ?_ | refine AH.getd_ne ?_ ?_); (first | (with_reducible assumption) | exact Ne.symm (by with_reducible assumption))))); done))) | (apply Exists.intro; apply And.intro; first | (with_reducible assumption) | ((try simp only [List.getElem?_drop, Nat.mul_one, Nat.add_zero, Nat.zero_add]); first | (with_reducible assumption) | rfl)) | (apply And.intro; (first | rfl | (with_reducible assumption) | exact Nat.le_of_ble_eq_true rfl | omega | (simp <;> omega))))) <;> (try (conv => whnf))
      refine AWp_nilrow1 13 1 rfl rfl fun q3 hq3 => ?_
      obtain ⟨F, hF⟩ : ∃ F, F = shF p := ⟨_, rfl⟩
      have hF2 : F ≤ 238 := by rw [hF]; exact shF_le _
      have k1 : G q1 = some (.row (iS .i64 (lbD T (doneR p))) v1) := by rw [hG, hSh]; (first | (focus (repeat (first | (with_reducible assumption) | (with_reducible exact AH.set_same _ _ _) | ((first | refine AH.get_ne ?_ ?_ | refine AH.getd_ne ?_ ?_); (first | (with_reducible assumption) | exact Ne.symm (by with_reducible assumption))))); done))
      have k2 : G q2 = some (.row (iS .i64 (pxD n T (doneR p) 0 0)) v2) := by rw [hG, hSh]; (first | (focus (repeat (first | (with_reducible assumption) | (with_reducible exact AH.set_same _ _ _) | ((first | refine AH.get_ne ?_ ?_ | refine AH.getd_ne ?_ ?_); (first | (with_reducible assumption) | exact Ne.symm (by with_reducible assumption))))); done))
      have n31 : q3 ≠ q1 := fun h => by rw [h, k1] at hq3; cases hq3
      have n32 : q3 ≠ q2 := fun h => by rw [h, k2] at hq3; cases hq3
      obtain ⟨Hk, hHk⟩ : ∃ Hk : List Int → Int → AH, ∀ F' r, Hk F' r = (Sh ((lbD T (doneR p)).set p r) (pxD n T (doneR p) 0 0)).set q3 (.row (iS .i64 F') F'.length) := ⟨_, fun _ _ => rfl⟩
      have hH0 : Hk [] (-1) = G.set q3 (.row [] 0) := by rw [hHk, lbD_m1 (doneR_self p), ← hG]; rfl
      refine AWp_loop (σ := Nat) (13 :: 14 :: 15 :: 77 :: 78 :: 79 :: 80 :: 81 :: 82 :: 83 :: 84 :: 85 :: 86 :: 87 :: 88 :: 89 :: 90 :: 91 :: 92 :: 93 :: 94 :: 95 :: 96 :: 97 :: 98 :: 99 :: 100 :: 101 :: 102 :: 103 :: 104 :: 105 :: 106 :: 107 :: 108 :: 109 :: 110 :: 111 :: 112 :: 113 :: 114 :: 115 :: 116 :: 117 :: 118 :: 119 :: 120 :: 121 :: 122 :: 123 :: 124 :: 125 :: 126 :: 127 :: 128 :: 129 :: 130 :: 131 :: 132 :: []) (fun k => [(14, .int .i64 k), (13, .sl q3 (fk L F k).length 1 0 (fk L F k).length none)]) (fun k => Hk (fk L F k) (runMin L (fk L F k) (fk L F k).length)) (fun k => k ≤ 4) (fun k => 4 - k) 0 rfl (Nat.zero_le _) ⟨rfl, rfl, trivial⟩ (HLe.of_eq hH0) ?_
      intro k hk
      refine AWp.of tt_ok (dok _) rfl ?_
      dsimp only at hk ⊢
      by_cases hkt : k < 4
      · have hx := shA_in hF2 _ (getD_in (show k < (shA F).length from hkt))
        obtain ⟨x, hxe⟩ : ∃ x, x = (shA F).getD k 0 := ⟨_, rfl⟩
        have eX : IntKind.i64.wrap (IntKind.i64.wrap (IntKind.i64.wrap (IntKind.i64.wrap (IntKind.i64.wrap ((IntKind.i64.wrap ((p : Int).tdiv 16)).tmod 8 * 2) + IntKind.i64.wrap ((k : Int).tdiv 2)) * 16) + IntKind.i64.wrap (((p : Int).tmod 16).tmod 8 * 2)) + (k : Int).tmod 2) = x := by
          have hx2 : x = 2 * ((p / 16 % 8 : Nat) : Int) * 16 + 2 * ((p % 16 % 8 : Nat) : Int) + ((k / 2 : Nat) : Int) * 16 + ((k % 2 : Nat) : Int) := by
            rw [hxe, hF]
            unfold shF
            rcases (show k = 0 ∨ k = 1 ∨ k = 2 ∨ k = 3 by omega) with rfl | rfl | rfl | rfl <;> (unfold shA; simp only [List.getD_cons_zero, List.getD_cons_succ]; omega)
          rw [show (p : Int).tdiv 16 = ((p / 16 : Nat) : Int) from rfl, show (p : Int).tmod 16 = ((p % 16 : Nat) : Int) from rfl, ww ((p / 16 : Nat) : Int) (by omega) (by omega),
            show ((p / 16 : Nat) : Int).tmod 8 = ((p / 16 % 8 : Nat) : Int) from rfl, show ((p % 16 : Nat) : Int).tmod 8 = ((p % 16 % 8 : Nat) : Int) from rfl, show (k : Int).tdiv 2 = ((k / 2 : Nat) : Int) from rfl, show (k : Int).tmod 2 = ((k % 2 : Nat) : Int) from rfl,
            ww (((p / 16 % 8 : Nat) : Int) * 2) (by omega) (by omega), ww ((k / 2 : Nat) : Int) (by omega) (by omega), ww (((p / 16 % 8 : Nat) : Int) * 2 + ((k / 2 : Nat) : Int)) (by omega) (by omega),
            ww ((((p / 16 % 8 : Nat) : Int) * 2 + ((k / 2 : Nat) : Int)) * 16) (by omega) (by omega), ww (((p % 16 % 8 : Nat) : Int) * 2) (by omega) (by omega),
            ww ((((p / 16 % 8 : Nat) : Int) * 2 + ((k / 2 : Nat) : Int)) * 16 + ((p % 16 % 8 : Nat) : Int) * 2) (by omega) (by omega),
            ww ((((p / 16 % 8 : Nat) : Int) * 2 + ((k / 2 : Nat) : Int)) * 16 + ((p % 16 % 8 : Nat) : Int) * 2 + ((k % 2 : Nat) : Int)) (by omega) (by omega)]
          omega
        rw [← hxe] at hx
        have gx : (iS .i64 L)[x.toNat]? = some (.int .i64 (L.getD x.toNat 0)) := iS_get (by omega)
        have hfl4 := fk_len L F k (by omega)
        by_cases hneg : L.getD x.toNat 0 < 0
        · have eF := fk_f (L := L) (F := F) hkt (by rw [← hxe]; exact hneg)
          generalize hF1 : fk L F (k + 1) = F1 at *
          generalize fk L F k = F0 at *
          subst eF
          generalize hG2 : Hk F1 (runMin L F1 F1.length) = G2 at *
          (repeat' ((conv => whnf); first | refine Then.mk ?_ | left | refine OpsA.cons ?_ | refine OpsA.nil ?_ | refine AWq.seq ?_ | refine AWq.region ?_ | refine AWq.cond ?_ | refine AWq.block ?_ | refine AWq.skip ?_ | refine AWq.ret ?_ | refine AWq.exit ?_ | refine AWq.loop ?_ | refine DrawA.consD ?_ | refine DrawA.nil ?_ | refine AWq.draw (by decide +kernel) ?_ | (refine Both.mk ?_ ?_ <;> intro hc <;> (first | exact Bool.noConfusion hc | exact absurd (by with_reducible rfl) hc | exact absurd (by assumption) hc | exact absurd hc (by assumption) | (exfalso; omega) | skip)) | (intro c hc; (try (simp only [AH.none_iff] at hc; repeat (have hn := hc.1; replace hc := hc.2))); (first | (have hc2 := Eq.trans hc (by with_reducible assumption); clear hc; subst hc2) | (refine i64_k hc ?_ ?_ ?_ ; omega; omega; (clear hc; intro hc; subst hc)) | subst hc | skip)) | (apply Exists.intro; apply And.intro; (first | (focus (repeat (first | (with_reducible assumption) | (with_reducible exact AH.set_same _ _ _) | ((first | refine AH.get_ne ?_ ?_ | refine AH.getd_ne ?_ ?_); (first | (with_reducible assumption) | exact Ne.symm (by with_reducible assumption))))); done))) | (apply Exists.intro; apply And.intro; first | (with_reducible assumption) | ((try simp only [List.getElem?_drop, Nat.mul_one, Nat.add_zero, Nat.zero_add]); first | (with_reducible assumption) | rfl)) | (apply And.intro; (first | rfl | (with_reducible assumption) | exact Nat.le_of_ble_eq_true rfl | omega | (simp <;> omega))))) <;> (try (conv => whnf))
          exact ⟨k + 1, hkt, by omega, ⟨congrArg (AV.int .i64) (by omega), by dsimp only; rw [hF1]; rfl, trivial⟩, HLe.of_eq (by rw [hF1, hG2])⟩
        · have eF := fk_t (L := L) (F := F) hkt (by rw [← hxe]; omega)
          rw [← hxe] at eF
          have hrs := runMin_snoc L (fk L F k) x
          rw [← eF] at hrs
          have eFl : (fk L F (k + 1)).length = (fk L F k).length + 1 := by rw [eF, List.length_append]; rfl
          have l3 : (iS .i64 (fk L F k)).length = (fk L F k).length := by simp
          have lA : ∀ r, (iS .i64 ((lbD T (doneR p)).set p r)).length = 256 := fun r => by rw [iS_length, List.length_set]; exact lbD_len _ _
          have gA : ∀ r, (iS .i64 ((lbD T (doneR p)).set p r))[(p : Int).toNat]? = some (.int .i64 r) := fun r => by
            rw [Int.toNat_natCast, iS_get (by rw [List.length_set, lbD_len]; exact hpt), set_getD (by rw [lbD_len]; exact hpt)]
          have hwr : ∀ r z, wrA (iS .i64 ((lbD T (doneR p)).set p r)) (0 + (p : Int).toNat * 1) [.int .i64 z] = iS .i64 ((lbD T (doneR p)).set p z) := fun r z => by
            rw [show 0 + (p : Int).toNat * 1 = p by omega, iS_wr1 (by rw [List.length_set, lbD_len]; exact hpt), List.set_set]
          have kA : ∀ F' r, Hk F' r q1 = some (.row (iS .i64 ((lbD T (doneR p)).set p r)) v1) := fun F' r => by rw [hHk, hSh]; (first | (focus (repeat (first | (with_reducible assumption) | (with_reducible exact AH.set_same _ _ _) | ((first | refine AH.get_ne ?_ ?_ | refine AH.getd_ne ?_ ?_); (first | (with_reducible assumption) | exact Ne.symm (by with_reducible assumption))))); done))
          have k3 : ∀ F' r, Hk F' r q3 = some (.row (iS .i64 F') F'.length) := fun F' r => by rw [hHk]; (first | (focus (repeat (first | (with_reducible assumption) | (with_reducible exact AH.set_same _ _ _) | ((first | refine AH.get_ne ?_ ?_ | refine AH.getd_ne ?_ ?_); (first | (with_reducible assumption) | exact Ne.symm (by with_reducible assumption))))); done))
          have kS : ∀ F' r, HLe (Hk (F' ++ [x]) r) ((Hk F' r).set q3 (.row (iS .i64 F' ++ [.int .i64 x]) (F'.length + 1))) := fun F' r => by
            rw [hHk, hHk, ← iS_snoc, List.length_append, AH.set_set]; exact HLe.refl _
          have kT : ∀ F' r z, HLe (Hk (F' ++ [x]) z) (((Hk F' r).set q3 (.row (iS .i64 F' ++ [.int .i64 x]) (F'.length + 1))).set q1 (.row (wrA (iS .i64 ((lbD T (doneR p)).set p r)) (0 + (p : Int).toNat * 1) [.int .i64 z]) v1)) := fun F' r z => by
            rw [hHk, hHk, ← iS_snoc, List.length_append, AH.set_set, hwr, hSh, hSh]; exact HLe.of_eq (by ((funext s; simp only [AH.set, AH.del]; repeat' split) <;> (first | rfl | (exfalso; omega))))
          have kS0 := kS (fk L F k) (runMin L (fk L F k) (fk L F k).length)
          have kT0 := kT (fk L F k) (runMin L (fk L F k) (fk L F k).length) (L.getD x.toNat 0)
          have kA0 := kA (fk L F k) (runMin L (fk L F k) (fk L F k).length)
          have k30 := k3 (fk L F k) (runMin L (fk L F k) (fk L F k).length)
          have gA0 := gA (runMin L (fk L F k) (fk L F k).length)
          have lA0 := lA (runMin L (fk L F k) (fk L F k).length)
          rw [← eF] at kS0 kT0
          clear kS kT kA k3 gA lA hwr eF
          generalize hF1 : fk L F (k + 1) = F1 at *
          generalize hr1 : runMin L F1 F1.length = r1 at *
          generalize runMin L (fk L F k) (fk L F k).length = r0 at *
          generalize fk L F k = F0 at *
          generalize hRA : iS .i64 ((lbD T (doneR p)).set p r0) = RA at *
          generalize hR3 : iS .i64 F0 = R3 at *
          generalize F0.length = m at *
          generalize Hk F0 r0 = G2 at *
          generalize L.getD x.toNat 0 = z at *
          by_cases hc1 : r0 < 0
          · rw [if_pos (.inl hc1)] at hrs
            (repeat' ((conv => whnf); first | refine Then.mk ?_ | left | refine OpsA.cons ?_ | refine OpsA.nil ?_ | refine AWq.seq ?_ | refine AWq.region ?_ | refine AWq.cond ?_ | refine AWq.block ?_ | refine AWq.skip ?_ | refine AWq.ret ?_ | refine AWq.exit ?_ | refine AWq.loop ?_ | refine DrawA.consD ?_ | refine DrawA.nil ?_ | refine AWq.draw (by decide +kernel) ?_ | (refine Both.mk ?_ ?_ <;> intro hc <;> (first | exact Bool.noConfusion hc | exact absurd (by with_reducible rfl) hc | exact absurd (by assumption) hc | exact absurd hc (by assumption) | (exfalso; omega) | skip)) | (intro c hc; (try (simp only [AH.none_iff] at hc; repeat (have hn := hc.1; replace hc := hc.2))); (first | (have hc2 := Eq.trans hc (by with_reducible assumption); clear hc; subst hc2) | (refine i64_k hc ?_ ?_ ?_ ; omega; omega; (clear hc; intro hc; subst hc)) | subst hc | skip)) | (apply Exists.intro; apply And.intro; (first | (focus (repeat (first | (with_reducible assumption) | (with_reducible exact AH.set_same _ _ _) | ((first | refine AH.get_ne ?_ ?_ | refine AH.getd_ne ?_ ?_); (first | (with_reducible assumption) | exact Ne.symm (by with_reducible assumption))))); done))) | (apply Exists.intro; apply And.intro; first | (with_reducible assumption) | ((try simp only [List.getElem?_drop, Nat.mul_one, Nat.add_zero, Nat.zero_add]); first | (with_reducible assumption) | rfl)) | (apply And.intro; (first | rfl | (with_reducible assumption) | exact Nat.le_of_ble_eq_true rfl | omega | (simp <;> omega))))) <;> (try (conv => whnf))
            exact ⟨k + 1, hkt, by omega, ⟨congrArg (AV.int .i64) (by omega), by dsimp only; rw [hF1, eFl]; rfl, trivial⟩, by dsimp only; rw [hF1, hr1, hrs]; exact kT0⟩
          · by_cases hc2 : z < r0
            · rw [if_pos (.inr hc2)] at hrs
              (repeat' ((conv => whnf); first | refine Then.mk ?_ | left | refine OpsA.cons ?_ | refine OpsA.nil ?_ | refine AWq.seq ?_ | refine AWq.region ?_ | refine AWq.cond ?_ | refine AWq.block ?_ | refine AWq.skip ?_ | refine AWq.ret ?_ | refine AWq.exit ?_ | refine AWq.loop ?_ | refine DrawA.consD ?_ | refine DrawA.nil ?_ | refine AWq.draw (by decide +kernel) ?_ | (refine Both.mk ?_ ?_ <;> intro hc <;> (first | exact Bool.noConfusion hc | exact absurd (by with_reducible rfl) hc | exact absurd (by assumption) hc | exact absurd hc (by assumption) | (exfalso; omega) | skip)) | (intro c hc; (try (simp only [AH.none_iff] at hc; repeat (have hn := hc.1; replace hc := hc.2))); (first | (have hc2 := Eq.trans hc (by with_reducible assumption); clear hc; subst hc2) | (refine i64_k hc ?_ ?_ ?_ ; omega; omega; (clear hc; intro hc; subst hc)) | subst hc | skip)) | (apply Exists.intro; apply And.intro; (first | (focus (repeat (first | (with_reducible assumption) | (with_reducible exact AH.set_same _ _ _) | ((first | refine AH.get_ne ?_ ?_ | refine AH.getd_ne ?_ ?_); (first | (with_reducible assumption) | exact Ne.symm (by with_reducible assumption))))); done))) | (apply Exists.intro; apply And.intro; first | (with_reducible assumption) | ((try simp only [List.getElem?_drop, Nat.mul_one, Nat.add_zero, Nat.zero_add]); first | (with_reducible assumption) | rfl)) | (apply And.intro; (first | rfl | (with_reducible assumption) | exact Nat.le_of_ble_eq_true rfl | omega | (simp <;> omega))))) <;> (try (conv => whnf))
              exact ⟨k + 1, hkt, by omega, ⟨congrArg (AV.int .i64) (by omega), by dsimp only; rw [hF1, eFl]; rfl, trivial⟩, by dsimp only; rw [hF1, hr1, hrs]; exact kT0⟩
            · rw [if_neg (fun h => h.elim hc1 hc2)] at hrs
              (repeat' ((conv => whnf); first | refine Then.mk ?_ | left | refine OpsA.cons ?_ | refine OpsA.nil ?_ | refine AWq.seq ?_ | refine AWq.region ?_ | refine AWq.cond ?_ | refine AWq.block ?_ | refine AWq.skip ?_ | refine AWq.ret ?_ | refine AWq.exit ?_ | refine AWq.loop ?_ | refine DrawA.consD ?_ | refine DrawA.nil ?_ | refine AWq.draw (by decide +kernel) ?_ | (refine Both.mk ?_ ?_ <;> intro hc <;> (first | exact Bool.noConfusion hc | exact absurd (by with_reducible rfl) hc | exact absurd (by assumption) hc | exact absurd hc (by assumption) | (exfalso; omega) | skip)) | (intro c hc; (try (simp only [AH.none_iff] at hc; repeat (have hn := hc.1; replace hc := hc.2))); (first | (have hc2 := Eq.trans hc (by with_reducible assumption); clear hc; subst hc2) | (refine i64_k hc ?_ ?_ ?_ ; omega; omega; (clear hc; intro hc; subst hc)) | subst hc | skip)) | (apply Exists.intro; apply And.intro; (first | (focus (repeat (first | (with_reducible assumption) | (with_reducible exact AH.set_same _ _ _) | ((first | refine AH.get_ne ?_ ?_ | refine AH.getd_ne ?_ ?_); (first | (with_reducible assumption) | exact Ne.symm (by with_reducible assumption))))); done))) | (apply Exists.intro; apply And.intro; first | (with_reducible assumption) | ((try simp only [List.getElem?_drop, Nat.mul_one, Nat.add_zero, Nat.zero_add]); first | (with_reducible assumption) | rfl)) | (apply And.intro; (first | rfl | (with_reducible assumption) | exact Nat.le_of_ble_eq_true rfl | omega | (simp <;> omega))))) <;> (try (conv => whnf))
              exact ⟨k + 1, hkt, by omega, ⟨congrArg (AV.int .i64) (by omega), by dsimp only; rw [hF1, eFl]; rfl, trivial⟩, by rw [hF1, hr1, hrs]; exact kS0⟩
      · have hke : k = 4 := by omega
        subst hke
        have e4 : fk L F 4 = frm L p := by rw [hF]; rfl
        rw [e4, runMin_shL, ← labT]
        have k3 : Hk (frm L p) (labA T p) q3 = some (.row (iS .i64 (frm L p)) (frm L p).length) := by rw [hHk]; (first | (focus (repeat (first | (with_reducible assumption) | (with_reducible exact AH.set_same _ _ _) | ((first | refine AH.get_ne ?_ ?_ | refine AH.getd_ne ?_ ?_); (first | (with_reducible assumption) | exact Ne.symm (by with_reducible assumption))))); done))
        have hdel : (Hk (frm L p) (labA T p)).del q3 = Sh (lbD T (doneR (p + 1))) (pxD n T (doneR p) p 0) := by
          rw [hHk, lbD_put hdr, AH.del_set _ _ _ (by rw [hSh, AH.set_ne _ _ n32, AH.set_ne _ _ n31]; rw [hG, hSh, AH.set_ne _ _ n32, AH.set_ne _ _ n31] at hq3; exact hq3),
            pxD_same (n := n) (T := T) (D := doneR p) (D2 := doneR p) (p := 0) (p2 := p) (by omega) fun x hx => .inl rfl]
        have hlf : (iS .i64 (frm L p)).length = (frm L p).length := by simp
        have hf4 := frm_len L p
        generalize Hk (frm L p) (labA T p) = G3 at *
        clear hH0 k1 k2
        (repeat' ((conv => whnf); first | left | refine OpsA.cons ?_ | refine OpsA.nil ?_ | refine AWq.seq ?_ | refine AWq.region ?_ | refine AWq.cond ?_ | refine AWq.block ?_ | refine AWq.skip ?_ | refine AWq.ret ?_ | refine AWq.exit ?_ | refine AWq.loop ?_ | refine DrawA.consD ?_ | refine DrawA.nil ?_ | refine AWq.draw (by decide +kernel) ?_ | (refine Both.mk ?_ ?_ <;> intro hc <;> (first | exact Bool.noConfusion hc | exact absurd (by with_reducible rfl) hc | exact absurd (by assumption) hc | exact absurd hc (by assumption) | (exfalso; omega) | skip)) | (intro c hc; (try (simp only [AH.none_iff] at hc; repeat (have hn := hc.1; replace hc := hc.2))); (first | (have hc2 := Eq.trans hc (by with_reducible assumption); clear hc; subst hc2) | (refine i64_k hc ?_ ?_ ?_ ; omega; omega; (clear hc; intro hc; subst hc)) | subst hc | skip)) | (apply Exists.intro; apply And.intro; (first | (focus (repeat (first | (with_reducible assumption) | (with_reducible exact AH.set_same _ _ _) | ((first | refine AH.get_ne ?_ ?_ | refine AH.getd_ne ?_ ?_); (first | (with_reducible assumption) | exact Ne.symm (by with_reducible assumption))))); done))) | (apply Exists.intro; apply And.intro; first | (with_reducible assumption) | ((try simp only [List.getElem?_drop, Nat.mul_one, Nat.add_zero, Nat.zero_add]); first | (with_reducible assumption) | rfl)) | (apply And.intro; (first | rfl | (with_reducible assumption) | exact Nat.le_of_ble_eq_true rfl | omega | (simp <;> omega))))) <;> (try (conv => whnf))
        refine Then.mk ?_
        (repeat' ((conv => whnf); first | left | refine OpsA.cons ?_ | refine OpsA.nil ?_ | refine AWq.seq ?_ | refine AWq.region ?_ | refine AWq.cond ?_ | refine AWq.block ?_ | refine AWq.skip ?_ | refine AWq.ret ?_ | refine AWq.exit ?_ | refine AWq.loop ?_ | refine DrawA.consD ?_ | refine DrawA.nil ?_ | refine AWq.draw (by decide +kernel) ?_ | (refine Both.mk ?_ ?_ <;> intro hc <;> (first | exact Bool.noConfusion hc | exact absurd (by with_reducible rfl) hc | exact absurd (by assumption) hc | exact absurd hc (by assumption) | (exfalso; omega) | skip)) | (intro c hc; (try (simp only [AH.none_iff] at hc; repeat (have hn := hc.1; replace hc := hc.2))); (first | (have hc2 := Eq.trans hc (by with_reducible assumption); clear hc; subst hc2) | (refine i64_k hc ?_ ?_ ?_ ; omega; omega; (clear hc; intro hc; subst hc)) | subst hc | skip)) | (apply Exists.intro; apply And.intro; (first | (focus (repeat (first | (with_reducible assumption) | (with_reducible exact AH.set_same _ _ _) | ((first | refine AH.get_ne ?_ ?_ | refine AH.getd_ne ?_ ?_); (first | (with_reducible assumption) | exact Ne.symm (by with_reducible assumption))))); done))) | (apply Exists.intro; apply And.intro; first | (with_reducible assumption) | ((try simp only [List.getElem?_drop, Nat.mul_one, Nat.add_zero, Nat.zero_add]); first | (with_reducible assumption) | rfl)) | (apply And.intro; (first | rfl | (with_reducible assumption) | exact Nat.le_of_ble_eq_true rfl | omega | (simp <;> omega))))) <;> (try (conv => whnf))
        refine Then.mk (AWq.in ?_)
        refine AWp_freeze1 13 rfl rfl k3 (by rw [hlf, Nat.mul_one]) ?_
        rw [hdel]
        clear hdel k3 G3 hc
        refine AWp.of tt_ok (dok _) rfl ?_
        (repeat' ((conv => whnf); first | refine Then.mk ?_ | left | refine OpsA.cons ?_ | refine OpsA.nil ?_ | refine AWq.seq ?_ | refine AWq.region ?_ | refine AWq.cond ?_ | refine AWq.block ?_ | refine AWq.skip ?_ | refine AWq.ret ?_ | refine AWq.exit ?_ | refine AWq.loop ?_ | refine DrawA.consD ?_ | refine DrawA.nil ?_ | refine AWq.draw (by decide +kernel) ?_ | (refine Both.mk ?_ ?_ <;> intro hc <;> (first | exact Bool.noConfusion hc | exact absurd (by with_reducible rfl) hc | exact absurd (by assumption) hc | exact absurd hc (by assumption) | (exfalso; omega) | skip)) | (intro c hc; (try (simp only [AH.none_iff] at hc; repeat (have hn := hc.1; replace hc := hc.2))); (first | (have hc2 := Eq.trans hc (by with_reducible assumption); clear hc; subst hc2) | (refine i64_k hc ?_ ?_ ?_ ; omega; omega; (clear hc; intro hc; subst hc)) | subst hc | skip)) | (apply Exists.intro; apply And.intro; (first | (focus (repeat (first | (with_reducible assumption) | (with_reducible exact AH.set_same _ _ _) | ((first | refine AH.get_ne ?_ ?_ | refine AH.getd_ne ?_ ?_); (first | (with_reducible assumption) | exact Ne.symm (by with_reducible assumption))))); done))) | (apply Exists.intro; apply And.intro; first | (with_reducible assumption) | ((try simp only [List.getElem?_drop, Nat.mul_one, Nat.add_zero, Nat.zero_add]); first | (with_reducible assumption) | rfl)) | (apply And.intro; (first | rfl | (with_reducible assumption) | exact Nat.le_of_ble_eq_true rfl | omega | (simp <;> omega))))) <;> (try (conv => whnf))
        refine AWp_loop (σ := Nat) (16 :: 17 :: 18 :: 19 :: 20 :: 21 :: 133 :: 134 :: 135 :: 136 :: 137 :: 138 :: 139 :: 140 :: 141 :: 142 :: 143 :: 144 :: 145 :: 146 :: 147 :: 148 :: 149 :: 150 :: 151 :: 152 :: 153 :: 154 :: 155 :: 156 :: 157 :: 158 :: 159 :: 160 :: 161 :: 162 :: 163 :: 164 :: 165 :: 166 :: 167 :: 168 :: 169 :: 170 :: 171 :: 172 :: 173 :: 174 :: 175 :: 176 :: 177 :: 178 :: 179 :: 180 :: 181 :: []) (fun k => [(16, .int .i64 k)]) (fun k => Sh (lbD T (doneR (p + 1))) (pxD n T (doneR p) p k)) (fun k => k ≤ n ∧ ((frm L p).length = 0 → k = 0)) (fun k => n - k) 0 rfl ⟨Nat.zero_le _, fun _ => rfl⟩ ⟨rfl, trivial⟩ (HLe.refl _) ?_
        rintro k ⟨hk, hk0⟩
        refine AWp.of tt_ok (dok _) rfl ?_
        dsimp only
        by_cases h0 : (frm L p).length = 0
        · have hk0 := hk0 h0
          subst hk0
          have eP : pxD n T (doneR (p + 1)) 0 0 = pxD n T (doneR p) p 0 := pxD_same (by omega) fun x hx => by
            by_cases e : x = p
            · rw [e]; exact .inr fun b hb => by rw [pixT b]; unfold shP; rw [if_pos h0]
            · rw [hdr x hx, decide_eq_false e, Bool.or_false]; exact .inl rfl
          (repeat' ((conv => whnf); first | refine Then.mk ?_ | left | refine OpsA.cons ?_ | refine OpsA.nil ?_ | refine AWq.seq ?_ | refine AWq.region ?_ | refine AWq.cond ?_ | refine AWq.block ?_ | refine AWq.skip ?_ | refine AWq.ret ?_ | refine AWq.exit ?_ | refine AWq.loop ?_ | refine DrawA.consD ?_ | refine DrawA.nil ?_ | refine AWq.draw (by decide +kernel) ?_ | (refine Both.mk ?_ ?_ <;> intro hc <;> (first | exact Bool.noConfusion hc | exact absurd (by with_reducible rfl) hc | exact absurd (by assumption) hc | exact absurd hc (by assumption) | (exfalso; omega) | skip)) | (intro c hc; (try (simp only [AH.none_iff] at hc; repeat (have hn := hc.1; replace hc := hc.2))); (first | (have hc2 := Eq.trans hc (by with_reducible assumption); clear hc; subst hc2) | (refine i64_k hc ?_ ?_ ?_ ; omega; omega; (clear hc; intro hc; subst hc)) | subst hc | skip)) | (apply Exists.intro; apply And.intro; (first | (focus (repeat (first | (with_reducible assumption) | (with_reducible exact AH.set_same _ _ _) | ((first | refine AH.get_ne ?_ ?_ | refine AH.getd_ne ?_ ?_); (first | (with_reducible assumption) | exact Ne.symm (by with_reducible assumption))))); done))) | (apply Exists.intro; apply And.intro; first | (with_reducible assumption) | ((try simp only [List.getElem?_drop, Nat.mul_one, Nat.add_zero, Nat.zero_add]); first | (with_reducible assumption) | rfl)) | (apply And.intro; (first | rfl | (with_reducible assumption) | exact Nat.le_of_ble_eq_true rfl | omega | (simp <;> omega))))) <;> (try (conv => whnf))
          exact ⟨p + 1, hpt, by omega, ⟨congrArg (AV.int .i64) (by omega), trivial⟩, HLe.of_eq (by rw [eP])⟩
        · by_cases hkt : k < n
          · obtain ⟨S2, hS2⟩ : ∃ S2, S2 = Sh (lbD T (doneR (p + 1))) (pxD n T (doneR p) p k) := ⟨_, rfl⟩
            rw [← hS2]
            obtain ⟨gv, hgv⟩ : ∃ gv : Nat → Int, ∀ j, gv j = P.getD (((frm L p).getD j 0).toNat * n + k) 0 := ⟨_, fun _ => rfl⟩
            (repeat' ((conv => whnf); first | refine Then.mk ?_ | left | refine OpsA.cons ?_ | refine OpsA.nil ?_ | refine AWq.seq ?_ | refine AWq.region ?_ | refine AWq.cond ?_ | refine AWq.block ?_ | refine AWq.skip ?_ | refine AWq.ret ?_ | refine AWq.exit ?_ | refine AWq.loop ?_ | refine DrawA.consD ?_ | refine DrawA.nil ?_ | refine AWq.draw (by decide +kernel) ?_ | (refine Both.mk ?_ ?_ <;> intro hc <;> (first | exact Bool.noConfusion hc | exact absurd (by with_reducible rfl) hc | exact absurd (by assumption) hc | exact absurd hc (by assumption) | (exfalso; omega) | skip)) | (intro c hc; (try (simp only [AH.none_iff] at hc; repeat (have hn := hc.1; replace hc := hc.2))); (first | (have hc2 := Eq.trans hc (by with_reducible assumption); clear hc; subst hc2) | (refine i64_k hc ?_ ?_ ?_ ; omega; omega; (clear hc; intro hc; subst hc)) | subst hc | skip)) | (apply Exists.intro; apply And.intro; (first | (focus (repeat (first | (with_reducible assumption) | (with_reducible exact AH.set_same _ _ _) | ((first | refine AH.get_ne ?_ ?_ | refine AH.getd_ne ?_ ?_); (first | (with_reducible assumption) | exact Ne.symm (by with_reducible assumption))))); done))) | (apply Exists.intro; apply And.intro; first | (with_reducible assumption) | ((try simp only [List.getElem?_drop, Nat.mul_one, Nat.add_zero, Nat.zero_add]); first | (with_reducible assumption) | rfl)) | (apply And.intro; (first | rfl | (with_reducible assumption) | exact Nat.le_of_ble_eq_true rfl | omega | (simp <;> omega))))) <;> (try (conv => whnf))
            refine AWp_nilrow1 17 1 rfl rfl fun q4 hq4 => ?_
            refine AWp_nilrow1 18 1 rfl rfl fun q5 hq5 => ?_
            have n54 : q5 ≠ q4 := (AH.none_set hq5).1
            have hq5' : S2 q5 = none := (AH.none_set hq5).2
            obtain ⟨Hm, hHm⟩ : ∃ Hm : Nat → AH, ∀ j, Hm j = (S2.set q4 (.row (iS .i64 (fnL j fun _ => 1)) j)).set q5 (.row (iS .i64 (fnL j gv)) j) := ⟨_, fun _ => rfl⟩
            refine AWp_loop (σ := Nat) (17 :: 18 :: 19 :: 143 :: 144 :: 145 :: 146 :: 147 :: 148 :: 149 :: 150 :: 151 :: 152 :: 153 :: 154 :: 155 :: 156 :: 157 :: 158 :: 159 :: 160 :: 161 :: 162 :: 163 :: 164 :: 165 :: 166 :: []) (fun j => [(19, .int .i64 j), (17, .sl q4 j 1 0 j none), (18, .sl q5 j 1 0 j none)]) (fun j => Hm j) (fun j => j ≤ (frm L p).length) (fun j => (frm L p).length - j) 0 rfl (Nat.zero_le _) ⟨rfl, rfl, rfl, trivial⟩ (HLe.of_eq (by rw [hHm]; rfl)) ?_
            intro j hj
            refine AWp.of tt_ok (dok _) rfl ?_
            dsimp only at hj ⊢
            have k4 : Hm j q4 = some (.row (iS .i64 (fnL j fun _ => 1)) j) := by rw [hHm]; (first | (focus (repeat (first | (with_reducible assumption) | (with_reducible exact AH.set_same _ _ _) | ((first | refine AH.get_ne ?_ ?_ | refine AH.getd_ne ?_ ?_); (first | (with_reducible assumption) | exact Ne.symm (by with_reducible assumption))))); done))
            have k5 : Hm j q5 = some (.row (iS .i64 (fnL j gv)) j) := by rw [hHm, AH.set_same]
            have l4 : (iS .i64 (fnL j fun _ => (1 : Int))).length = j := by simp
            have l5 : (iS .i64 (fnL j gv)).length = j := by simp
            have hvb : ∀ j, j < (frm L p).length → vOk (L.getD ((frm L p).getD j 0).toNat 0) (gv j) := fun j hj => by
              rw [hgv]
              have hm := (frm_in L p _ (getD_in hj)).1
              exact (hlb ((frm L p).getD j 0).toNat (by omega)).2 k hkt
            by_cases hjt : j < (frm L p).length
            · have hm := (frm_in L p _ (getD_in hjt)).1
              have gx : (iS .i64 (frm L p))[(j : Int).toNat]? = some (.int .i64 ((frm L p).getD j 0)) := iS_get hjt
              have hgj := hgv j
              generalize (frm L p).getD j 0 = x at *
              have hxn : x.toNat * n + n ≤ 256 * n := by
                have := Nat.mul_le_mul_right n (show x.toNat + 1 ≤ 256 by omega)
                rwa [Nat.add_mul, Nat.one_mul] at this
              have w1 : IntKind.i64.wrap (x * (n : Int)) = ((x.toNat * n : Nat) : Int) := by
                rw [Int.natCast_mul, Int.toNat_of_nonneg hm.1, IntKind.wrap_i64]
                have : x * (n : Int) = ((x.toNat * n : Nat) : Int) := by rw [Int.natCast_mul, Int.toNat_of_nonneg hm.1]
                omega
              have gp : (iS .i64 P)[x.toNat * n + k]? = some (.int .i64 (P.getD (x.toNat * n + k) 0)) := iS_get (by omega)
              rw [← hgj] at gp
              have hPl : (iS .i64 P).length = P.length := by simp
              generalize x.toNat * n = Q at *
              have gp : (iS .i64 P)[((Q : Int) + k).toNat]? = some (.int .i64 (gv j)) := by rw [show ((Q : Int) + k).toNat = Q + k by omega]; exact gp
              have w2 : IntKind.i64.wrap ((Q : Int) + k) = (Q : Int) + k := by rw [IntKind.wrap_i64]; omega
              have hst : Hm (j + 1) = ((Hm j).set q4 (.row (iS .i64 (fnL j fun _ => 1) ++ [.int .i64 1]) (j + 1))).set q5 (.row (iS .i64 (fnL j gv) ++ [.int .i64 (gv j)]) (j + 1)) := by
                rw [hHm, hHm, fnL_snoc, fnL_snoc, iS_snoc, iS_snoc]; ((funext s; simp only [AH.set, AH.del]; repeat' split) <;> (first | rfl | (exfalso; omega)))
              generalize iS .i64 (fnL j fun _ => (1 : Int)) = R4 at *
              generalize iS .i64 (fnL j gv) = R5 at *
              generalize gv j = u at *
              generalize Hm j = G4 at *
              (repeat' ((conv => whnf); first | refine Then.mk ?_ | left | refine OpsA.cons ?_ | refine OpsA.nil ?_ | refine AWq.seq ?_ | refine AWq.region ?_ | refine AWq.cond ?_ | refine AWq.block ?_ | refine AWq.skip ?_ | refine AWq.ret ?_ | refine AWq.exit ?_ | refine AWq.loop ?_ | refine DrawA.consD ?_ | refine DrawA.nil ?_ | refine AWq.draw (by decide +kernel) ?_ | (refine Both.mk ?_ ?_ <;> intro hc <;> (first | exact Bool.noConfusion hc | exact absurd (by with_reducible rfl) hc | exact absurd (by assumption) hc | exact absurd hc (by assumption) | (exfalso; omega) | skip)) | (intro c hc; (try (simp only [AH.none_iff] at hc; repeat (have hn := hc.1; replace hc := hc.2))); (first | (have hc2 := Eq.trans hc (by with_reducible assumption); clear hc; subst hc2) | (refine i64_k hc ?_ ?_ ?_ ; omega; omega; (clear hc; intro hc; subst hc)) | subst hc | skip)) | (apply Exists.intro; apply And.intro; (first | (focus (repeat (first | (with_reducible assumption) | (with_reducible exact AH.set_same _ _ _) | ((first | refine AH.get_ne ?_ ?_ | refine AH.getd_ne ?_ ?_); (first | (with_reducible assumption) | exact Ne.symm (by with_reducible assumption))))); done))) | (apply Exists.intro; apply And.intro; first | (with_reducible assumption) | ((try simp only [List.getElem?_drop, Nat.mul_one, Nat.add_zero, Nat.zero_add]); first | (with_reducible assumption) | rfl)) | (apply And.intro; (first | rfl | (with_reducible assumption) | exact Nat.le_of_ble_eq_true rfl | omega | (simp <;> omega))))) <;> (try (conv => whnf))
              exact ⟨j + 1, hjt, by omega, ⟨congrArg (AV.int .i64) (by omega), rfl, rfl, trivial⟩, HLe.of_eq hst⟩
            · have hje : j = (frm L p).length := by omega
              have hpp := pixT k
              unfold shP at hpp
              rw [if_neg h0] at hpp
              have hmo := mix_ones (g := gv) (k := j) (by omega) (by omega) (fun i hi => by
                have := hvb i (by omega)
                unfold vOk at this
                omega)
              have hsn : shS n P k (frm L p) j = sumN gv j := sumN_congr fun i _ => (hgv i).symm
              rw [← hje, hsn] at hpp
              rw [← hpp] at hmo
              have hmx := fun H => rmix_c (fnL j fun _ => 1) (fnL j gv) (by rw [fnL_len]; omega) (by rw [fnL_len]; omega) H
              rw [hmo] at hmx
              simp only [fnL_len] at hmx
              have k4' : (Hm j).del q5 q4 = some (.row (iS .i64 (fnL j fun _ => 1)) j) := by rw [hHm]; (first | (focus (repeat (first | (with_reducible assumption) | (with_reducible exact AH.set_same _ _ _) | ((first | refine AH.get_ne ?_ ?_ | refine AH.getd_ne ?_ ?_); (first | (with_reducible assumption) | exact Ne.symm (by with_reducible assumption))))); done))
              have hdel : ((Hm j).del q5).del q4 = S2 := by rw [hHm, AH.del_set _ _ _ (by rw [AH.set_ne _ _ n54]; exact hq5'), AH.del_set _ _ _ hq4]
              have gB : S2 q2 = some (.row (iS .i64 (pxD n T (doneR p) p k)) v2) := by rw [hS2, hSh, AH.set_same]
              have lB : (iS .i64 (pxD n T (doneR p) p k)).length = 256 * n := by rw [iS_length]; exact pxD_len _ _ _ _ _
              have han : p * n + n ≤ 256 * n := by
                have := Nat.mul_le_mul_right n (show p + 1 ≤ 256 by omega)
                rwa [Nat.add_mul, Nat.one_mul] at this
              have w1 : IntKind.i64.wrap ((p : Int) * (n : Int)) = ((p * n : Nat) : Int) := by
                rw [← Int.natCast_mul, IntKind.wrap_i64]; omega
              have hwr : wrA (iS .i64 (pxD n T (doneR p) p k)) (p * n + k) [.int .i64 (pixA n T p k)] = iS .i64 (pxD n T (doneR p) p (k + 1)) := by
                rw [iS_wr1 (by rw [pxD_len]; omega), pxD_put hkt]
              have e5 : Sh (lbD T (doneR (p + 1))) (pxD n T (doneR p) p (k + 1)) = S2.set q2 (.row (wrA (iS .i64 (pxD n T (doneR p) p k)) (p * n + k) [.int .i64 (pixA n T p k)]) v2) := by
                rw [hwr, hS2, hSh, hSh, AH.set_set]
              generalize hRB : iS .i64 (pxD n T (doneR p) p k) = RB at *
              generalize p * n = Q at *
              have w2 : IntKind.i64.wrap ((Q : Int) + k) = (Q : Int) + k := by rw [IntKind.wrap_i64]; omega
              rw [show Q + k = 0 + ((Q : Int) + k).toNat * 1 by omega] at e5
              generalize iS .i64 (fnL j fun _ => (1 : Int)) = R4 at *
              generalize iS .i64 (fnL j gv) = R5 at *
              generalize Hm j = G4 at *
              (repeat' ((conv => whnf); first | left | refine OpsA.cons ?_ | refine OpsA.nil ?_ | refine AWq.seq ?_ | refine AWq.region ?_ | refine AWq.cond ?_ | refine AWq.block ?_ | refine AWq.skip ?_ | refine AWq.ret ?_ | refine AWq.exit ?_ | refine AWq.loop ?_ | refine DrawA.consD ?_ | refine DrawA.nil ?_ | refine AWq.draw (by decide +kernel) ?_ | (refine Both.mk ?_ ?_ <;> intro hc <;> (first | exact Bool.noConfusion hc | exact absurd (by with_reducible rfl) hc | exact absurd (by assumption) hc | exact absurd hc (by assumption) | (exfalso; omega) | skip)) | (intro c hc; (try (simp only [AH.none_iff] at hc; repeat (have hn := hc.1; replace hc := hc.2))); (first | (have hc2 := Eq.trans hc (by with_reducible assumption); clear hc; subst hc2) | (refine i64_k hc ?_ ?_ ?_ ; omega; omega; (clear hc; intro hc; subst hc)) | subst hc | skip)) | (apply Exists.intro; apply And.intro; (first | (focus (repeat (first | (with_reducible assumption) | (with_reducible exact AH.set_same _ _ _) | ((first | refine AH.get_ne ?_ ?_ | refine AH.getd_ne ?_ ?_); (first | (with_reducible assumption) | exact Ne.symm (by with_reducible assumption))))); done))) | (apply Exists.intro; apply And.intro; first | (with_reducible assumption) | ((try simp only [List.getElem?_drop, Nat.mul_one, Nat.add_zero, Nat.zero_add]); first | (with_reducible assumption) | rfl)) | (apply And.intro; (first | rfl | (with_reducible assumption) | exact Nat.le_of_ble_eq_true rfl | omega | (simp <;> omega))))) <;> (try (conv => whnf))
              refine Then.mk ?_
              (repeat' ((conv => whnf); first | left | refine OpsA.cons ?_ | refine OpsA.nil ?_ | refine AWq.seq ?_ | refine AWq.region ?_ | refine AWq.cond ?_ | refine AWq.block ?_ | refine AWq.skip ?_ | refine AWq.ret ?_ | refine AWq.exit ?_ | refine AWq.loop ?_ | refine DrawA.consD ?_ | refine DrawA.nil ?_ | refine AWq.draw (by decide +kernel) ?_ | (refine Both.mk ?_ ?_ <;> intro hc <;> (first | exact Bool.noConfusion hc | exact absurd (by with_reducible rfl) hc | exact absurd (by assumption) hc | exact absurd hc (by assumption) | (exfalso; omega) | skip)) | (intro c hc; (try (simp only [AH.none_iff] at hc; repeat (have hn := hc.1; replace hc := hc.2))); (first | (have hc2 := Eq.trans hc (by with_reducible assumption); clear hc; subst hc2) | (refine i64_k hc ?_ ?_ ?_ ; omega; omega; (clear hc; intro hc; subst hc)) | subst hc | skip)) | (apply Exists.intro; apply And.intro; (first | (focus (repeat (first | (with_reducible assumption) | (with_reducible exact AH.set_same _ _ _) | ((first | refine AH.get_ne ?_ ?_ | refine AH.getd_ne ?_ ?_); (first | (with_reducible assumption) | exact Ne.symm (by with_reducible assumption))))); done))) | (apply Exists.intro; apply And.intro; first | (with_reducible assumption) | ((try simp only [List.getElem?_drop, Nat.mul_one, Nat.add_zero, Nat.zero_add]); first | (with_reducible assumption) | rfl)) | (apply And.intro; (first | rfl | (with_reducible assumption) | exact Nat.le_of_ble_eq_true rfl | omega | (simp <;> omega))))) <;> (try (conv => whnf))
              refine Then.mk (AWq.in ?_)
              refine AWp_freeze1 18 rfl rfl k5 (by omega) ?_
              refine AWp_freeze1 17 rfl rfl k4' (by omega) ?_
              rw [hdel]
              refine AWp.of tt_ok (dok _) rfl ?_
              (repeat' ((conv => whnf); first | refine Then.mk ?_ | left | refine OpsA.cons ?_ | refine OpsA.nil ?_ | refine AWq.seq ?_ | refine AWq.region ?_ | refine AWq.cond ?_ | refine AWq.block ?_ | refine AWq.skip ?_ | refine AWq.ret ?_ | refine AWq.exit ?_ | refine AWq.loop ?_ | refine DrawA.consD ?_ | refine DrawA.nil ?_ | refine AWq.draw (by decide +kernel) ?_ | (refine Both.mk ?_ ?_ <;> intro hc <;> (first | exact Bool.noConfusion hc | exact absurd (by with_reducible rfl) hc | exact absurd (by assumption) hc | exact absurd hc (by assumption) | (exfalso; omega) | skip)) | (intro c hc; (try (simp only [AH.none_iff] at hc; repeat (have hn := hc.1; replace hc := hc.2))); (first | (have hc2 := Eq.trans hc (by with_reducible assumption); clear hc; subst hc2) | (refine i64_k hc ?_ ?_ ?_ ; omega; omega; (clear hc; intro hc; subst hc)) | subst hc | skip)) | (apply Exists.intro; apply And.intro; (first | (focus (repeat (first | (with_reducible assumption) | (with_reducible exact AH.set_same _ _ _) | ((first | refine AH.get_ne ?_ ?_ | refine AH.getd_ne ?_ ?_); (first | (with_reducible assumption) | exact Ne.symm (by with_reducible assumption))))); done))) | (apply Exists.intro; apply And.intro; first | (with_reducible assumption) | ((try simp only [List.getElem?_drop, Nat.mul_one, Nat.add_zero, Nat.zero_add]); first | (with_reducible assumption) | rfl)) | (apply And.intro; (first | rfl | (with_reducible assumption) | exact Nat.le_of_ble_eq_true rfl | omega | (simp <;> omega))) | (refine ACall.to (hmx _) ?_))) <;> (try (conv => whnf))
              exact ⟨k + 1, ⟨hkt, fun h => absurd h h0⟩, by omega, ⟨congrArg (AV.int .i64) (by omega), trivial⟩, HLe.of_eq e5⟩
          · have hke : k = n := by omega
            subst hke
            (repeat' ((conv => whnf); first | refine Then.mk ?_ | left | refine OpsA.cons ?_ | refine OpsA.nil ?_ | refine AWq.seq ?_ | refine AWq.region ?_ | refine AWq.cond ?_ | refine AWq.block ?_ | refine AWq.skip ?_ | refine AWq.ret ?_ | refine AWq.exit ?_ | refine AWq.loop ?_ | refine DrawA.consD ?_ | refine DrawA.nil ?_ | refine AWq.draw (by decide +kernel) ?_ | (refine Both.mk ?_ ?_ <;> intro hc <;> (first | exact Bool.noConfusion hc | exact absurd (by with_reducible rfl) hc | exact absurd (by assumption) hc | exact absurd hc (by assumption) | (exfalso; omega) | skip)) | (intro c hc; (try (simp only [AH.none_iff] at hc; repeat (have hn := hc.1; replace hc := hc.2))); (first | (have hc2 := Eq.trans hc (by with_reducible assumption); clear hc; subst hc2) | (refine i64_k hc ?_ ?_ ?_ ; omega; omega; (clear hc; intro hc; subst hc)) | subst hc | skip)) | (apply Exists.intro; apply And.intro; (first | (focus (repeat (first | (with_reducible assumption) | (with_reducible exact AH.set_same _ _ _) | ((first | refine AH.get_ne ?_ ?_ | refine AH.getd_ne ?_ ?_); (first | (with_reducible assumption) | exact Ne.symm (by with_reducible assumption))))); done))) | (apply Exists.intro; apply And.intro; first | (with_reducible assumption) | ((try simp only [List.getElem?_drop, Nat.mul_one, Nat.add_zero, Nat.zero_add]); first | (with_reducible assumption) | rfl)) | (apply And.intro; (first | rfl | (with_reducible assumption) | exact Nat.le_of_ble_eq_true rfl | omega | (simp <;> omega))))) <;> (try (conv => whnf))
            exact ⟨p + 1, hpt, by omega, ⟨congrArg (AV.int .i64) (by omega), trivial⟩, HLe.of_eq (by rw [pxD_end (p2 := 0) (by omega) hdr])⟩
  · have hpe : p = 256 := by omega
    subst hpe
    have e2 : lbD T (doneR 256) = shLL T := lbD_same fun a ha => .inl (decide_eq_true ha)
    have e3 : pxD n T (doneR 256) 0 0 = shPP n T := pxD_same (by omega) fun a ha => .inl (decide_eq_true ha)
    rw [e2, e3]
    have gc := gc4 (shLL T) (shPP n T)
    have hle : HLe ((H.set q1 (.row (iS .i64 (shLL T)) v1)).set q2 (.row (iS .i64 (shPP n T)) v2)) (Sh (shLL T) (shPP n T)) := by
      rw [hSh]
      have n4 := Ne.symm hq1a
      have n5 := Ne.symm hq2a
      rw [AH.set_comm H _ _ n4, AH.set_comm (H.set q1 _) _ _ n5]
      exact HLe.fresh _ (by rw [AH.set_ne _ _ n5, AH.set_ne _ _ n4]; exact h4)
    have l1 := shLL_len T
    have l2 := shPP_len n T
    generalize Sh (shLL T) (shPP n T) = G at *
    (repeat' ((conv => whnf); first | refine Then.mk ?_ | left | refine OpsA.cons ?_ | refine OpsA.nil ?_ | refine AWq.seq ?_ | refine AWq.region ?_ | refine AWq.cond ?_ | refine AWq.block ?_ | refine AWq.skip ?_ | refine AWq.ret ?_ | refine AWq.exit ?_ | refine AWq.loop ?_ | refine DrawA.consD ?_ | refine DrawA.nil ?_ | refine AWq.draw (by decide +kernel) ?_ | (refine Both.mk ?_ ?_ <;> intro hc <;> (first | exact Bool.noConfusion hc | exact absurd (by with_reducible rfl) hc | exact absurd (by assumption) hc | exact absurd hc (by assumption) | (exfalso; omega) | skip)) | (intro c hc; (try (simp only [AH.none_iff] at hc; repeat (have hn := hc.1; replace hc := hc.2))); (first | (have hc2 := Eq.trans hc (by with_reducible assumption); clear hc; subst hc2) | (refine i64_k hc ?_ ?_ ?_ ; omega; omega; (clear hc; intro hc; subst hc)) | subst hc | skip)) | (apply Exists.intro; apply And.intro; (first | (focus (repeat (first | (with_reducible assumption) | (with_reducible exact AH.set_same _ _ _) | ((first | refine AH.get_ne ?_ ?_ | refine AH.getd_ne ?_ ?_); (first | (with_reducible assumption) | exact Ne.symm (by with_reducible assumption))))); done))) | (apply Exists.intro; apply And.intro; first | (with_reducible assumption) | ((try simp only [List.getElem?_drop, Nat.mul_one, Nat.add_zero, Nat.zero_add]); first | (with_reducible assumption) | rfl)) | (apply And.intro; (first | rfl | (with_reducible assumption) | exact Nat.le_of_ble_eq_true rfl | omega | (simp <;> omega))))) <;> (try (conv => whnf))
    exact ⟨q1, q2, v1, v2, shLL T, shPP n T, n, hq1b, hq2b, n12, by rw [l1, l2]; rfl, HLe.set_of _ _ hle (by rw [AH.set_ne _ _ (Ne.symm hq2a), AH.set_ne _ _ (Ne.symm hq1a)]; exact h4), rfl⟩
end Go.Proofs.Ytghielfbdpkhmaa
/- Shrink, the program's and the reference's: one answer. -/
namespace Go.Proofs.Ytghielfbdpkhmaa
open Go.Fw Go
set_option linter.unusedVariables false
set_option linter.unusedSimpArgs false

set_option maxRecDepth 8000 in
theorem shrink_no (b : Int) (hi : I64 b) (hb : ¬ (1 ≤ b ∧ b ≤ 4)) (T : Nat → Tl) (H : AH) :
    ACall Try.prog 44 [.int .i64 b, .agg (rowF T)] H (fun z H' => z = .tup [tV 0 [] [], .int .i64 1] ∧ H' = H) := by
  have em := fun H => empty_c b hi H
  have e0 : emV b = (tV 0 [] [], 1) := if_neg hb
  rw [e0] at em
  unfold tV at em
  dsimp only at em
  have hRl := rowF_len T
  refine ACall.told ?_
  generalize rowF T = R at *
  refine ACall_of tt_ok (dok _) Try.func44 rfl (by decide) rfl ?_
  (repeat' ((conv => whnf); first | refine Then.mk ?_ | left | refine OpsA.cons ?_ | refine OpsA.nil ?_ | refine AWq.seq ?_ | refine AWq.region ?_ | refine AWq.cond ?_ | refine AWq.ret ?_ | (refine Both.mk ?_ ?_ <;> intro hc <;> (first | exact Bool.noConfusion hc | (exfalso; omega) | skip)) | (intro c hc; (try (simp only [AH.none_iff] at hc; repeat (have hn := hc.1; replace hc := hc.2))); (first | skip)) | (apply Exists.intro; apply And.intro; (first | (focus (repeat (first | (with_reducible assumption) | (with_reducible exact AH.set_same _ _ _) | ((first | refine AH.get_ne ?_ ?_); (first | (with_reducible assumption) | exact Ne.symm (by with_reducible assumption))))); done))) | (apply And.intro; (first | rfl | (with_reducible assumption) | exact Nat.le_of_ble_eq_true rfl)) | (refine ACall.to (em _) ?_))) <;> (try (conv => whnf))
  exact ⟨_, _, tup_le, by (first | ((repeat' (first | (with_reducible exact HLe.refl _) | (with_reducible assumption) | refine HLe.set_of _ _ ?_ ?_)); done)), rfl, rfl⟩
set_option maxRecDepth 8000 in
theorem rshrink_no (b : Int) (hi : I64 b) (hb : ¬ (1 ≤ b ∧ b ≤ 4)) (T : Nat → Tl) (H : AH) :
    ACall Try.prog 45 [.int .i64 b, .agg (rowF T)] H (fun z H' => z = .tup [tV 0 [] [], .int .i64 1] ∧ H' = H) := by
  have em := fun H => rempty_c b H
  have e0 : emV b = (tV 0 [] [], 1) := if_neg hb
  rw [e0] at em
  unfold tV at em
  dsimp only at em
  have hRl := rowF_len T
  refine ACall.told ?_
  generalize rowF T = R at *
  refine ACall_of tt_ok (dok _) Try.func45 rfl (by decide) rfl ?_
  (repeat' ((conv => whnf); first | refine Then.mk ?_ | left | refine OpsA.cons ?_ | refine OpsA.nil ?_ | refine AWq.seq ?_ | refine AWq.region ?_ | refine AWq.cond ?_ | refine AWq.ret ?_ | (refine Both.mk ?_ ?_ <;> intro hc <;> (first | exact Bool.noConfusion hc | (exfalso; omega) | skip)) | (intro c hc; (try (simp only [AH.none_iff] at hc; repeat (have hn := hc.1; replace hc := hc.2))); (first | skip)) | (apply Exists.intro; apply And.intro; (first | (focus (repeat (first | (with_reducible assumption) | (with_reducible exact AH.set_same _ _ _) | ((first | refine AH.get_ne ?_ ?_); (first | (with_reducible assumption) | exact Ne.symm (by with_reducible assumption))))); done))) | (apply And.intro; (first | rfl | (with_reducible assumption) | exact Nat.le_of_ble_eq_true rfl)) | (refine ACall.to (em _) ?_))) <;> (try (conv => whnf))
  exact ⟨_, _, tup_le, by (first | ((repeat' (first | (with_reducible exact HLe.refl _) | (with_reducible assumption) | refine HLe.set_of _ _ ?_ ?_)); done)), rfl, rfl⟩
theorem first_bad (n : Int) (T : Nat → Tl) (h : ¬ ∀ q, q < 4 → goodT n (T q)) : ∃ k, k < 4 ∧ ¬ goodT n (T k) ∧ ∀ q, q < k → goodT n (T q) := by
  open Classical in
  rcases first_some (fun q => decide (¬ goodT n (T q))) 4 with h1 | ⟨k, h1, h2, h3⟩
  · refine absurd (fun q hq => ?_) h
    have := h1 q hq
    simpa using this
  · refine ⟨k, h1, by simpa using h2, fun q hq => ?_⟩
    have := h3 q hq
    simpa using this
theorem shrink_c (b : Int) (hi : I64 b) (T : Nat → Tl) (hT : ∀ q, q < 4 → (T q).Fit) (H : AH) :
    ACall Try.prog 44 [.int .i64 b, .agg (rowF T)] H (fun z H' => z = .tup [(shV b T).1, .int .i64 (shV b T).2] ∧ H' = H) := by
  unfold shV
  by_cases hb : 1 ≤ b ∧ b ≤ 4
  · rw [if_neg (fun h => h hb)]
    obtain ⟨n, rfl⟩ : ∃ n : Nat, b = n := ⟨b.toNat, by omega⟩
    by_cases hg : ∀ q, q < 4 → goodT n (T q)
    · rw [if_pos hg, Int.toNat_natCast]
      exact shrink_ok n hb T hT hg H
    · rw [if_neg hg]
      obtain ⟨k, h1, h2, h3⟩ := first_bad n T hg
      exact shrink_bad n hb T hT k h1 h2 h3 H
  · rw [if_pos hb]
    exact shrink_no b hi hb T H
theorem rshrink_c (b : Int) (hi : I64 b) (T : Nat → Tl) (hT : ∀ q, q < 4 → (T q).Fit) (H : AH) :
    ACall Try.prog 45 [.int .i64 b, .agg (rowF T)] H (fun z H' => z = .tup [(shV b T).1, .int .i64 (shV b T).2] ∧ H' = H) := by
  unfold shV
  by_cases hb : 1 ≤ b ∧ b ≤ 4
  · rw [if_neg (fun h => h hb)]
    obtain ⟨n, rfl⟩ : ∃ n : Nat, b = n := ⟨b.toNat, by omega⟩
    by_cases hg : ∀ q, q < 4 → goodT n (T q)
    · rw [if_pos hg, Int.toNat_natCast]
      exact rshrink_ok n hb T hT hg H
    · rw [if_neg hg]
      obtain ⟨k, h1, h2, h3⟩ := first_bad n T hg
      exact rshrink_bad n hb T hT k h1 h2 h3 H
  · rw [if_pos hb]
    exact rshrink_no b hi hb T H
end Go.Proofs.Ytghielfbdpkhmaa
/- Four tiles made from numbers: there are such. -/
namespace Go.Proofs.Ytghielfbdpkhmaa
open Go.Fw Go
set_option linter.unusedVariables false
set_option linter.unusedSimpArgs false

theorem AWp_segD {N : Nat} {P : Program} {ro : Option Nat} {ws : Nat → Bool} {c : Code} {K R : St → AH → Prop} {X : Nat → St → AH → Prop} {s : St} {G : AH} {p1 p2 u : Nat} {o0 o : AO} {z x : List AV} (t p : Nat) (y : List AV)
    (h1 : p1 = p) (h2 : p2 = p) (hts : ws t = true) (he : s.e t = .ptr p2 u 0) (hG : G p = none) (hx : x = y) (hl : z.length = y.length) (h : AWp (P := P) N ro ws c K R X ⟨retold [t] (.cp y) s.e, s.d⟩ G) : AWp (P := P) N ro ws c K R X s (((G.set p o0).set p1 o).set p2 (.row (wrA z 0 x) u)) := by
  subst h1
  subst h2
  rw [AH.set_set G]
  exact AWp_segP t y hts he hG hx hl h
theorem tlN_fit (x : Int) (l : List Int) (b : Int) : (tlN x l (1 + aro b 3)).Fit := by
  have h := aro_lt (n := b) (m := 3) (by decide)
  unfold tlN
  exact ⟨by unfold I64; dsimp only; omega, by dsimp only; rw [fnL_len]; omega, by dsimp only; rw [fnL_len]; omega⟩
theorem zero_fit : Tl.zero.Fit := ⟨by decide, by decide, by decide⟩
theorem four_ex (l m : List Int) (hl : ∀ n ∈ l, -9223372036854775808 ≤ n ∧ n ≤ 9223372036854775807) (hz : l.length * 8 ≤ 140737488351232) (hm : ∀ n ∈ m, -9223372036854775808 ≤ n ∧ n ≤ 9223372036854775807) (hml : m.length ≤ maxLen)
    (b how y : Int) (hb : I64 b) (hh : I64 how) (hy : I64 y) : ∃ T : Nat → Tl, (∀ q, (T q).Fit) ∧ (¬ aro how 3 = 0 → ∀ q, T q = Tl.zero ∨ ∃ x, T q = tlN x l (1 + aro b 3)) ∧
    ∀ H, ACall Try.prog 43 [.cs (iS .i64 l) l.length, .cs (iS .i64 m) m.length, .int .i64 b, .int .i64 how, .int .i64 y] H (fun z H' => z = .agg (rowF T) ∧ H' = H) := by
  have hex : ∀ i : Nat, ∃ t : Tl, t.Fit ∧ (¬ aro how 3 = 0 → t = Tl.zero ∨ ∃ x, t = tlN x l (1 + aro b 3)) ∧
      ((pickV m i 7 = 0 ∧ t = Tl.zero) ∨ (pickV m i 7 = 1 ∧ aro how 3 = 0 ∧ ∀ H, ACall Try.prog 37 [(tlN (pickV m ((i : Int) + 4) 100 : Nat) l (1 + aro b 3)).v, .int .i64 (IntKind.i64.wrap (how.tdiv 3)), .int .i64 y] H (fun z H' => z = t.v ∧ H' = H)) ∨
      (pickV m i 7 ≠ 0 ∧ ¬ (pickV m i 7 = 1 ∧ aro how 3 = 0) ∧ t = tlN (pickV m ((i : Int) + 4) 100 : Nat) l (1 + aro b 3))) := fun i => by
    by_cases h0 : pickV m i 7 = 0
    · exact ⟨Tl.zero, zero_fit, fun _ => .inl rfl, .inl ⟨h0, rfl⟩⟩
    · by_cases h1 : pickV m i 7 = 1 ∧ aro how 3 = 0
      · have hf := tlN_fit (pickV m ((i : Int) + 4) 100 : Nat) l b
        have h3 := aro_lt (n := b) (m := 3) (by decide)
        have e1 : (tlN (pickV m ((i : Int) + 4) 100 : Nat) l (1 + aro b 3)).L.length = 256 := fnL_len _ _
        have e2 : (tlN (pickV m ((i : Int) + 4) 100 : Nat) l (1 + aro b 3)).P.length = 256 * (1 + aro b 3) := fnL_len _ _
        obtain ⟨b', L', P', p1, p2, p3, p4⟩ := spoilt_c (tlN (pickV m ((i : Int) + 4) 100 : Nat) l (1 + aro b 3)).b (tlN (pickV m ((i : Int) + 4) 100 : Nat) l (1 + aro b 3)).L (tlN (pickV m ((i : Int) + 4) 100 : Nat) l (1 + aro b 3)).P hf.b (by omega) (by omega) (IntKind.i64.wrap (how.tdiv 3)) (by unfold I64; rw [IntKind.wrap_i64]; omega) y hy
        exact ⟨⟨b', L', P'⟩, ⟨p1, by dsimp only; omega, by dsimp only; omega⟩, fun h => absurd h1.2 h, .inr (.inl ⟨h1.1, h1.2, p4⟩)⟩
      · exact ⟨_, tlN_fit _ l b, fun _ => .inr ⟨_, rfl⟩, .inr (.inr ⟨h0, h1, rfl⟩)⟩
  obtain ⟨T, hT⟩ : ∃ T : Nat → Tl, ∀ i : Nat, (T i).Fit ∧ (¬ aro how 3 = 0 → T i = Tl.zero ∨ ∃ x, T i = tlN x l (1 + aro b 3)) ∧
      ((pickV m i 7 = 0 ∧ T i = Tl.zero) ∨ (pickV m i 7 = 1 ∧ aro how 3 = 0 ∧ ∀ H, ACall Try.prog 37 [(tlN (pickV m ((i : Int) + 4) 100 : Nat) l (1 + aro b 3)).v, .int .i64 (IntKind.i64.wrap (how.tdiv 3)), .int .i64 y] H (fun z H' => z = (T i).v ∧ H' = H)) ∨
      (pickV m i 7 ≠ 0 ∧ ¬ (pickV m i 7 = 1 ∧ aro how 3 = 0) ∧ T i = tlN (pickV m ((i : Int) + 4) 100 : Nat) l (1 + aro b 3))) := ⟨fun i => Classical.choose (hex i), fun i => Classical.choose_spec (hex i)⟩
  exact ⟨T, fun q => (hT q).1, fun h q => (hT q).2.1 h, fun H => four_c l m hl hz hm hml b how y hb hh hy T (fun i _ => (hT i).2.2) H⟩
theorem shV_form (z : Int) (T : Nat → Tl) : ∃ (b : Int) (L P : List Int), tI L ∧ tI P ∧ (shV z T).1 = tV b L P := by
  unfold shV
  by_cases h : 1 ≤ z ∧ z ≤ 4
  · rw [if_neg (fun k => k h)]
    by_cases hg : ∀ q, q < 4 → goodT z (T q)
    · rw [if_pos hg]; exact ⟨_, _, _, by unfold tI; rw [shLL_len]; omega, by unfold tI; rw [shPP_len]; omega, rfl⟩
    · rw [if_neg hg]; exact ⟨_, _, _, by unfold tI; simp, by unfold tI; simp, rfl⟩
  · rw [if_pos h]; exact ⟨_, _, _, by unfold tI; simp, by unfold tI; simp, rfl⟩
end Go.Proofs.Ytghielfbdpkhmaa
/- The law BlendShrinks: the contract of the law's function. -/
namespace Go.Proofs.Ytghielfbdpkhmaa
open Go.Fw Go
set_option linter.unusedVariables false
set_option linter.unusedSimpArgs false

set_option maxHeartbeats 8000000 in
set_option maxRecDepth 8000 in
theorem BlendShrinks_c (l0 : List Int) (hl0 : l0.length ≤ maxLen) (hz0 : l0.length * 8 ≤ 140737488351232) (hr0 : ∀ n ∈ l0, -9223372036854775808 ≤ n ∧ n ≤ 9223372036854775807) (l1 : List Int) (hl1 : l1.length ≤ maxLen) (hz1 : l1.length * 8 ≤ 140737488351232) (hr1 : ∀ n ∈ l1, -9223372036854775808 ≤ n ∧ n ≤ 9223372036854775807) (x2 : Int) (hx2 : -9223372036854775808 ≤ x2 ∧ x2 ≤ 9223372036854775807) (x3 : Int) (hx3 : -9223372036854775808 ≤ x3 ∧ x3 ≤ 9223372036854775807) (x4 : Int) (hx4 : -9223372036854775808 ≤ x4 ∧ x4 ≤ 9223372036854775807) :
    ACall Try.prog 11 [.cs (iS .i64 l0) l0.length, .cs (iS .i64 l1) l1.length, .int .i64 x2, .int .i64 x3, .int .i64 x4] (fun _ => none) (fun y _ => y = .bool true) := by
  obtain ⟨T, hT, -, hF⟩ := four_ex l0 l1 hr0 hz0 hr1 hl1 x2 x3 x4 hx2 hx3 hx4
  have a3 := fun H => around_f x2 hx2.1 hx2.2 3 (by decide) (by decide) H
  have a7 := fun H => around_f x4 hx4.1 hx4.2 7 (by decide) (by decide) H
  have h3 := aro_lt (n := x2) (m := 3) (by decide)
  have h7 := aro_lt (n := x4) (m := 7) (by decide)
  generalize aro x2 3 = n3 at *
  generalize aro x4 7 = n7 at *
  have s1 := fun H => shrink_c (1 + (n3 : Int)) (by unfold I64; omega) T (fun q _ => hT q) H
  have r1 := fun H => rshrink_c (1 + (n3 : Int)) (by unfold I64; omega) T (fun q _ => hT q) H
  have s2 := fun H => shrink_c ((n7 : Int) - 1) (by unfold I64; omega) T (fun q _ => hT q) H
  have r2 := fun H => rshrink_c ((n7 : Int) - 1) (by unfold I64; omega) T (fun q _ => hT q) H
  obtain ⟨b1, L1, P1, hL1, hP1, e1⟩ := shV_form (1 + (n3 : Int)) T
  obtain ⟨b2, L2, P2, hL2, hP2, e2⟩ := shV_form ((n7 : Int) - 1) T
  rw [e1] at s1 r1
  rw [e2] at s2 r2
  have m1 := fun H => same_t b1 L1 P1 hL1 hP1 H
  have m2 := fun H => same_t b2 L2 P2 hL2 hP2 H
  generalize (shV (1 + (n3 : Int)) T).2 = c1 at *
  generalize (shV ((n7 : Int) - 1) T).2 = c2 at *
  unfold tV at s1 r1 s2 r2 m1 m2
  have hRl := rowF_len T
  have hR12 : List.take 12 (rowF T) = rowF T := List.take_of_length_le (by omega)
  have ho : (rowF T).all one = true := rfl
  generalize rowF T = R at *
  generalize (fun _ => none : AH) = H0
  refine ACall_of tt_ok (dok _) Try.func11 rfl (by decide) rfl ?_
  (repeat' ((conv => whnf); first | left | refine OpsA.cons ?_ | refine OpsA.nil ?_ | refine AWq.seq ?_ | refine AWq.region ?_ | refine AWq.cond ?_ | refine AWq.block ?_ | refine AWq.skip ?_ | refine AWq.ret ?_ | refine AWq.exit ?_ | refine AWq.loop ?_ | (refine Both.mk ?_ ?_ <;> intro hc <;> (first | exact Bool.noConfusion hc | exact absurd (by with_reducible rfl) hc | (exfalso; omega) | skip)) | (intro c hc; (try (simp only [AH.none_iff] at hc; repeat (have hn := hc.1; replace hc := hc.2))); (first | (have hc2 := Eq.trans hc (by with_reducible assumption); clear hc; subst hc2) | (refine i64_k hc ?_ ?_ ?_ ; omega; omega; (clear hc; intro hc; subst hc)) | skip)) | (apply Exists.intro; apply And.intro; (first | (focus (repeat (first | (with_reducible assumption) | (with_reducible exact AH.set_same _ _ _))); done) | (focus (repeat (first | assumption)); done))) | (apply Exists.intro; apply And.intro; first | (with_reducible assumption) | ((try simp only [List.getElem?_drop, Nat.mul_one, Nat.add_zero, Nat.zero_add]); first | (with_reducible assumption) | assumption | rfl)) | (apply And.intro; (first | rfl | (with_reducible assumption) | exact Nat.le_of_ble_eq_true rfl | omega | assumption | (simp <;> omega))))) <;> (try (conv => whnf))
  refine Then.mk ?_
  (repeat' ((conv => whnf); first | left | refine OpsA.cons ?_ | refine OpsA.nil ?_ | refine AWq.seq ?_ | refine AWq.region ?_ | refine AWq.cond ?_ | refine AWq.block ?_ | refine AWq.skip ?_ | refine AWq.ret ?_ | refine AWq.exit ?_ | refine AWq.loop ?_ | (refine Both.mk ?_ ?_ <;> intro hc <;> (first | exact Bool.noConfusion hc | exact absurd (by with_reducible rfl) hc | (exfalso; omega) | skip)) | (intro c hc; (try (simp only [AH.none_iff] at hc; repeat (have hn := hc.1; replace hc := hc.2))); (first | (have hc2 := Eq.trans hc (by with_reducible assumption); clear hc; subst hc2) | (refine i64_k hc ?_ ?_ ?_ ; omega; omega; (clear hc; intro hc; subst hc)) | skip)) | (apply Exists.intro; apply And.intro; (first | (focus (repeat (first | (with_reducible assumption) | (with_reducible exact AH.set_same _ _ _))); done) | (focus (repeat (first | assumption)); done))) | (apply Exists.intro; apply And.intro; first | (with_reducible assumption) | ((try simp only [List.getElem?_drop, Nat.mul_one, Nat.add_zero, Nat.zero_add]); first | (with_reducible assumption) | assumption | rfl)) | (apply And.intro; (first | rfl | (with_reducible assumption) | exact Nat.le_of_ble_eq_true rfl | omega | assumption | (simp <;> omega))) | (refine ACall.to (hF _) ?_))) <;> (try (conv => whnf))
  refine Then.mk (AWq.in ?_)
  refine AWp_segP 11 R rfl rfl (by assumption) rfl hRl.symm ?_
  rw [← hR12] at s1 r1 s2 r2
  refine AWp.of tt_ok (dok _) rfl ?_
  have w1 : IntKind.i64.wrap (1 + (n3 : Int)) = 1 + n3 := by rw [IntKind.wrap_i64]; omega
  have w7 : IntKind.i64.wrap ((n7 : Int) - 1) = n7 - 1 := by rw [IntKind.wrap_i64]; omega
  (repeat' ((conv => whnf); first | refine Then.mk ?_ | left | refine OpsA.cons ?_ | refine OpsA.nil ?_ | refine AWq.seq ?_ | refine AWq.region ?_ | refine AWq.cond ?_ | refine AWq.block ?_ | refine AWq.skip ?_ | refine AWq.ret ?_ | refine AWq.exit ?_ | refine AWq.loop ?_ | (refine Both.mk ?_ ?_ <;> intro hc <;> (first | exact Bool.noConfusion hc | exact absurd (by with_reducible rfl) hc | (exfalso; omega) | skip)) | (intro c hc; (try (simp only [AH.none_iff] at hc; repeat (have hn := hc.1; replace hc := hc.2))); (first | (have hc2 := Eq.trans hc (by with_reducible assumption); clear hc; subst hc2) | (refine i64_k hc ?_ ?_ ?_ ; omega; omega; (clear hc; intro hc; subst hc)) | skip)) | (apply Exists.intro; apply And.intro; (first | (focus (repeat (first | (with_reducible assumption) | (with_reducible exact AH.set_same _ _ _))); done) | (focus (repeat (first | assumption)); done))) | (apply Exists.intro; apply And.intro; first | (with_reducible assumption) | ((try simp only [List.getElem?_drop, Nat.mul_one, Nat.add_zero, Nat.zero_add]); first | (with_reducible assumption) | assumption | rfl)) | (apply And.intro; (first | rfl | (with_reducible assumption) | exact Nat.le_of_ble_eq_true rfl | omega | assumption | (simp <;> omega))) | (refine ACall.to (a3 _) ?_) | (refine ACall.to (a7 _) ?_))) <;> (try (conv => whnf))
  refine AWp_loop (σ := Nat) (10 :: 13 :: 14 :: 15 :: 16 :: 17 :: 31 :: 32 :: 33 :: 34 :: 35 :: 36 :: 37 :: 38 :: 39 :: 40 :: 41 :: 42 :: 43 :: 44 :: 45 :: 46 :: 47 :: 48 :: 49 :: 50 :: 51 :: 52 :: 53 :: 54 :: 55 :: 56 :: 57 :: 58 :: 59 :: 60 :: 61 :: []) (fun k => [(13, .int .i64 k)]) (fun _ => H0) (fun k => k ≤ 2) (fun k => 2 - k) 0 rfl (Nat.zero_le _) ⟨rfl, trivial⟩ (HLe.refl _) ?_
  intro k hk
  refine AWp.of tt_ok (dok _) rfl ?_
  dsimp only at hk ⊢
  rcases (show k = 0 ∨ k = 1 ∨ k = 2 by omega) with rfl | rfl | rfl
  · (repeat' ((conv => whnf); first | left | refine OpsA.cons ?_ | refine OpsA.nil ?_ | refine AWq.seq ?_ | refine AWq.region ?_ | refine AWq.cond ?_ | refine AWq.block ?_ | refine AWq.skip ?_ | refine AWq.ret ?_ | refine AWq.exit ?_ | refine AWq.loop ?_ | (refine Both.mk ?_ ?_ <;> intro hc <;> (first | exact Bool.noConfusion hc | exact absurd (by with_reducible rfl) hc | (exfalso; omega) | skip)) | (intro c hc; (try (simp only [AH.none_iff] at hc; repeat (have hn := hc.1; replace hc := hc.2))); (first | (have hc2 := Eq.trans hc (by with_reducible assumption); clear hc; subst hc2) | (refine i64_k hc ?_ ?_ ?_ ; omega; omega; (clear hc; intro hc; subst hc)) | skip)) | (apply Exists.intro; apply And.intro; (first | (focus (repeat (first | (with_reducible assumption) | (with_reducible exact AH.set_same _ _ _))); done) | (focus (repeat (first | assumption)); done))) | (apply Exists.intro; apply And.intro; first | (with_reducible assumption) | ((try simp only [List.getElem?_drop, Nat.mul_one, Nat.add_zero, Nat.zero_add]); first | (with_reducible assumption) | assumption | rfl)) | (apply And.intro; (first | rfl | (with_reducible assumption) | exact Nat.le_of_ble_eq_true rfl | omega | assumption | (simp <;> omega))))) <;> (try (conv => whnf))
    refine Then.mk ?_
    (repeat' ((conv => whnf); first | left | refine OpsA.cons ?_ | refine OpsA.nil ?_ | refine AWq.seq ?_ | refine AWq.region ?_ | refine AWq.cond ?_ | refine AWq.block ?_ | refine AWq.skip ?_ | refine AWq.ret ?_ | refine AWq.exit ?_ | refine AWq.loop ?_ | (refine Both.mk ?_ ?_ <;> intro hc <;> (first | exact Bool.noConfusion hc | exact absurd (by with_reducible rfl) hc | (exfalso; omega) | skip)) | (intro c hc; (try (simp only [AH.none_iff] at hc; repeat (have hn := hc.1; replace hc := hc.2))); (first | (have hc2 := Eq.trans hc (by with_reducible assumption); clear hc; subst hc2) | (refine i64_k hc ?_ ?_ ?_ ; omega; omega; (clear hc; intro hc; subst hc)) | skip)) | (apply Exists.intro; apply And.intro; (first | (focus (repeat (first | (with_reducible assumption) | (with_reducible exact AH.set_same _ _ _))); done) | (focus (repeat (first | assumption)); done))) | (apply Exists.intro; apply And.intro; first | (with_reducible assumption) | ((try simp only [List.getElem?_drop, Nat.mul_one, Nat.add_zero, Nat.zero_add]); first | (with_reducible assumption) | assumption | rfl)) | (apply And.intro; (first | rfl | (with_reducible assumption) | exact Nat.le_of_ble_eq_true rfl | omega | assumption | (simp <;> omega))))) <;> (try (conv => whnf))
    refine Then.mk (AWq.in ?_)
    refine AWp_spare fun q1 hq1 => ?_
    refine AWp.of tt_ok (dok _) rfl ?_
    (repeat' ((conv => whnf); first | refine Then.mk ?_ | left | refine OpsA.cons ?_ | refine OpsA.nil ?_ | refine AWq.seq ?_ | refine AWq.region ?_ | refine AWq.cond ?_ | refine AWq.block ?_ | refine AWq.skip ?_ | refine AWq.ret ?_ | refine AWq.exit ?_ | refine AWq.loop ?_ | (refine Both.mk ?_ ?_ <;> intro hc <;> (first | exact Bool.noConfusion hc | exact absurd (by with_reducible rfl) hc | (exfalso; omega) | skip)) | (intro c hc; (try (simp only [AH.none_iff] at hc; repeat (have hn := hc.1; replace hc := hc.2))); (first | (have hc2 := Eq.trans hc (by with_reducible assumption); clear hc; subst hc2) | (refine i64_k hc ?_ ?_ ?_ ; omega; omega; (clear hc; intro hc; subst hc)) | skip)) | (apply Exists.intro; apply And.intro; (first | (focus (repeat (first | (with_reducible assumption) | (with_reducible exact AH.set_same _ _ _))); done) | (focus (repeat (first | assumption)); done))) | (apply Exists.intro; apply And.intro; first | (with_reducible assumption) | ((try simp only [List.getElem?_drop, Nat.mul_one, Nat.add_zero, Nat.zero_add]); first | (with_reducible assumption) | assumption | rfl)) | (apply And.intro; (first | rfl | (with_reducible assumption) | exact Nat.le_of_ble_eq_true rfl | omega | assumption | (simp <;> omega))))) <;> (try (conv => whnf))
    refine AWq.drawK mo [(14, 0)] (fun _ => q1) (fun a b ha hb _ => by simp at ha hb; rw [ha, hb]) (by decide +kernel) ?_
    (repeat' ((conv => whnf); first | refine DrawK.consD ?_ | refine DrawK.nil ?_ | left | refine OpsA.cons ?_ | refine OpsA.nil ?_ | refine AWq.seq ?_ | refine AWq.region ?_ | refine AWq.cond ?_ | refine AWq.block ?_ | refine AWq.skip ?_ | refine AWq.ret ?_ | refine AWq.exit ?_ | refine AWq.loop ?_ | (refine Both.mk ?_ ?_ <;> intro hc <;> (first | exact Bool.noConfusion hc | exact absurd (by with_reducible rfl) hc | (exfalso; omega) | skip)) | (intro c hc; (try (simp only [AH.none_iff] at hc; repeat (have hn := hc.1; replace hc := hc.2))); (first | (have hc2 := Eq.trans hc (by with_reducible assumption); clear hc; subst hc2) | (refine i64_k hc ?_ ?_ ?_ ; omega; omega; (clear hc; intro hc; subst hc)) | skip)) | (apply Exists.intro; apply And.intro; (first | (focus (repeat (first | (with_reducible assumption) | (with_reducible exact AH.set_same _ _ _))); done) | (focus (repeat (first | assumption)); done))) | (apply Exists.intro; apply And.intro; first | (with_reducible assumption) | ((try simp only [List.getElem?_drop, Nat.mul_one, Nat.add_zero, Nat.zero_add]); first | (with_reducible assumption) | assumption | rfl)) | (apply And.intro; (first | rfl | (with_reducible assumption) | exact Nat.le_of_ble_eq_true rfl | omega | assumption | (simp <;> omega))))) <;> (try (conv => whnf))
    refine Then.mk (AWq.in ?_)
    refine AWp_segD 14 q1 [.int .i64 b1, .cs (iS .i64 L1) L1.length, .cs (iS .i64 P1) P1.length] rfl rfl rfl rfl hq1 rfl rfl ?_
    refine AWp_spare fun q2 hq2 => ?_
    refine AWp.of tt_ok (dok _) rfl ?_
    (repeat' ((conv => whnf); first | refine Then.mk ?_ | left | refine OpsA.cons ?_ | refine OpsA.nil ?_ | refine AWq.seq ?_ | refine AWq.region ?_ | refine AWq.cond ?_ | refine AWq.block ?_ | refine AWq.skip ?_ | refine AWq.ret ?_ | refine AWq.exit ?_ | refine AWq.loop ?_ | (refine Both.mk ?_ ?_ <;> intro hc <;> (first | exact Bool.noConfusion hc | exact absurd (by with_reducible rfl) hc | (exfalso; omega) | skip)) | (intro c hc; (try (simp only [AH.none_iff] at hc; repeat (have hn := hc.1; replace hc := hc.2))); (first | (have hc2 := Eq.trans hc (by with_reducible assumption); clear hc; subst hc2) | (refine i64_k hc ?_ ?_ ?_ ; omega; omega; (clear hc; intro hc; subst hc)) | skip)) | (apply Exists.intro; apply And.intro; (first | (focus (repeat (first | (with_reducible assumption) | (with_reducible exact AH.set_same _ _ _))); done) | (focus (repeat (first | assumption)); done))) | (apply Exists.intro; apply And.intro; first | (with_reducible assumption) | ((try simp only [List.getElem?_drop, Nat.mul_one, Nat.add_zero, Nat.zero_add]); first | (with_reducible assumption) | assumption | rfl)) | (apply And.intro; (first | rfl | (with_reducible assumption) | exact Nat.le_of_ble_eq_true rfl | omega | assumption | (simp <;> omega))))) <;> (try (conv => whnf))
    refine AWq.drawK mo [(16, 0)] (fun _ => q2) (fun a b ha hb _ => by simp at ha hb; rw [ha, hb]) (by decide +kernel) ?_
    (repeat' ((conv => whnf); first | refine DrawK.consD ?_ | refine DrawK.nil ?_ | left | refine OpsA.cons ?_ | refine OpsA.nil ?_ | refine AWq.seq ?_ | refine AWq.region ?_ | refine AWq.cond ?_ | refine AWq.block ?_ | refine AWq.skip ?_ | refine AWq.ret ?_ | refine AWq.exit ?_ | refine AWq.loop ?_ | (refine Both.mk ?_ ?_ <;> intro hc <;> (first | exact Bool.noConfusion hc | exact absurd (by with_reducible rfl) hc | (exfalso; omega) | skip)) | (intro c hc; (try (simp only [AH.none_iff] at hc; repeat (have hn := hc.1; replace hc := hc.2))); (first | (have hc2 := Eq.trans hc (by with_reducible assumption); clear hc; subst hc2) | (refine i64_k hc ?_ ?_ ?_ ; omega; omega; (clear hc; intro hc; subst hc)) | skip)) | (apply Exists.intro; apply And.intro; (first | (focus (repeat (first | (with_reducible assumption) | (with_reducible exact AH.set_same _ _ _))); done) | (focus (repeat (first | assumption)); done))) | (apply Exists.intro; apply And.intro; first | (with_reducible assumption) | ((try simp only [List.getElem?_drop, Nat.mul_one, Nat.add_zero, Nat.zero_add]); first | (with_reducible assumption) | assumption | rfl)) | (apply And.intro; (first | rfl | (with_reducible assumption) | exact Nat.le_of_ble_eq_true rfl | omega | assumption | (simp <;> omega))))) <;> (try (conv => whnf))
    refine Then.mk (AWq.in ?_)
    refine AWp_segD 16 q2 [.int .i64 b1, .cs (iS .i64 L1) L1.length, .cs (iS .i64 P1) P1.length] rfl rfl rfl rfl hq2 rfl rfl ?_
    refine AWp.of tt_ok (dok _) rfl ?_
    (repeat' ((conv => whnf); first | refine Then.mk ?_ | left | refine OpsA.cons ?_ | refine OpsA.nil ?_ | refine AWq.seq ?_ | refine AWq.region ?_ | refine AWq.cond ?_ | refine AWq.block ?_ | refine AWq.skip ?_ | refine AWq.ret ?_ | refine AWq.exit ?_ | refine AWq.loop ?_ | (refine Both.mk ?_ ?_ <;> intro hc <;> (first | exact Bool.noConfusion hc | exact absurd (by with_reducible rfl) hc | (exfalso; omega) | skip)) | (intro c hc; (try (simp only [AH.none_iff] at hc; repeat (have hn := hc.1; replace hc := hc.2))); (first | (have hc2 := Eq.trans hc (by with_reducible assumption); clear hc; subst hc2) | (refine i64_k hc ?_ ?_ ?_ ; omega; omega; (clear hc; intro hc; subst hc)) | skip)) | (apply Exists.intro; apply And.intro; (first | (focus (repeat (first | (with_reducible assumption) | (with_reducible exact AH.set_same _ _ _))); done) | (focus (repeat (first | assumption)); done))) | (apply Exists.intro; apply And.intro; first | (with_reducible assumption) | ((try simp only [List.getElem?_drop, Nat.mul_one, Nat.add_zero, Nat.zero_add]); first | (with_reducible assumption) | assumption | rfl)) | (apply And.intro; (first | rfl | (with_reducible assumption) | exact Nat.le_of_ble_eq_true rfl | omega | assumption | (simp <;> omega))) | (refine ACall.to (m1 _) ?_))) <;> (try (conv => whnf))
    exact ⟨1, by decide, by decide, ⟨rfl, trivial⟩, HLe.refl _⟩
  · (repeat' ((conv => whnf); first | left | refine OpsA.cons ?_ | refine OpsA.nil ?_ | refine AWq.seq ?_ | refine AWq.region ?_ | refine AWq.cond ?_ | refine AWq.block ?_ | refine AWq.skip ?_ | refine AWq.ret ?_ | refine AWq.exit ?_ | refine AWq.loop ?_ | (refine Both.mk ?_ ?_ <;> intro hc <;> (first | exact Bool.noConfusion hc | exact absurd (by with_reducible rfl) hc | (exfalso; omega) | skip)) | (intro c hc; (try (simp only [AH.none_iff] at hc; repeat (have hn := hc.1; replace hc := hc.2))); (first | (have hc2 := Eq.trans hc (by with_reducible assumption); clear hc; subst hc2) | (refine i64_k hc ?_ ?_ ?_ ; omega; omega; (clear hc; intro hc; subst hc)) | skip)) | (apply Exists.intro; apply And.intro; (first | (focus (repeat (first | (with_reducible assumption) | (with_reducible exact AH.set_same _ _ _))); done) | (focus (repeat (first | assumption)); done))) | (apply Exists.intro; apply And.intro; first | (with_reducible assumption) | ((try simp only [List.getElem?_drop, Nat.mul_one, Nat.add_zero, Nat.zero_add]); first | (with_reducible assumption) | assumption | rfl)) | (apply And.intro; (first | rfl | (with_reducible assumption) | exact Nat.le_of_ble_eq_true rfl | omega | assumption | (simp <;> omega))))) <;> (try (conv => whnf))
    refine Then.mk ?_
    (repeat' ((conv => whnf); first | left | refine OpsA.cons ?_ | refine OpsA.nil ?_ | refine AWq.seq ?_ | refine AWq.region ?_ | refine AWq.cond ?_ | refine AWq.block ?_ | refine AWq.skip ?_ | refine AWq.ret ?_ | refine AWq.exit ?_ | refine AWq.loop ?_ | (refine Both.mk ?_ ?_ <;> intro hc <;> (first | exact Bool.noConfusion hc | exact absurd (by with_reducible rfl) hc | (exfalso; omega) | skip)) | (intro c hc; (try (simp only [AH.none_iff] at hc; repeat (have hn := hc.1; replace hc := hc.2))); (first | (have hc2 := Eq.trans hc (by with_reducible assumption); clear hc; subst hc2) | (refine i64_k hc ?_ ?_ ?_ ; omega; omega; (clear hc; intro hc; subst hc)) | skip)) | (apply Exists.intro; apply And.intro; (first | (focus (repeat (first | (with_reducible assumption) | (with_reducible exact AH.set_same _ _ _))); done) | (focus (repeat (first | assumption)); done))) | (apply Exists.intro; apply And.intro; first | (with_reducible assumption) | ((try simp only [List.getElem?_drop, Nat.mul_one, Nat.add_zero, Nat.zero_add]); first | (with_reducible assumption) | assumption | rfl)) | (apply And.intro; (first | rfl | (with_reducible assumption) | exact Nat.le_of_ble_eq_true rfl | omega | assumption | (simp <;> omega))))) <;> (try (conv => whnf))
    refine Then.mk (AWq.in ?_)
    refine AWp_spare fun q1 hq1 => ?_
    refine AWp.of tt_ok (dok _) rfl ?_
    (repeat' ((conv => whnf); first | refine Then.mk ?_ | left | refine OpsA.cons ?_ | refine OpsA.nil ?_ | refine AWq.seq ?_ | refine AWq.region ?_ | refine AWq.cond ?_ | refine AWq.block ?_ | refine AWq.skip ?_ | refine AWq.ret ?_ | refine AWq.exit ?_ | refine AWq.loop ?_ | (refine Both.mk ?_ ?_ <;> intro hc <;> (first | exact Bool.noConfusion hc | exact absurd (by with_reducible rfl) hc | (exfalso; omega) | skip)) | (intro c hc; (try (simp only [AH.none_iff] at hc; repeat (have hn := hc.1; replace hc := hc.2))); (first | (have hc2 := Eq.trans hc (by with_reducible assumption); clear hc; subst hc2) | (refine i64_k hc ?_ ?_ ?_ ; omega; omega; (clear hc; intro hc; subst hc)) | skip)) | (apply Exists.intro; apply And.intro; (first | (focus (repeat (first | (with_reducible assumption) | (with_reducible exact AH.set_same _ _ _))); done) | (focus (repeat (first | assumption)); done))) | (apply Exists.intro; apply And.intro; first | (with_reducible assumption) | ((try simp only [List.getElem?_drop, Nat.mul_one, Nat.add_zero, Nat.zero_add]); first | (with_reducible assumption) | assumption | rfl)) | (apply And.intro; (first | rfl | (with_reducible assumption) | exact Nat.le_of_ble_eq_true rfl | omega | assumption | (simp <;> omega))))) <;> (try (conv => whnf))
    refine AWq.drawK mo [(14, 0)] (fun _ => q1) (fun a b ha hb _ => by simp at ha hb; rw [ha, hb]) (by decide +kernel) ?_
    (repeat' ((conv => whnf); first | refine DrawK.consD ?_ | refine DrawK.nil ?_ | left | refine OpsA.cons ?_ | refine OpsA.nil ?_ | refine AWq.seq ?_ | refine AWq.region ?_ | refine AWq.cond ?_ | refine AWq.block ?_ | refine AWq.skip ?_ | refine AWq.ret ?_ | refine AWq.exit ?_ | refine AWq.loop ?_ | (refine Both.mk ?_ ?_ <;> intro hc <;> (first | exact Bool.noConfusion hc | exact absurd (by with_reducible rfl) hc | (exfalso; omega) | skip)) | (intro c hc; (try (simp only [AH.none_iff] at hc; repeat (have hn := hc.1; replace hc := hc.2))); (first | (have hc2 := Eq.trans hc (by with_reducible assumption); clear hc; subst hc2) | (refine i64_k hc ?_ ?_ ?_ ; omega; omega; (clear hc; intro hc; subst hc)) | skip)) | (apply Exists.intro; apply And.intro; (first | (focus (repeat (first | (with_reducible assumption) | (with_reducible exact AH.set_same _ _ _))); done) | (focus (repeat (first | assumption)); done))) | (apply Exists.intro; apply And.intro; first | (with_reducible assumption) | ((try simp only [List.getElem?_drop, Nat.mul_one, Nat.add_zero, Nat.zero_add]); first | (with_reducible assumption) | assumption | rfl)) | (apply And.intro; (first | rfl | (with_reducible assumption) | exact Nat.le_of_ble_eq_true rfl | omega | assumption | (simp <;> omega))))) <;> (try (conv => whnf))
    refine Then.mk (AWq.in ?_)
    refine AWp_segD 14 q1 [.int .i64 b2, .cs (iS .i64 L2) L2.length, .cs (iS .i64 P2) P2.length] rfl rfl rfl rfl hq1 rfl rfl ?_
    refine AWp_spare fun q2 hq2 => ?_
    refine AWp.of tt_ok (dok _) rfl ?_
    (repeat' ((conv => whnf); first | refine Then.mk ?_ | left | refine OpsA.cons ?_ | refine OpsA.nil ?_ | refine AWq.seq ?_ | refine AWq.region ?_ | refine AWq.cond ?_ | refine AWq.block ?_ | refine AWq.skip ?_ | refine AWq.ret ?_ | refine AWq.exit ?_ | refine AWq.loop ?_ | (refine Both.mk ?_ ?_ <;> intro hc <;> (first | exact Bool.noConfusion hc | exact absurd (by with_reducible rfl) hc | (exfalso; omega) | skip)) | (intro c hc; (try (simp only [AH.none_iff] at hc; repeat (have hn := hc.1; replace hc := hc.2))); (first | (have hc2 := Eq.trans hc (by with_reducible assumption); clear hc; subst hc2) | (refine i64_k hc ?_ ?_ ?_ ; omega; omega; (clear hc; intro hc; subst hc)) | skip)) | (apply Exists.intro; apply And.intro; (first | (focus (repeat (first | (with_reducible assumption) | (with_reducible exact AH.set_same _ _ _))); done) | (focus (repeat (first | assumption)); done))) | (apply Exists.intro; apply And.intro; first | (with_reducible assumption) | ((try simp only [List.getElem?_drop, Nat.mul_one, Nat.add_zero, Nat.zero_add]); first | (with_reducible assumption) | assumption | rfl)) | (apply And.intro; (first | rfl | (with_reducible assumption) | exact Nat.le_of_ble_eq_true rfl | omega | assumption | (simp <;> omega))))) <;> (try (conv => whnf))
    refine AWq.drawK mo [(16, 0)] (fun _ => q2) (fun a b ha hb _ => by simp at ha hb; rw [ha, hb]) (by decide +kernel) ?_
    (repeat' ((conv => whnf); first | refine DrawK.consD ?_ | refine DrawK.nil ?_ | left | refine OpsA.cons ?_ | refine OpsA.nil ?_ | refine AWq.seq ?_ | refine AWq.region ?_ | refine AWq.cond ?_ | refine AWq.block ?_ | refine AWq.skip ?_ | refine AWq.ret ?_ | refine AWq.exit ?_ | refine AWq.loop ?_ | (refine Both.mk ?_ ?_ <;> intro hc <;> (first | exact Bool.noConfusion hc | exact absurd (by with_reducible rfl) hc | (exfalso; omega) | skip)) | (intro c hc; (try (simp only [AH.none_iff] at hc; repeat (have hn := hc.1; replace hc := hc.2))); (first | (have hc2 := Eq.trans hc (by with_reducible assumption); clear hc; subst hc2) | (refine i64_k hc ?_ ?_ ?_ ; omega; omega; (clear hc; intro hc; subst hc)) | skip)) | (apply Exists.intro; apply And.intro; (first | (focus (repeat (first | (with_reducible assumption) | (with_reducible exact AH.set_same _ _ _))); done) | (focus (repeat (first | assumption)); done))) | (apply Exists.intro; apply And.intro; first | (with_reducible assumption) | ((try simp only [List.getElem?_drop, Nat.mul_one, Nat.add_zero, Nat.zero_add]); first | (with_reducible assumption) | assumption | rfl)) | (apply And.intro; (first | rfl | (with_reducible assumption) | exact Nat.le_of_ble_eq_true rfl | omega | assumption | (simp <;> omega))))) <;> (try (conv => whnf))
    refine Then.mk (AWq.in ?_)
    refine AWp_segD 16 q2 [.int .i64 b2, .cs (iS .i64 L2) L2.length, .cs (iS .i64 P2) P2.length] rfl rfl rfl rfl hq2 rfl rfl ?_
    refine AWp.of tt_ok (dok _) rfl ?_
    (repeat' ((conv => whnf); first | refine Then.mk ?_ | left | refine OpsA.cons ?_ | refine OpsA.nil ?_ | refine AWq.seq ?_ | refine AWq.region ?_ | refine AWq.cond ?_ | refine AWq.block ?_ | refine AWq.skip ?_ | refine AWq.ret ?_ | refine AWq.exit ?_ | refine AWq.loop ?_ | (refine Both.mk ?_ ?_ <;> intro hc <;> (first | exact Bool.noConfusion hc | exact absurd (by with_reducible rfl) hc | (exfalso; omega) | skip)) | (intro c hc; (try (simp only [AH.none_iff] at hc; repeat (have hn := hc.1; replace hc := hc.2))); (first | (have hc2 := Eq.trans hc (by with_reducible assumption); clear hc; subst hc2) | (refine i64_k hc ?_ ?_ ?_ ; omega; omega; (clear hc; intro hc; subst hc)) | skip)) | (apply Exists.intro; apply And.intro; (first | (focus (repeat (first | (with_reducible assumption) | (with_reducible exact AH.set_same _ _ _))); done) | (focus (repeat (first | assumption)); done))) | (apply Exists.intro; apply And.intro; first | (with_reducible assumption) | ((try simp only [List.getElem?_drop, Nat.mul_one, Nat.add_zero, Nat.zero_add]); first | (with_reducible assumption) | assumption | rfl)) | (apply And.intro; (first | rfl | (with_reducible assumption) | exact Nat.le_of_ble_eq_true rfl | omega | assumption | (simp <;> omega))) | (refine ACall.to (m2 _) ?_))) <;> (try (conv => whnf))
    exact ⟨2, by decide, by decide, ⟨rfl, trivial⟩, HLe.refl _⟩
  · (repeat' ((conv => whnf); first | refine Then.mk ?_ | left | refine OpsA.cons ?_ | refine OpsA.nil ?_ | refine AWq.seq ?_ | refine AWq.region ?_ | refine AWq.cond ?_ | refine AWq.block ?_ | refine AWq.skip ?_ | refine AWq.ret ?_ | refine AWq.exit ?_ | refine AWq.loop ?_ | (refine Both.mk ?_ ?_ <;> intro hc <;> (first | exact Bool.noConfusion hc | exact absurd (by with_reducible rfl) hc | (exfalso; omega) | skip)) | (intro c hc; (try (simp only [AH.none_iff] at hc; repeat (have hn := hc.1; replace hc := hc.2))); (first | (have hc2 := Eq.trans hc (by with_reducible assumption); clear hc; subst hc2) | (refine i64_k hc ?_ ?_ ?_ ; omega; omega; (clear hc; intro hc; subst hc)) | skip)) | (apply Exists.intro; apply And.intro; (first | (focus (repeat (first | (with_reducible assumption) | (with_reducible exact AH.set_same _ _ _))); done) | (focus (repeat (first | assumption)); done))) | (apply Exists.intro; apply And.intro; first | (with_reducible assumption) | ((try simp only [List.getElem?_drop, Nat.mul_one, Nat.add_zero, Nat.zero_add]); first | (with_reducible assumption) | assumption | rfl)) | (apply And.intro; (first | rfl | (with_reducible assumption) | exact Nat.le_of_ble_eq_true rfl | omega | assumption | (simp <;> omega))) | (refine ACall.to (lives23_c _) ?_))) <;> (try (conv => whnf))
end Go.Proofs.Ytghielfbdpkhmaa
