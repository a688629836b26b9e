/- The law WaveletOrders: the contract of the law's function. -/
import Derived.Test.YtajmabnnaidhkaaWaveT
import Derived.Test.YtajmabnnaidhkaaWireM
namespace Go.Proofs.Ytajmabnnaidhkaa
open Go.Fw Go
set_option linter.unusedVariables false
set_option linter.unusedSimpArgs false

structure ZF (n : Nat) (z : List Int) : Prop where
  len : z.length = n
  bd : ∀ x ∈ z, 0 ≤ x ∧ x < n
  nd : z.Nodup
  all : ∀ p, p < n → (p : Int) ∈ z

def zfB (n : Nat) (z : List Int) : Bool := z.length == n && z.all (fun x => decide (0 ≤ x ∧ x < n)) && decide z.Nodup && (List.range n).all fun p => z.contains (p : Int)
theorem zf_of {n : Nat} {z : List Int} (h : zfB n z = true) : ZF n z := by
  unfold zfB at h
  simp only [Bool.and_eq_true, beq_iff_eq, List.all_eq_true, decide_eq_true_eq] at h
  obtain ⟨⟨⟨h1, h2⟩, h3⟩, h4⟩ := h
  refine ⟨h1, h2, h3, fun p hp => ?_⟩
  have := h4 p (by simpa using hp)
  simpa using this
theorem zig_f {k : Nat} (h : k ≤ 4) : ZF (2 ^ k * 2 ^ k) (zgz (2 ^ k) k) := by
  refine zf_of ?_
  rcases (show k = 0 ∨ k = 1 ∨ k = 2 ∨ k = 3 ∨ k = 4 by omega) with rfl | rfl | rfl | rfl | rfl <;> decide +kernel

set_option maxRecDepth 8000 in
theorem zig_bad (n : Int) (h1 : -9223372036854775808 ≤ n) (h2 : n ≤ 9223372036854775807) (h : ¬ IsSide n) (H : AH) : ACall Try.prog 28 [.int .i64 n] H (fun y H' => y = .tup [.nils, .int .i64 1] ∧ H' = H) := by
  have ss := fun H => sides_c n h1 h2 H
  rw [decide_eq_false h] at ss
  refine ACall_of tt_ok (dok _) Try.func28 rfl (by decide) rfl ?_
  (repeat' ((conv => whnf); first | refine Then.mk ?_ | left | refine OpsA.cons ?_ | refine OpsA.nil ?_ | refine AWq.seq ?_ | refine AWq.region ?_ | refine AWq.cond ?_ | refine AWq.block ?_ | refine AWq.skip ?_ | refine AWq.ret ?_ | refine AWq.exit ?_ | refine AWq.loop ?_ | refine AWq.rangeFunc ?_ | refine DrawA.consD ?_ | refine DrawA.nil ?_ | refine AWq.draw (by decide +kernel) ?_ | (refine ACall.to (ss _) ?_) | (apply Exists.intro; apply And.intro; exact ss _) | (apply Exists.intro; apply Exists.intro; apply And.intro; exact ss _) | (refine Both.mk ?_ ?_ <;> intro hc <;> (first | exact Bool.noConfusion hc | exact absurd (by with_reducible rfl) hc | exact (hc : False).elim | exact absurd (by assumption) hc | exact absurd hc (by assumption) | (exfalso; omega) | exact absurd hc (by decide) | skip)) | (intro c hc; (try (simp only [AH.none_iff] at hc; repeat (have hn := hc.1; replace hc := hc.2))); (first | (refine i64_k hc ?_ ?_ ?_ ; omega; omega; (clear hc; intro hc; subst hc)) | (refine u64_k hc ?_ ?_ ?_ ; omega; omega; (clear hc; intro hc; subst hc)) | (refine u8_k hc ?_ ?_ ?_ ; omega; omega; (clear hc; intro hc; subst hc)) | subst hc | skip)) | (apply Exists.intro; apply And.intro; (focus (repeat (first | assumption | exact AH.set_same _ _ _ | ((first | refine AH.get_ne ?_ ?_ | refine AH.getd_ne ?_ ?_); (first | assumption | omega | exact Ne.symm (by assumption) | exact AH.ne_none (by assumption) (by assumption) | exact AH.none_ne (by assumption) (by assumption) | exact (AH.none_set (by assumption)).1 | exact Ne.symm (AH.none_set (by assumption)).1)))); done)) | (apply Exists.intro; apply And.intro; (try simp only [List.getElem?_drop, Nat.mul_one, Nat.add_zero, Nat.zero_add]); first | (refine u8s_get ?_; omega) | (refine iS_get ?_; omega) | assumption | rfl | fail) | (apply And.intro; (first | rfl | assumption | exact Nat.le_of_ble_eq_true rfl | omega | (simp <;> fail) | (simp <;> omega) | (focus (repeat' (first | exact one_u8s _ | exact one_iS _ _ | rfl | apply one_take | apply one_drop | apply one_append)); done) | fail)) | fail)) <;> (try (conv => whnf))

/-- Truth values. -/
def bL (n : Nat) (g : Nat → Bool) : List AV := (List.range n).map fun p => .bool (g p)
@[simp] theorem bL_len (n : Nat) (g : Nat → Bool) : (bL n g).length = n := by simp [bL]
theorem bL_get {n i : Nat} (g : Nat → Bool) (h : i < n) : (bL n g)[i]? = some (.bool (g i)) := by simp [bL, h]
theorem bL_wr {n i : Nat} (g : Nat → Bool) (h : i < n) (b : Bool) : wrA (bL n g) i [.bool b] = bL n (fun k => if k = i then b else g k) := by
  unfold wrA
  apply List.ext_getElem?
  intro p
  by_cases hp : p < n
  · rw [bL_get _ hp]
    by_cases c1 : p < i
    · rw [List.append_assoc, List.getElem?_append_left (by simp; omega), List.getElem?_take, if_pos c1, bL_get _ hp, if_neg (by omega)]
    · by_cases c2 : p = i
      · subst c2
        rw [List.append_assoc, List.getElem?_append_right (by simp; omega), if_pos rfl]
        simp [show min p n = p by omega]
      · rw [List.getElem?_append_right (by simp; omega), List.getElem?_drop, if_neg c2]
        simp only [List.length_append, List.length_take, bL_len, List.length_cons, List.length_nil]
        rw [show i + (0 + 1) + (p - (min i n + (0 + 1))) = p by omega, bL_get _ hp]
  · rw [List.getElem?_eq_none (by simp; omega), List.getElem?_eq_none (by simp; omega)]
theorem bL_zero (n : Nat) : (List.replicate n [AV.bool false]).flatten = bL n (fun _ => false) := by
  induction n with
  | zero => rfl
  | succ n ih =>
    rw [List.replicate_succ', List.flatten_append, ih]
    simp [bL, List.range_succ]

theorem encIs_take {L : List Int} {i : Nat} (h : i < L.length) : encIs (L.take (i + 1)) = encIs (L.take i) ++ encI L[i] := by
  rw [List.take_add_one, List.getElem?_eq_getElem h]
  unfold encIs
  rw [List.flatMap_append]; simp
theorem encIs_drop {L : List Int} {i : Nat} (h : i < L.length) : encIs (L.drop i) = encI L[i] ++ encIs (L.drop (i + 1)) := by
  rw [List.drop_eq_getElem_cons h]
  unfold encIs
  rw [List.flatMap_cons]
theorem encIs_l10 : ∀ l : List Int, (∀ x ∈ l, I64 x) → (encIs l).length ≤ 10 * l.length
  | [], _ => Nat.zero_le _
  | x :: l, h => by
    have := encIs_l10 l (fun y hy => h y (by simp [hy]))
    have := encN_len10 (zz_lt (h x (by simp)).1 (h x (by simp)).2)
    have e : encIs (x :: l) = encI x ++ encIs l := by simp [encIs]
    have e2 : encI x = encN (zz x) := rfl
    rw [e, List.length_append, List.length_cons, e2]; omega

theorem Kept_split {T G : Prop} (main : Kept T → G) (tl : T) : G := main ⟨tl⟩
theorem AWp_cutd {P : Program} {N : Nat} {ro : Option Nat} {ws : Nat → Bool} {c : Code} {K R : St → AH → Prop} {X : Nat → St → AH → Prop} {s : St} {H H2 : AH} (named : List (Nat × AV)) (hd : s.d = [])
    (hn : agrees s.e named) (hws : ∀ t, ws t = true) (hH : HLe H2 H) (h : AWp N P ro ws c K R X ⟨envOf named, []⟩ H2) : AWp N P ro ws c K R X s H :=
  AWp_cut named hn hws hH (by rw [hd]; exact h)

set_option maxHeartbeats 8000000 in
set_option maxRecDepth 8000 in
theorem WaveletOrders_c (x0 : Int) (hx0 : -9223372036854775808 ≤ x0 ∧ x0 ≤ 9223372036854775807) (l1 : List Int) (hl1 : l1.length ≤ maxLen) (hr1 : ∀ n ∈ l1, -9223372036854775808 ≤ n ∧ n ≤ 9223372036854775807) :
    ACall Try.prog 9 [.int .i64 x0, .cs (iS .i64 l1) l1.length] (fun _ => none) (fun y _ => y = .bool true) := by
  obtain ⟨k, hk, sk⟩ := sides_k x0 hx0.1 hx0.2
  have hS := (pow_side hk).2
  have sd := fun H => Side_c x0 hx0.1 hx0.2 H
  have zk := fun H => zig_ok k hk H
  have hz := zig_f hk
  have hzr := zig_eq hk
  have rz := fun H => rZig_c (2 ^ k) (by omega) H
  rw [hzr] at rz
  obtain ⟨z, hzz⟩ : ∃ z, z = zgz (2 ^ k) k := ⟨_, rfl⟩
  rw [← hzz] at hz rz zk
  have zk : ∀ H, ACall Try.prog 28 [.int .i64 (2 ^ k : Nat)] H (fun y H' => y = .tup [.cs (iS .i64 z) z.length, .int .i64 0] ∧ H' = H) := zk
  have hss : 2 ^ k * 2 ^ k ≤ 256 := Nat.mul_le_mul hS.1 hS.1
  have h11 : 1 ≤ 2 ^ k * 2 ^ k := Nat.mul_le_mul hS.2 hS.2
  have cast : ((2 ^ k : Nat) : Int) * ((2 ^ k : Nat) : Int) = ((2 ^ k * 2 ^ k : Nat) : Int) := (Int.natCast_mul _ _).symm
  have tz := fun H => same_t z (by rw [hz.len]; omega) H
  have q1 := fun H => square_c (2 ^ k) (by omega) l1 hl1 70000 (by omega) H
  obtain ⟨A, hA⟩ : ∃ A, A = lnL (2 ^ k * 2 ^ k) (sqV l1 70000) := ⟨_, rfl⟩
  have lA : A.length = 2 ^ k * 2 ^ k := by rw [hA]; exact lnL_len _ _
  have iA : inB 70000 A = true := by rw [hA]; exact inB_lnL fun c _ => sqV_bd l1 _ (by omega) c
  have iA2 : inB 1099511627776 A = true := by rw [inB_iff] at iA ⊢; intro x hx; have := iA x hx; omega
  unfold iL at q1
  rw [← hA, ← lA] at q1
  have f1 := fun H => Forward_ok k hk A lA iA2 H
  have bA := inB_bnd (by omega) iA (2 ^ k)
  obtain ⟨X, hX⟩ : ∃ X, X = toL (2 ^ k) (fwd k (ofL (2 ^ k) A)) := ⟨_, rfl⟩
  rw [← hX] at f1
  have lX : X.length = 2 ^ k * 2 ^ k := by rw [hX]; exact toL_len _ _
  have iX : inB 280000 X = true := by
    rw [hX]
    exact inB_toL (fwd_bd (B := 70000) (by omega) k _ (Nat.le_refl _) (fun r c hr hc => bA r c hr hc) (fun r c hr hc => by have := bA r c hr hc; omega))
  have f1 : ∀ H, ACall Try.prog 12 [.int .i64 (2 ^ k : Nat), .cs (iS .i64 A) A.length] H (fun y H' => y = .tup [.cs (iS .i64 X) X.length, .int .i64 0] ∧ H' = H) := f1
  have tX := fun H => same_t X (by omega) H
  clear hA hX bA hzz hzr
  have hxb : ∀ p, -280000 ≤ X.getD p 0 ∧ X.getD p 0 ≤ 280000 := fun p => inB_getD (by omega) iX p
  obtain ⟨L, hL⟩ : ∃ L, L = z.map fun x => X.getD x.toNat 0 := ⟨_, rfl⟩
  have lL : L.length = 2 ^ k * 2 ^ k := by rw [hL, List.length_map, hz.len]
  have hLi : ∀ x ∈ L, I64 x := fun x hx => by
    rw [hL] at hx
    obtain ⟨y, _, rfl⟩ := List.mem_map.1 hx
    have := hxb y.toNat
    unfold I64; omega
  obtain ⟨H0, hH0⟩ : ∃ H0 : AH, H0 = fun _ => none := ⟨_, rfl⟩
  rw [← hH0]
  clear hH0
  generalize 2 ^ k = S at *
  have hzi : ∀ i, i < S * S → ∃ p : Nat, p < S * S ∧ z.getD (i : Int).toNat 0 = p ∧ L[i]? = some (X.getD p 0) ∧ ¬ ((p : Int) ∈ z.take i) ∧ z.take (i + 1) = z.take i ++ [(p : Int)] := fun i hi => by
    have hil : i < z.length := by rw [hz.len]; exact hi
    have hb := hz.bd z[i] (List.getElem_mem hil)
    have hp : z[i] = ((z[i].toNat : Nat) : Int) := (Int.toNat_of_nonneg hb.1).symm
    refine ⟨z[i].toNat, by omega, ?_, ?_, ?_, ?_⟩
    · rw [Int.toNat_natCast, ← hp]; simp [hil]
    · rw [hL, List.getElem?_map, List.getElem?_eq_getElem hil]; rfl
    · rw [← hp]
      intro hm
      obtain ⟨j, hj, he⟩ := List.getElem_of_mem hm
      rw [List.length_take] at hj
      rw [List.getElem_take] at he
      exact (List.pairwise_iff_getElem.1 hz.nd j i (by omega) hil (by omega)) he
    · rw [List.take_add_one, List.getElem?_eq_getElem hil, ← hp]; rfl
  have hel : ∀ i, (encIs (L.take i)).length ≤ 2560 := fun i => by
    have := encIs_l10 (L.take i) (fun x hx => hLi x (List.mem_of_mem_take hx))
    rw [List.length_take] at this; omega
  have hed : ∀ i, (encIs (L.drop i)).length ≤ 2560 := fun i => by
    have := encIs_l10 (L.drop i) (fun x hx => hLi x (List.mem_of_mem_drop hx))
    rw [List.length_drop] at this; omega
  refine ACall_of tt_ok (dok _) Try.func9 rfl (by decide) rfl ?_
  apply Kept_split
  case main =>
    intro tail
    by_cases hsd : IsSide x0
    · obtain ⟨k', hk', hx⟩ := side_pow hsd
      rw [decide_eq_true hsd] at sd
      have z1 := fun H => zig_ok k' hk' H
      rw [← hx] at z1
      generalize zgz (2 ^ k') k' = z' at z1
      have z1 : ∀ H, ACall Try.prog 28 [.int .i64 x0] H (fun y H' => y = .tup [.cs (iS .i64 z') z'.length, .int .i64 0] ∧ H' = H) := z1
      (repeat' ((conv => whnf); first | left | refine OpsA.cons ?_ | refine OpsA.nil ?_ | refine AWq.seq ?_ | refine AWq.region ?_ | refine AWq.cond ?_ | refine AWq.block ?_ | refine AWq.skip ?_ | refine AWq.ret ?_ | refine AWq.exit ?_ | refine AWq.loop ?_ | refine AWq.rangeFunc ?_ | refine DrawA.consD ?_ | refine DrawA.nil ?_ | refine AWq.draw (by decide +kernel) ?_ | (refine Both.mk ?_ ?_ <;> intro hc <;> (first | exact Bool.noConfusion hc | exact absurd (by with_reducible rfl) hc | exact (hc : False).elim | exact absurd (by assumption) hc | exact absurd hc (by assumption) | (exfalso; omega) | exact absurd hc (by decide) | skip)) | (intro c hc; (try (simp only [AH.none_iff] at hc; repeat (have hn := hc.1; replace hc := hc.2))); (first | (refine i64_k hc ?_ ?_ ?_ ; omega; omega; (clear hc; intro hc; subst hc)) | (refine u64_k hc ?_ ?_ ?_ ; omega; omega; (clear hc; intro hc; subst hc)) | (refine u8_k hc ?_ ?_ ?_ ; omega; omega; (clear hc; intro hc; subst hc)) | subst hc | skip)) | (apply Exists.intro; apply And.intro; (focus (repeat (first | assumption | exact AH.set_same _ _ _ | ((first | refine AH.get_ne ?_ ?_ | refine AH.getd_ne ?_ ?_); (first | assumption | omega | exact Ne.symm (by assumption) | exact AH.ne_none (by assumption) (by assumption) | exact AH.none_ne (by assumption) (by assumption) | exact (AH.none_set (by assumption)).1 | exact Ne.symm (AH.none_set (by assumption)).1)))); done)) | (apply Exists.intro; apply And.intro; (try simp only [List.getElem?_drop, Nat.mul_one, Nat.add_zero, Nat.zero_add]); first | (refine u8s_get ?_; omega) | (refine iS_get ?_; omega) | assumption | rfl | fail) | (apply And.intro; (first | rfl | assumption | exact Nat.le_of_ble_eq_true rfl | omega | (simp <;> fail) | (simp <;> omega) | (focus (repeat' (first | exact one_u8s _ | exact one_iS _ _ | rfl | apply one_take | apply one_drop | apply one_append)); done) | fail)) | fail)) <;> (try (conv => whnf))
      iterate 3 (refine Then.mk ?_; (repeat' ((conv => whnf); first | left | refine OpsA.cons ?_ | refine OpsA.nil ?_ | refine AWq.seq ?_ | refine AWq.region ?_ | refine AWq.cond ?_ | refine AWq.block ?_ | refine AWq.skip ?_ | refine AWq.ret ?_ | refine AWq.exit ?_ | refine AWq.loop ?_ | refine AWq.rangeFunc ?_ | refine DrawA.consD ?_ | refine DrawA.nil ?_ | refine AWq.draw (by decide +kernel) ?_ | (refine ACall.to (z1 _) ?_) | (refine ACall.to (sd _) ?_) | (apply Exists.intro; apply And.intro; exact z1 _) | (apply Exists.intro; apply And.intro; exact sd _) | (apply Exists.intro; apply Exists.intro; apply And.intro; exact z1 _) | (apply Exists.intro; apply Exists.intro; apply And.intro; exact sd _) | (refine Both.mk ?_ ?_ <;> intro hc <;> (first | exact Bool.noConfusion hc | exact absurd (by with_reducible rfl) hc | exact (hc : False).elim | exact absurd (by assumption) hc | exact absurd hc (by assumption) | (exfalso; omega) | exact absurd hc (by decide) | skip)) | (intro c hc; (try (simp only [AH.none_iff] at hc; repeat (have hn := hc.1; replace hc := hc.2))); (first | (refine i64_k hc ?_ ?_ ?_ ; omega; omega; (clear hc; intro hc; subst hc)) | (refine u64_k hc ?_ ?_ ?_ ; omega; omega; (clear hc; intro hc; subst hc)) | (refine u8_k hc ?_ ?_ ?_ ; omega; omega; (clear hc; intro hc; subst hc)) | subst hc | skip)) | (apply Exists.intro; apply And.intro; (focus (repeat (first | assumption | exact AH.set_same _ _ _ | ((first | refine AH.get_ne ?_ ?_ | refine AH.getd_ne ?_ ?_); (first | assumption | omega | exact Ne.symm (by assumption) | exact AH.ne_none (by assumption) (by assumption) | exact AH.none_ne (by assumption) (by assumption) | exact (AH.none_set (by assumption)).1 | exact Ne.symm (AH.none_set (by assumption)).1)))); done)) | (apply Exists.intro; apply And.intro; (try simp only [List.getElem?_drop, Nat.mul_one, Nat.add_zero, Nat.zero_add]); first | (refine u8s_get ?_; omega) | (refine iS_get ?_; omega) | assumption | rfl | fail) | (apply And.intro; (first | rfl | assumption | exact Nat.le_of_ble_eq_true rfl | omega | (simp <;> fail) | (simp <;> omega) | (focus (repeat' (first | exact one_u8s _ | exact one_iS _ _ | rfl | apply one_take | apply one_drop | apply one_append)); done) | fail)) | fail)) <;> (try (conv => whnf)))
      refine Then.mk (AWq.in ?_)
      refine AWp_cutd [(0, .int .i64 x0), (1, .cs (iS .i64 l1) l1.length)] rfl ⟨rfl, rfl, trivial⟩ (fun _ => rfl) (HLe.refl _) ?_
      exact tail.out
    · rw [decide_eq_false hsd] at sd
      have z1 := fun H => zig_bad x0 hx0.1 hx0.2 hsd H
      (repeat' ((conv => whnf); first | left | refine OpsA.cons ?_ | refine OpsA.nil ?_ | refine AWq.seq ?_ | refine AWq.region ?_ | refine AWq.cond ?_ | refine AWq.block ?_ | refine AWq.skip ?_ | refine AWq.ret ?_ | refine AWq.exit ?_ | refine AWq.loop ?_ | refine AWq.rangeFunc ?_ | refine DrawA.consD ?_ | refine DrawA.nil ?_ | refine AWq.draw (by decide +kernel) ?_ | (refine Both.mk ?_ ?_ <;> intro hc <;> (first | exact Bool.noConfusion hc | exact absurd (by with_reducible rfl) hc | exact (hc : False).elim | exact absurd (by assumption) hc | exact absurd hc (by assumption) | (exfalso; omega) | exact absurd hc (by decide) | skip)) | (intro c hc; (try (simp only [AH.none_iff] at hc; repeat (have hn := hc.1; replace hc := hc.2))); (first | (refine i64_k hc ?_ ?_ ?_ ; omega; omega; (clear hc; intro hc; subst hc)) | (refine u64_k hc ?_ ?_ ?_ ; omega; omega; (clear hc; intro hc; subst hc)) | (refine u8_k hc ?_ ?_ ?_ ; omega; omega; (clear hc; intro hc; subst hc)) | subst hc | skip)) | (apply Exists.intro; apply And.intro; (focus (repeat (first | assumption | exact AH.set_same _ _ _ | ((first | refine AH.get_ne ?_ ?_ | refine AH.getd_ne ?_ ?_); (first | assumption | omega | exact Ne.symm (by assumption) | exact AH.ne_none (by assumption) (by assumption) | exact AH.none_ne (by assumption) (by assumption) | exact (AH.none_set (by assumption)).1 | exact Ne.symm (AH.none_set (by assumption)).1)))); done)) | (apply Exists.intro; apply And.intro; (try simp only [List.getElem?_drop, Nat.mul_one, Nat.add_zero, Nat.zero_add]); first | (refine u8s_get ?_; omega) | (refine iS_get ?_; omega) | assumption | rfl | fail) | (apply And.intro; (first | rfl | assumption | exact Nat.le_of_ble_eq_true rfl | omega | (simp <;> fail) | (simp <;> omega) | (focus (repeat' (first | exact one_u8s _ | exact one_iS _ _ | rfl | apply one_take | apply one_drop | apply one_append)); done) | fail)) | fail)) <;> (try (conv => whnf))
      iterate 3 (refine Then.mk ?_; (repeat' ((conv => whnf); first | left | refine OpsA.cons ?_ | refine OpsA.nil ?_ | refine AWq.seq ?_ | refine AWq.region ?_ | refine AWq.cond ?_ | refine AWq.block ?_ | refine AWq.skip ?_ | refine AWq.ret ?_ | refine AWq.exit ?_ | refine AWq.loop ?_ | refine AWq.rangeFunc ?_ | refine DrawA.consD ?_ | refine DrawA.nil ?_ | refine AWq.draw (by decide +kernel) ?_ | (refine ACall.to (z1 _) ?_) | (refine ACall.to (sd _) ?_) | (apply Exists.intro; apply And.intro; exact z1 _) | (apply Exists.intro; apply And.intro; exact sd _) | (apply Exists.intro; apply Exists.intro; apply And.intro; exact z1 _) | (apply Exists.intro; apply Exists.intro; apply And.intro; exact sd _) | (refine Both.mk ?_ ?_ <;> intro hc <;> (first | exact Bool.noConfusion hc | exact absurd (by with_reducible rfl) hc | exact (hc : False).elim | exact absurd (by assumption) hc | exact absurd hc (by assumption) | (exfalso; omega) | exact absurd hc (by decide) | skip)) | (intro c hc; (try (simp only [AH.none_iff] at hc; repeat (have hn := hc.1; replace hc := hc.2))); (first | (refine i64_k hc ?_ ?_ ?_ ; omega; omega; (clear hc; intro hc; subst hc)) | (refine u64_k hc ?_ ?_ ?_ ; omega; omega; (clear hc; intro hc; subst hc)) | (refine u8_k hc ?_ ?_ ?_ ; omega; omega; (clear hc; intro hc; subst hc)) | subst hc | skip)) | (apply Exists.intro; apply And.intro; (focus (repeat (first | assumption | exact AH.set_same _ _ _ | ((first | refine AH.get_ne ?_ ?_ | refine AH.getd_ne ?_ ?_); (first | assumption | omega | exact Ne.symm (by assumption) | exact AH.ne_none (by assumption) (by assumption) | exact AH.none_ne (by assumption) (by assumption) | exact (AH.none_set (by assumption)).1 | exact Ne.symm (AH.none_set (by assumption)).1)))); done)) | (apply Exists.intro; apply And.intro; (try simp only [List.getElem?_drop, Nat.mul_one, Nat.add_zero, Nat.zero_add]); first | (refine u8s_get ?_; omega) | (refine iS_get ?_; omega) | assumption | rfl | fail) | (apply And.intro; (first | rfl | assumption | exact Nat.le_of_ble_eq_true rfl | omega | (simp <;> fail) | (simp <;> omega) | (focus (repeat' (first | exact one_u8s _ | exact one_iS _ _ | rfl | apply one_take | apply one_drop | apply one_append)); done) | fail)) | fail)) <;> (try (conv => whnf)))
      refine Then.mk (AWq.in ?_)
      refine AWp_cutd [(0, .int .i64 x0), (1, .cs (iS .i64 l1) l1.length)] rfl ⟨rfl, rfl, trivial⟩ (fun _ => rfl) (HLe.refl _) ?_
      exact tail.out
  case tl =>
  refine AWp.of tt_ok (dok _) rfl ?_
  (repeat' ((conv => whnf); first | left | refine OpsA.cons ?_ | refine OpsA.nil ?_ | refine AWq.seq ?_ | refine AWq.region ?_ | refine AWq.cond ?_ | refine AWq.block ?_ | refine AWq.skip ?_ | refine AWq.ret ?_ | refine AWq.exit ?_ | refine AWq.loop ?_ | refine AWq.rangeFunc ?_ | refine DrawA.consD ?_ | refine DrawA.nil ?_ | refine AWq.draw (by decide +kernel) ?_ | (refine ACall.to (sk _) ?_) | (apply Exists.intro; apply And.intro; exact sk _) | (apply Exists.intro; apply Exists.intro; apply And.intro; exact sk _) | (refine Both.mk ?_ ?_ <;> intro hc <;> (first | exact Bool.noConfusion hc | exact absurd (by with_reducible rfl) hc | exact (hc : False).elim | exact absurd (by assumption) hc | exact absurd hc (by assumption) | (exfalso; omega) | exact absurd hc (by decide) | skip)) | (intro c hc; (try (simp only [AH.none_iff] at hc; repeat (have hn := hc.1; replace hc := hc.2))); (first | (refine i64_k hc ?_ ?_ ?_ ; omega; omega; (clear hc; intro hc; subst hc)) | (refine u64_k hc ?_ ?_ ?_ ; omega; omega; (clear hc; intro hc; subst hc)) | (refine u8_k hc ?_ ?_ ?_ ; omega; omega; (clear hc; intro hc; subst hc)) | subst hc | skip)) | (apply Exists.intro; apply And.intro; (focus (repeat (first | assumption | exact AH.set_same _ _ _ | ((first | refine AH.get_ne ?_ ?_ | refine AH.getd_ne ?_ ?_); (first | assumption | omega | exact Ne.symm (by assumption) | exact AH.ne_none (by assumption) (by assumption) | exact AH.none_ne (by assumption) (by assumption) | exact (AH.none_set (by assumption)).1 | exact Ne.symm (AH.none_set (by assumption)).1)))); done)) | (apply Exists.intro; apply And.intro; (try simp only [List.getElem?_drop, Nat.mul_one, Nat.add_zero, Nat.zero_add]); first | (refine u8s_get ?_; omega) | (refine iS_get ?_; omega) | assumption | rfl | fail) | (apply And.intro; (first | rfl | assumption | exact Nat.le_of_ble_eq_true rfl | omega | (simp <;> fail) | (simp <;> omega) | (focus (repeat' (first | exact one_u8s _ | exact one_iS _ _ | rfl | apply one_take | apply one_drop | apply one_append)); done) | fail)) | fail)) <;> (try (conv => whnf))
  iterate 7 (refine Then.mk ?_; (repeat' ((conv => whnf); first | left | refine OpsA.cons ?_ | refine OpsA.nil ?_ | refine AWq.seq ?_ | refine AWq.region ?_ | refine AWq.cond ?_ | refine AWq.block ?_ | refine AWq.skip ?_ | refine AWq.ret ?_ | refine AWq.exit ?_ | refine AWq.loop ?_ | refine AWq.rangeFunc ?_ | refine DrawA.consD ?_ | refine DrawA.nil ?_ | refine AWq.draw (by decide +kernel) ?_ | (refine ACall.to (zk _) ?_) | (refine ACall.to (rz _) ?_) | (refine ACall.to (tz _) ?_) | (refine ACall.to (q1 _) ?_) | (refine ACall.to (f1 _) ?_) | (refine ACall.to (sk _) ?_) | (apply Exists.intro; apply And.intro; exact zk _) | (apply Exists.intro; apply And.intro; exact rz _) | (apply Exists.intro; apply And.intro; exact tz _) | (apply Exists.intro; apply And.intro; exact q1 _) | (apply Exists.intro; apply And.intro; exact f1 _) | (apply Exists.intro; apply And.intro; exact sk _) | (apply Exists.intro; apply Exists.intro; apply And.intro; exact zk _) | (apply Exists.intro; apply Exists.intro; apply And.intro; exact rz _) | (apply Exists.intro; apply Exists.intro; apply And.intro; exact tz _) | (apply Exists.intro; apply Exists.intro; apply And.intro; exact q1 _) | (apply Exists.intro; apply Exists.intro; apply And.intro; exact f1 _) | (apply Exists.intro; apply Exists.intro; apply And.intro; exact sk _) | (refine Both.mk ?_ ?_ <;> intro hc <;> (first | exact Bool.noConfusion hc | exact absurd (by with_reducible rfl) hc | exact (hc : False).elim | exact absurd (by assumption) hc | exact absurd hc (by assumption) | (exfalso; omega) | exact absurd hc (by decide) | skip)) | (intro c hc; (try (simp only [AH.none_iff] at hc; repeat (have hn := hc.1; replace hc := hc.2))); (first | (refine i64_k hc ?_ ?_ ?_ ; omega; omega; (clear hc; intro hc; subst hc)) | (refine u64_k hc ?_ ?_ ?_ ; omega; omega; (clear hc; intro hc; subst hc)) | (refine u8_k hc ?_ ?_ ?_ ; omega; omega; (clear hc; intro hc; subst hc)) | subst hc | skip)) | (apply Exists.intro; apply And.intro; (focus (repeat (first | assumption | exact AH.set_same _ _ _ | ((first | refine AH.get_ne ?_ ?_ | refine AH.getd_ne ?_ ?_); (first | assumption | omega | exact Ne.symm (by assumption) | exact AH.ne_none (by assumption) (by assumption) | exact AH.none_ne (by assumption) (by assumption) | exact (AH.none_set (by assumption)).1 | exact Ne.symm (AH.none_set (by assumption)).1)))); done)) | (apply Exists.intro; apply And.intro; (try simp only [List.getElem?_drop, Nat.mul_one, Nat.add_zero, Nat.zero_add]); first | (refine u8s_get ?_; omega) | (refine iS_get ?_; omega) | assumption | rfl | fail) | (apply And.intro; (first | rfl | assumption | exact Nat.le_of_ble_eq_true rfl | omega | (simp <;> fail) | (simp <;> omega) | (focus (repeat' (first | exact one_u8s _ | exact one_iS _ _ | rfl | apply one_take | apply one_drop | apply one_append)); done) | fail)) | fail)) <;> (try (conv => whnf)))
  refine Then.mk (AWq.in ?_)
  have hcc : H0 c = none := by assumption
  obtain ⟨w, hw⟩ : ∃ w, w = c := ⟨_, rfl⟩
  rw [← hw] at hcc
  refine AWp_cutd (H2 := AH.set H0 w (.row [.nils] 0)) [(7, .int .i64 S), (8, .cs (iS .i64 z) z.length), (10, .cs (iS .i64 X) X.length), (12, .ptr w 0 0)] rfl ⟨rfl, rfl, rfl, by rw [hw]; rfl, trivial⟩ (fun _ => rfl) (by rw [hw]; exact HLe.refl _) ?_
  clear hw
  refine AWp_writer hcc fun r hwr hr => ?_
  refine AWp.of tt_ok (dok _) rfl ?_
  (repeat' ((conv => whnf); first | refine Then.mk ?_ | left | refine OpsA.cons ?_ | refine OpsA.nil ?_ | refine AWq.seq ?_ | refine AWq.region ?_ | refine AWq.cond ?_ | refine AWq.block ?_ | refine AWq.skip ?_ | refine AWq.ret ?_ | refine AWq.exit ?_ | refine AWq.loop ?_ | refine AWq.rangeFunc ?_ | refine DrawA.consD ?_ | refine DrawA.nil ?_ | refine AWq.draw (by decide +kernel) ?_ | (refine Both.mk ?_ ?_ <;> intro hc <;> (first | exact Bool.noConfusion hc | exact absurd (by with_reducible rfl) hc | exact (hc : False).elim | exact absurd (by assumption) hc | exact absurd hc (by assumption) | (exfalso; omega) | exact absurd hc (by decide) | skip)) | (intro c hc; (try (simp only [AH.none_iff] at hc; repeat (have hn := hc.1; replace hc := hc.2))); (first | (refine i64_k hc ?_ ?_ ?_ ; omega; omega; (clear hc; intro hc; subst hc)) | (refine u64_k hc ?_ ?_ ?_ ; omega; omega; (clear hc; intro hc; subst hc)) | (refine u8_k hc ?_ ?_ ?_ ; omega; omega; (clear hc; intro hc; subst hc)) | subst hc | skip)) | (apply Exists.intro; apply And.intro; (focus (repeat (first | assumption | exact AH.set_same _ _ _ | ((first | refine AH.get_ne ?_ ?_ | refine AH.getd_ne ?_ ?_); (first | assumption | omega | exact Ne.symm (by assumption) | exact AH.ne_none (by assumption) (by assumption) | exact AH.none_ne (by assumption) (by assumption) | exact (AH.none_set (by assumption)).1 | exact Ne.symm (AH.none_set (by assumption)).1)))); done)) | (apply Exists.intro; apply And.intro; (try simp only [List.getElem?_drop, Nat.mul_one, Nat.add_zero, Nat.zero_add]); first | (refine u8s_get ?_; omega) | (refine iS_get ?_; omega) | assumption | rfl | fail) | (apply And.intro; (first | rfl | assumption | exact Nat.le_of_ble_eq_true rfl | omega | (simp <;> fail) | (simp <;> omega) | (focus (repeat' (first | exact one_u8s _ | exact one_iS _ _ | rfl | apply one_take | apply one_drop | apply one_append)); done) | fail)) | fail)) <;> (try (conv => whnf))
  refine AWp_loop (σ := Nat × Nat) (13 :: 70 :: 71 :: 72 :: 73 :: 74 :: 75 :: 76 :: 77 :: 78 :: 79 :: 80 :: 81 :: 82 :: 83 :: []) (fun (i, v) => [(13, .int .i64 i)]) (fun (i, v) => WrH H0 w r v (encIs (L.take i))) (fun (i, v) => i ≤ S * S) (fun (i, v) => S * S - i) (0, 0) rfl ?_ ?_ ?_ ?_
  · exact Nat.zero_le _
  · exact ⟨rfl, trivial⟩
  · exact HLe.refl _
  · rintro ⟨i, v⟩ hi
    dsimp only at hi ⊢
    refine AWp.of tt_ok (dok _) rfl ?_
    have hzl := hz.len
    by_cases hil : i < S * S
    · obtain ⟨p, hp, hzp, hLp, hnm, htk⟩ := hzi i hil
      have hxp := hxb p
      have hil2 : i < L.length := by omega
      have hLi2 : L[i] = X.getD p 0 := by rw [List.getElem?_eq_getElem hil2] at hLp; exact Option.some.inj hLp
      have hle := hel i
      have hwc := wInt_c w r v (encIs (L.take i)) (X.getD p 0) (by unfold I64; omega) (by omega) H0 hwr
      rw [← hLi2, ← encIs_take hil2, hLi2] at hwc
      have hpz : (z.getD (i : Int).toNat 0).toNat = p := by rw [hzp]; rfl
      rw [← hpz] at hwc
      have hsX : (iS .i64 X).length = X.length := iS_length _ _
      (repeat' ((conv => whnf); first | refine Then.mk ?_ | left | refine OpsA.cons ?_ | refine OpsA.nil ?_ | refine AWq.seq ?_ | refine AWq.region ?_ | refine AWq.cond ?_ | refine AWq.block ?_ | refine AWq.skip ?_ | refine AWq.ret ?_ | refine AWq.exit ?_ | refine AWq.loop ?_ | refine AWq.rangeFunc ?_ | refine DrawA.consD ?_ | refine DrawA.nil ?_ | refine AWq.draw (by decide +kernel) ?_ | (refine Both.mk ?_ ?_ <;> intro hc <;> (first | exact Bool.noConfusion hc | exact absurd (by with_reducible rfl) hc | exact (hc : False).elim | exact absurd (by assumption) hc | exact absurd hc (by assumption) | (exfalso; omega) | exact absurd hc (by decide) | skip)) | (intro c hc; (try (simp only [AH.none_iff] at hc; repeat (have hn := hc.1; replace hc := hc.2))); (first | (refine i64_k hc ?_ ?_ ?_ ; omega; omega; (clear hc; intro hc; subst hc)) | (refine u64_k hc ?_ ?_ ?_ ; omega; omega; (clear hc; intro hc; subst hc)) | (refine u8_k hc ?_ ?_ ?_ ; omega; omega; (clear hc; intro hc; subst hc)) | subst hc | skip)) | (apply Exists.intro; apply And.intro; (focus (repeat (first | assumption | exact AH.set_same _ _ _ | ((first | refine AH.get_ne ?_ ?_ | refine AH.getd_ne ?_ ?_); (first | assumption | omega | exact Ne.symm (by assumption) | exact AH.ne_none (by assumption) (by assumption) | exact AH.none_ne (by assumption) (by assumption) | exact (AH.none_set (by assumption)).1 | exact Ne.symm (AH.none_set (by assumption)).1)))); done)) | (apply Exists.intro; apply And.intro; (try simp only [List.getElem?_drop, Nat.mul_one, Nat.add_zero, Nat.zero_add]); first | (refine u8s_get ?_; omega) | (refine iS_get ?_; omega) | assumption | rfl | fail) | (apply And.intro; (first | rfl | assumption | exact Nat.le_of_ble_eq_true rfl | omega | (simp <;> fail) | (simp <;> omega) | (focus (repeat' (first | exact one_u8s _ | exact one_iS _ _ | rfl | apply one_take | apply one_drop | apply one_append)); done) | fail)) | fail)) <;> (try (conv => whnf))
      refine hwc.mono ?_
      rintro y H' ⟨rfl, v', rfl⟩
      (repeat' ((conv => whnf); first | refine Then.mk ?_ | left | refine OpsA.cons ?_ | refine OpsA.nil ?_ | refine AWq.seq ?_ | refine AWq.region ?_ | refine AWq.cond ?_ | refine AWq.block ?_ | refine AWq.skip ?_ | refine AWq.ret ?_ | refine AWq.exit ?_ | refine AWq.loop ?_ | refine AWq.rangeFunc ?_ | refine DrawA.consD ?_ | refine DrawA.nil ?_ | refine AWq.draw (by decide +kernel) ?_ | (refine Both.mk ?_ ?_ <;> intro hc <;> (first | exact Bool.noConfusion hc | exact absurd (by with_reducible rfl) hc | exact (hc : False).elim | exact absurd (by assumption) hc | exact absurd hc (by assumption) | (exfalso; omega) | exact absurd hc (by decide) | skip)) | (intro c hc; (try (simp only [AH.none_iff] at hc; repeat (have hn := hc.1; replace hc := hc.2))); (first | (refine i64_k hc ?_ ?_ ?_ ; omega; omega; (clear hc; intro hc; subst hc)) | (refine u64_k hc ?_ ?_ ?_ ; omega; omega; (clear hc; intro hc; subst hc)) | (refine u8_k hc ?_ ?_ ?_ ; omega; omega; (clear hc; intro hc; subst hc)) | subst hc | skip)) | (apply Exists.intro; apply And.intro; (focus (repeat (first | assumption | exact AH.set_same _ _ _ | ((first | refine AH.get_ne ?_ ?_ | refine AH.getd_ne ?_ ?_); (first | assumption | omega | exact Ne.symm (by assumption) | exact AH.ne_none (by assumption) (by assumption) | exact AH.none_ne (by assumption) (by assumption) | exact (AH.none_set (by assumption)).1 | exact Ne.symm (AH.none_set (by assumption)).1)))); done)) | (apply Exists.intro; apply And.intro; (try simp only [List.getElem?_drop, Nat.mul_one, Nat.add_zero, Nat.zero_add]); first | (refine u8s_get ?_; omega) | (refine iS_get ?_; omega) | assumption | rfl | fail) | (apply And.intro; (first | rfl | assumption | exact Nat.le_of_ble_eq_true rfl | omega | (simp <;> fail) | (simp <;> omega) | (focus (repeat' (first | exact one_u8s _ | exact one_iS _ _ | rfl | apply one_take | apply one_drop | apply one_append)); done) | fail)) | fail)) <;> (try (conv => whnf))
      exact ⟨(i + 1, v'), by show i + 1 ≤ S * S; omega, by show S * S - (i + 1) < S * S - i; omega, ⟨congrArg (AV.int .i64) (by omega), trivial⟩, HLe.refl _⟩
    · have hie : i = L.length := by omega
      have hLL : L.take i = L := List.take_of_length_le (by omega)
      rw [hLL]
      have hb0 := hel L.length
      rw [List.take_length] at hb0
      have hd := wDone_c w r v (encIs L) (by omega) H0 hwr
      (repeat' ((conv => whnf); first | refine Then.mk ?_ | left | refine OpsA.cons ?_ | refine OpsA.nil ?_ | refine AWq.seq ?_ | refine AWq.region ?_ | refine AWq.cond ?_ | refine AWq.block ?_ | refine AWq.skip ?_ | refine AWq.ret ?_ | refine AWq.exit ?_ | refine AWq.loop ?_ | refine AWq.rangeFunc ?_ | refine DrawA.consD ?_ | refine DrawA.nil ?_ | refine AWq.draw (by decide +kernel) ?_ | (refine ACall.to (hd) ?_) | (apply Exists.intro; apply And.intro; exact hd) | (apply Exists.intro; apply Exists.intro; apply And.intro; exact hd) | (refine Both.mk ?_ ?_ <;> intro hc <;> (first | exact Bool.noConfusion hc | exact absurd (by with_reducible rfl) hc | exact (hc : False).elim | exact absurd (by assumption) hc | exact absurd hc (by assumption) | (exfalso; omega) | exact absurd hc (by decide) | skip)) | (intro c hc; (try (simp only [AH.none_iff] at hc; repeat (have hn := hc.1; replace hc := hc.2))); (first | (refine i64_k hc ?_ ?_ ?_ ; omega; omega; (clear hc; intro hc; subst hc)) | (refine u64_k hc ?_ ?_ ?_ ; omega; omega; (clear hc; intro hc; subst hc)) | (refine u8_k hc ?_ ?_ ?_ ; omega; omega; (clear hc; intro hc; subst hc)) | subst hc | skip)) | (apply Exists.intro; apply And.intro; (focus (repeat (first | assumption | exact AH.set_same _ _ _ | ((first | refine AH.get_ne ?_ ?_ | refine AH.getd_ne ?_ ?_); (first | assumption | omega | exact Ne.symm (by assumption) | exact AH.ne_none (by assumption) (by assumption) | exact AH.none_ne (by assumption) (by assumption) | exact (AH.none_set (by assumption)).1 | exact Ne.symm (AH.none_set (by assumption)).1)))); done)) | (apply Exists.intro; apply And.intro; (try simp only [List.getElem?_drop, Nat.mul_one, Nat.add_zero, Nat.zero_add]); first | (refine u8s_get ?_; omega) | (refine iS_get ?_; omega) | assumption | rfl | fail) | (apply And.intro; (first | rfl | assumption | exact Nat.le_of_ble_eq_true rfl | omega | (simp <;> fail) | (simp <;> omega) | (focus (repeat' (first | exact one_u8s _ | exact one_iS _ _ | rfl | apply one_take | apply one_drop | apply one_append)); done) | fail)) | fail)) <;> (try (conv => whnf))
      refine ACall.less (HLe.set_of _ _ (HLe.set_of _ _ (HLe.refl _) hcc) hr) ((Read_c (encIs L) (by omega) H0).mono ?_)
      rintro y H' ⟨p, hp, rfl, rfl⟩
      (repeat' ((conv => whnf); first | refine Then.mk ?_ | left | refine OpsA.cons ?_ | refine OpsA.nil ?_ | refine AWq.seq ?_ | refine AWq.region ?_ | refine AWq.cond ?_ | refine AWq.block ?_ | refine AWq.skip ?_ | refine AWq.ret ?_ | refine AWq.exit ?_ | refine AWq.loop ?_ | refine AWq.rangeFunc ?_ | refine DrawA.consD ?_ | refine DrawA.nil ?_ | refine AWq.draw (by decide +kernel) ?_ | (refine Both.mk ?_ ?_ <;> intro hc <;> (first | exact Bool.noConfusion hc | exact absurd (by with_reducible rfl) hc | exact (hc : False).elim | exact absurd (by assumption) hc | exact absurd hc (by assumption) | (exfalso; omega) | exact absurd hc (by decide) | skip)) | (intro c hc; (try (simp only [AH.none_iff] at hc; repeat (have hn := hc.1; replace hc := hc.2))); (first | (refine i64_k hc ?_ ?_ ?_ ; omega; omega; (clear hc; intro hc; subst hc)) | (refine u64_k hc ?_ ?_ ?_ ; omega; omega; (clear hc; intro hc; subst hc)) | (refine u8_k hc ?_ ?_ ?_ ; omega; omega; (clear hc; intro hc; subst hc)) | subst hc | skip)) | (apply Exists.intro; apply And.intro; (focus (repeat (first | assumption | exact AH.set_same _ _ _ | ((first | refine AH.get_ne ?_ ?_ | refine AH.getd_ne ?_ ?_); (first | assumption | omega | exact Ne.symm (by assumption) | exact AH.ne_none (by assumption) (by assumption) | exact AH.none_ne (by assumption) (by assumption) | exact (AH.none_set (by assumption)).1 | exact Ne.symm (AH.none_set (by assumption)).1)))); done)) | (apply Exists.intro; apply And.intro; (try simp only [List.getElem?_drop, Nat.mul_one, Nat.add_zero, Nat.zero_add]); first | (refine u8s_get ?_; omega) | (refine iS_get ?_; omega) | assumption | rfl | fail) | (apply And.intro; (first | rfl | assumption | exact Nat.le_of_ble_eq_true rfl | omega | (simp <;> fail) | (simp <;> omega) | (focus (repeat' (first | exact one_u8s _ | exact one_iS _ _ | rfl | apply one_take | apply one_drop | apply one_append)); done) | fail)) | fail)) <;> (try (conv => whnf))
      rename_i c1 h1
      have hcp : c ≠ p := fun e => by rw [e] at hc; unfold RdH at hc; rw [AH.set_same] at hc; cases hc
      have hc1p : c1 ≠ p := fun e => by rw [e] at h1; unfold RdH at h1; rw [AH.set_same] at h1; cases h1
      have hcc1 : c ≠ c1 := by assumption
      have hc0 : H0 c = none := by unfold RdH at hc; rw [AH.set_ne _ _ hcp] at hc; exact hc
      have hc10 : H0 c1 = none := by unfold RdH at h1; rw [AH.set_ne _ _ hc1p] at h1; exact h1
      obtain ⟨q2, hq2⟩ : ∃ q2, q2 = c := ⟨_, rfl⟩
      obtain ⟨q1, hq1⟩ : ∃ q1, q1 = c1 := ⟨_, rfl⟩
      rw [← hq2] at hcp hcc1 hc0
      rw [← hq1] at hc1p hcc1 hc10
      have hnn : ((S : Int) * S).toNat = S * S := by omega
      obtain ⟨cz, hcz⟩ : ∃ cz, cz = iS .i64 z := ⟨_, rfl⟩
      have lcz : cz.length = z.length := by rw [hcz]; exact iS_length _ _
      obtain ⟨g, hg⟩ : ∃ g : Nat → Nat → Bool, g = fun (i p : Nat) => decide (((p : Nat) : Int) ∈ z.take i) := ⟨_, rfl⟩
      obtain ⟨f, hf⟩ : ∃ f : Nat → Ln, f = fun (i p : Nat) => if ((p : Nat) : Int) ∈ z.take i then X.getD p 0 else 0 := ⟨_, rfl⟩
      refine AWp_cutd (H2 := RdH ((AH.set H0 q1 (.row (bL (S * S) (g 0)) 0)).set q2 (.row (iL (S * S) (f 0)) 0)) p 0 (encIs L)) [(7, .int .i64 S), (8, .cs cz z.length), (10, .cs (iS .i64 X) X.length), (14, .ptr p 0 0), (15, .sl q1 0 1 0 (S * S) none), (16, .sl q2 0 1 0 X.length none), (17, .int .i64 0)] rfl ⟨rfl, by rw [hcz]; rfl, rfl, rfl, ?_, ?_, rfl, trivial⟩ (fun _ => rfl) (HLe.of_eq ?_) ?_
      · rw [hq1, ← hnn]; rfl
      · rw [hq2, lX, ← hnn]; rfl
      · have e1 : bL (S * S) (g 0) = (List.replicate ((S : Int) * S).toNat [AV.bool false]).flatten := by
          rw [hnn, bL_zero, hg]
          refine List.map_congr_left fun p _ => ?_
          simp
        have e2 : iL (S * S) (f 0) = (List.replicate ((S : Int) * S).toNat [AV.int .i64 0]).flatten := by
          rw [hnn, iL_zero, hf]
          refine iL_congr fun p _ => ?_
          simp
        rw [e1, e2, hq1, hq2]
        rw [hq2] at hcp hcc1
        rw [hq1] at hc1p hcc1
        unfold RdH
        ((funext s; simp only [AH.set, AH.del]; repeat' split) <;> (first | rfl | (exfalso; omega)))
      clear hq1 hq2 hc h1
      refine AWp_loop (σ := Nat) (4 :: 17 :: 96 :: 97 :: 98 :: 99 :: 100 :: 101 :: 102 :: 103 :: 104 :: 105 :: 106 :: 107 :: 108 :: 109 :: 110 :: 111 :: 112 :: 113 :: 114 :: 115 :: 116 :: 117 :: 118 :: 119 :: 120 :: 121 :: 122 :: []) (fun i => [(17, .int .i64 i)]) (fun i => RdH ((AH.set H0 q1 (.row (bL (S * S) (g i)) 0)).set q2 (.row (iL (S * S) (f i)) 0)) p 0 (encIs (L.drop i))) (fun i => i ≤ S * S) (fun i => S * S - i) 0 rfl ?_ ?_ ?_ ?_
      · exact Nat.zero_le _
      · exact ⟨rfl, trivial⟩
      · rw [List.drop_zero]; exact HLe.refl _
      · rintro i hi
        refine AWp.of tt_ok (dok _) rfl ?_
        by_cases hil : i < S * S
        · obtain ⟨m, hm, hzm, hLm, hnm, htk⟩ := hzi i hil
          have hil2 : i < L.length := by omega
          have hLi2 : L[i] = X.getD m 0 := by rw [List.getElem?_eq_getElem hil2] at hLm; exact Option.some.inj hLm
          have hxm := hxb m
          have hgm : g i m = false := by rw [hg]; exact decide_eq_false hnm
          have hil3 : i < z.length := by omega
          have gz : cz[(i : Int).toNat]? = some (.int .i64 (m : Int)) := by
            rw [hcz]
            exact (iS_get (i := (i : Int).toNat) (by rw [Int.toNat_natCast]; exact hil3)).trans (congrArg (fun x => some (AV.int .i64 x)) hzm)
          have hg1 : g (i + 1) = fun k => if k = m then true else g i k := by
            funext k
            rw [hg]
            dsimp only
            by_cases e : k = m
            · subst e; rw [if_pos rfl, htk]; simp
            · rw [if_neg e, htk]
              have : ¬ (k : Int) = (m : Int) := by omega
              simp [this]
          have hf1 : f (i + 1) = fun k => if k = m then X.getD m 0 else f i k := by
            funext k
            rw [hf]
            dsimp only
            by_cases e : k = m
            · subst e; rw [if_pos rfl, if_pos (by rw [htk]; simp)]
            · rw [if_neg e]
              have hne : ¬ (k : Int) = (m : Int) := by omega
              have : (k : Int) ∈ z.take (i + 1) ↔ (k : Int) ∈ z.take i := by rw [htk]; simp [hne]
              by_cases hk' : (k : Int) ∈ z.take i
              · rw [if_pos (this.2 hk'), if_pos hk']
              · rw [if_neg (fun h => hk' (this.1 h)), if_neg hk']
          obtain ⟨cb, hcb⟩ : ∃ cb, cb = bL (S * S) (g i) := ⟨_, rfl⟩
          have lcb : cb.length = S * S := by rw [hcb]; exact bL_len _ _
          have gcb : cb[(m : Int).toNat]? = some (.bool false) := by rw [hcb, Int.toNat_natCast, ← hgm]; exact bL_get _ hm
          obtain ⟨ci, hci⟩ : ∃ ci, ci = iL (S * S) (f i) := ⟨_, rfl⟩
          have lci : ci.length = S * S := by rw [hci]; exact iL_len _ _
          rw [← hcb, ← hci]
          (repeat' ((conv => whnf); first | left | refine OpsA.cons ?_ | refine OpsA.nil ?_ | refine AWq.seq ?_ | refine AWq.region ?_ | refine AWq.cond ?_ | refine AWq.block ?_ | refine AWq.skip ?_ | refine AWq.ret ?_ | refine AWq.exit ?_ | refine AWq.loop ?_ | refine AWq.rangeFunc ?_ | refine DrawA.consD ?_ | refine DrawA.nil ?_ | refine AWq.draw (by decide +kernel) ?_ | (refine Both.mk ?_ ?_ <;> intro hc <;> (first | exact Bool.noConfusion hc | exact absurd (by with_reducible rfl) hc | exact (hc : False).elim | exact absurd (by assumption) hc | exact absurd hc (by assumption) | (exfalso; omega) | exact absurd hc (by decide) | skip)) | (intro c hc; (try (simp only [AH.none_iff] at hc; repeat (have hn := hc.1; replace hc := hc.2))); (first | (refine i64_k hc ?_ ?_ ?_ ; omega; omega; (clear hc; intro hc; subst hc)) | (refine u64_k hc ?_ ?_ ?_ ; omega; omega; (clear hc; intro hc; subst hc)) | (refine u8_k hc ?_ ?_ ?_ ; omega; omega; (clear hc; intro hc; subst hc)) | subst hc | skip)) | (apply Exists.intro; apply And.intro; (focus (repeat (first | assumption | exact AH.set_same _ _ _ | ((first | refine AH.get_ne ?_ ?_ | refine AH.getd_ne ?_ ?_); (first | assumption | omega | exact Ne.symm (by assumption) | exact AH.ne_none (by assumption) (by assumption) | exact AH.none_ne (by assumption) (by assumption) | exact (AH.none_set (by assumption)).1 | exact Ne.symm (AH.none_set (by assumption)).1)))); done)) | (apply Exists.intro; apply And.intro; (try simp only [List.getElem?_drop, Nat.mul_one, Nat.add_zero, Nat.zero_add]); first | (refine u8s_get ?_; omega) | (refine iS_get ?_; omega) | assumption | rfl | fail) | (apply And.intro; (first | rfl | assumption | exact Nat.le_of_ble_eq_true rfl | omega | (simp <;> fail) | (simp <;> omega) | (focus (repeat' (first | exact one_u8s _ | exact one_iS _ _ | rfl | apply one_take | apply one_drop | apply one_append)); done) | fail)) | fail)) <;> (try (conv => whnf))
          iterate 4 (refine Then.mk ?_; (repeat' ((conv => whnf); first | left | refine OpsA.cons ?_ | refine OpsA.nil ?_ | refine AWq.seq ?_ | refine AWq.region ?_ | refine AWq.cond ?_ | refine AWq.block ?_ | refine AWq.skip ?_ | refine AWq.ret ?_ | refine AWq.exit ?_ | refine AWq.loop ?_ | refine AWq.rangeFunc ?_ | refine DrawA.consD ?_ | refine DrawA.nil ?_ | refine AWq.draw (by decide +kernel) ?_ | (refine Both.mk ?_ ?_ <;> intro hc <;> (first | exact Bool.noConfusion hc | exact absurd (by with_reducible rfl) hc | exact (hc : False).elim | exact absurd (by assumption) hc | exact absurd hc (by assumption) | (exfalso; omega) | exact absurd hc (by decide) | skip)) | (intro c hc; (try (simp only [AH.none_iff] at hc; repeat (have hn := hc.1; replace hc := hc.2))); (first | (refine i64_k hc ?_ ?_ ?_ ; omega; omega; (clear hc; intro hc; subst hc)) | (refine u64_k hc ?_ ?_ ?_ ; omega; omega; (clear hc; intro hc; subst hc)) | (refine u8_k hc ?_ ?_ ?_ ; omega; omega; (clear hc; intro hc; subst hc)) | subst hc | skip)) | (apply Exists.intro; apply And.intro; (focus (repeat (first | assumption | exact AH.set_same _ _ _ | ((first | refine AH.get_ne ?_ ?_ | refine AH.getd_ne ?_ ?_); (first | assumption | omega | exact Ne.symm (by assumption) | exact AH.ne_none (by assumption) (by assumption) | exact AH.none_ne (by assumption) (by assumption) | exact (AH.none_set (by assumption)).1 | exact Ne.symm (AH.none_set (by assumption)).1)))); done)) | (apply Exists.intro; apply And.intro; (try simp only [List.getElem?_drop, Nat.mul_one, Nat.add_zero, Nat.zero_add]); first | (refine u8s_get ?_; omega) | (refine iS_get ?_; omega) | assumption | rfl | fail) | (apply And.intro; (first | rfl | assumption | exact Nat.le_of_ble_eq_true rfl | omega | (simp <;> fail) | (simp <;> omega) | (focus (repeat' (first | exact one_u8s _ | exact one_iS _ _ | rfl | apply one_take | apply one_drop | apply one_append)); done) | fail)) | fail)) <;> (try (conv => whnf)))
          refine Then.mk (AWq.in ?_)
          have hm1 : 0 + ((m : Nat) : Int).toNat * 1 = m := by omega
          have wcb : wrA cb (0 + ((m : Nat) : Int).toNat * 1) [.bool true] = bL (S * S) (g (i + 1)) := by rw [hm1, hcb, bL_wr _ hm, hg1]
          refine AWp_less (RdH ((AH.set H0 q1 (.row (bL (S * S) (g (i + 1))) 0)).set q2 (.row ci 0)) p 0 (encIs (L.drop i))) (HLe.of_eq ?_) ?_
          · rw [← wcb]
            unfold RdH
            have n1 : p ≠ q1 := Ne.symm hc1p
            have n2 : p ≠ q2 := Ne.symm hcp
            ((funext s; simp only [AH.set, AH.del]; repeat' split) <;> (first | rfl | (exfalso; omega)))
          have hrd : rdI (0, encIs (L.drop i)) = (X.getD m 0, (0, encIs (L.drop (i + 1)))) := by
            rw [encIs_drop hil2, hLi2]
            exact rdI_enc (by unfold I64; omega) _
          have hed' := hed i
          have hI := rInt_ok p (by omega) hrd ((AH.set H0 q1 (.row (bL (S * S) (g (i + 1))) 0)).set q2 (.row ci 0))
          refine AWp.of tt_ok (dok _) rfl ?_
          (repeat' ((conv => whnf); first | refine AWq.drawM ([121], [119]) (by decide +kernel) ?_ | refine Then.mk ?_ | left | refine OpsA.cons ?_ | refine OpsA.nil ?_ | refine AWq.seq ?_ | refine AWq.region ?_ | refine AWq.cond ?_ | refine AWq.block ?_ | refine AWq.skip ?_ | refine AWq.ret ?_ | refine AWq.exit ?_ | refine AWq.loop ?_ | refine AWq.rangeFunc ?_ | refine DrawA.consD ?_ | refine DrawA.nil ?_ | refine AWq.draw (by decide +kernel) ?_ | (refine ACall.to (hI) ?_) | (apply Exists.intro; apply And.intro; exact hI) | (apply Exists.intro; apply Exists.intro; apply And.intro; exact hI) | (refine Both.mk ?_ ?_ <;> intro hc <;> (first | exact Bool.noConfusion hc | exact absurd (by with_reducible rfl) hc | exact (hc : False).elim | exact absurd (by assumption) hc | exact absurd hc (by assumption) | (exfalso; omega) | exact absurd hc (by decide) | skip)) | (intro c hc; (try (simp only [AH.none_iff] at hc; repeat (have hn := hc.1; replace hc := hc.2))); (first | (refine i64_k hc ?_ ?_ ?_ ; omega; omega; (clear hc; intro hc; subst hc)) | (refine u64_k hc ?_ ?_ ?_ ; omega; omega; (clear hc; intro hc; subst hc)) | (refine u8_k hc ?_ ?_ ?_ ; omega; omega; (clear hc; intro hc; subst hc)) | subst hc | skip)) | (apply Exists.intro; apply And.intro; (focus (repeat (first | assumption | exact AH.set_same _ _ _ | ((first | refine AH.get_ne ?_ ?_ | refine AH.getd_ne ?_ ?_); (first | assumption | omega | exact Ne.symm (by assumption) | exact AH.ne_none (by assumption) (by assumption) | exact AH.none_ne (by assumption) (by assumption) | exact (AH.none_set (by assumption)).1 | exact Ne.symm (AH.none_set (by assumption)).1)))); done)) | (apply Exists.intro; apply And.intro; (try simp only [List.getElem?_drop, Nat.mul_one, Nat.add_zero, Nat.zero_add]); first | (refine u8s_get ?_; omega) | (refine iS_get ?_; omega) | assumption | rfl | fail) | (apply And.intro; (first | rfl | assumption | exact Nat.le_of_ble_eq_true rfl | omega | (simp <;> fail) | (simp <;> omega) | (focus (repeat' (first | exact one_u8s _ | exact one_iS _ _ | rfl | apply one_take | apply one_drop | apply one_append)); done) | fail)) | fail)) <;> (try (conv => whnf))
          have wci : wrA ci (0 + ((m : Nat) : Int).toNat * 1) [.int .i64 (X.getD m 0)] = iL (S * S) (f (i + 1)) := by rw [hm1, hci, iL_wr _ hm, hf1]
          refine ⟨i + 1, by omega, by omega, ⟨congrArg (AV.int .i64) (by omega), trivial⟩, HLe.of_eq ?_⟩
          rw [← wci]
          unfold RdH
          have n2 : p ≠ q2 := Ne.symm hcp
          ((funext s; simp only [AH.set, AH.del]; repeat' split) <;> (first | rfl | (exfalso; omega)))
        · have hie2 : i = S * S := by omega
          have hd0 : encIs (L.drop i) = [] := by rw [List.drop_of_length_le (by omega)]; rfl
          have htz : z.take i = z := List.take_of_length_le (by omega)
          have hfi : iL (S * S) (f i) = iS .i64 X := by
            have : iL (S * S) (f i) = iL (S * S) (fun p => X.getD p 0) := iL_congr fun p hp => by
              rw [hf]
              dsimp only
              rw [htz, if_pos (hz.all p hp)]
            rw [this, ← lX]
            exact congrArg (iS .i64) (lnL_of X)
          rw [hd0, hfi]
          have hE := rEnd_c p 0 [] ((AH.set H0 q1 (.row (bL (S * S) (g i)) 0)).set q2 (.row (iS .i64 X) 0))
          rw [canon_ok] at hE
          (repeat' ((conv => whnf); first | refine Then.mk ?_ | left | refine OpsA.cons ?_ | refine OpsA.nil ?_ | refine AWq.seq ?_ | refine AWq.region ?_ | refine AWq.cond ?_ | refine AWq.block ?_ | refine AWq.skip ?_ | refine AWq.ret ?_ | refine AWq.exit ?_ | refine AWq.loop ?_ | refine AWq.rangeFunc ?_ | refine DrawA.consD ?_ | refine DrawA.nil ?_ | refine AWq.draw (by decide +kernel) ?_ | (refine ACall.to (hE) ?_) | (apply Exists.intro; apply And.intro; exact hE) | (apply Exists.intro; apply Exists.intro; apply And.intro; exact hE) | (refine Both.mk ?_ ?_ <;> intro hc <;> (first | exact Bool.noConfusion hc | exact absurd (by with_reducible rfl) hc | exact (hc : False).elim | exact absurd (by assumption) hc | exact absurd hc (by assumption) | (exfalso; omega) | exact absurd hc (by decide) | skip)) | (intro c hc; (try (simp only [AH.none_iff] at hc; repeat (have hn := hc.1; replace hc := hc.2))); (first | (refine i64_k hc ?_ ?_ ?_ ; omega; omega; (clear hc; intro hc; subst hc)) | (refine u64_k hc ?_ ?_ ?_ ; omega; omega; (clear hc; intro hc; subst hc)) | (refine u8_k hc ?_ ?_ ?_ ; omega; omega; (clear hc; intro hc; subst hc)) | subst hc | skip)) | (apply Exists.intro; apply And.intro; (focus (repeat (first | assumption | exact AH.set_same _ _ _ | ((first | refine AH.get_ne ?_ ?_ | refine AH.getd_ne ?_ ?_); (first | assumption | omega | exact Ne.symm (by assumption) | exact AH.ne_none (by assumption) (by assumption) | exact AH.none_ne (by assumption) (by assumption) | exact (AH.none_set (by assumption)).1 | exact Ne.symm (AH.none_set (by assumption)).1)))); done)) | (apply Exists.intro; apply And.intro; (try simp only [List.getElem?_drop, Nat.mul_one, Nat.add_zero, Nat.zero_add]); first | (refine u8s_get ?_; omega) | (refine iS_get ?_; omega) | assumption | rfl | fail) | (apply And.intro; (first | rfl | assumption | exact Nat.le_of_ble_eq_true rfl | omega | (simp <;> fail) | (simp <;> omega) | (focus (repeat' (first | exact one_u8s _ | exact one_iS _ _ | rfl | apply one_take | apply one_drop | apply one_append)); done) | fail)) | fail)) <;> (try (conv => whnf))
          refine ACall.frz (pre := [.cs (iS .i64 X) X.length]) (post := []) (n := X.length) (cells := iS .i64 X) ?_ (by simp) ?_
          · unfold RdH
            (focus (repeat (first | assumption | exact AH.set_same _ _ _ | ((first | refine AH.get_ne ?_ ?_ | refine AH.getd_ne ?_ ?_); (first | assumption | omega | exact Ne.symm (by assumption) | exact AH.ne_none (by assumption) (by assumption) | exact AH.none_ne (by assumption) (by assumption) | exact (AH.none_set (by assumption)).1 | exact Ne.symm (AH.none_set (by assumption)).1)))); done)
          (repeat' ((conv => whnf); first | refine Then.mk ?_ | left | refine OpsA.cons ?_ | refine OpsA.nil ?_ | refine AWq.seq ?_ | refine AWq.region ?_ | refine AWq.cond ?_ | refine AWq.block ?_ | refine AWq.skip ?_ | refine AWq.ret ?_ | refine AWq.exit ?_ | refine AWq.loop ?_ | refine AWq.rangeFunc ?_ | refine DrawA.consD ?_ | refine DrawA.nil ?_ | refine AWq.draw (by decide +kernel) ?_ | (refine ACall.to (tX _) ?_) | (refine ACall.to (lives_c _) ?_) | (apply Exists.intro; apply And.intro; exact tX _) | (apply Exists.intro; apply And.intro; exact lives_c _) | (apply Exists.intro; apply Exists.intro; apply And.intro; exact tX _) | (apply Exists.intro; apply Exists.intro; apply And.intro; exact lives_c _) | (refine Both.mk ?_ ?_ <;> intro hc <;> (first | exact Bool.noConfusion hc | exact absurd (by with_reducible rfl) hc | exact (hc : False).elim | exact absurd (by assumption) hc | exact absurd hc (by assumption) | (exfalso; omega) | exact absurd hc (by decide) | skip)) | (intro c hc; (try (simp only [AH.none_iff] at hc; repeat (have hn := hc.1; replace hc := hc.2))); (first | (refine i64_k hc ?_ ?_ ?_ ; omega; omega; (clear hc; intro hc; subst hc)) | (refine u64_k hc ?_ ?_ ?_ ; omega; omega; (clear hc; intro hc; subst hc)) | (refine u8_k hc ?_ ?_ ?_ ; omega; omega; (clear hc; intro hc; subst hc)) | subst hc | skip)) | (apply Exists.intro; apply And.intro; (focus (repeat (first | assumption | exact AH.set_same _ _ _ | ((first | refine AH.get_ne ?_ ?_ | refine AH.getd_ne ?_ ?_); (first | assumption | omega | exact Ne.symm (by assumption) | exact AH.ne_none (by assumption) (by assumption) | exact AH.none_ne (by assumption) (by assumption) | exact (AH.none_set (by assumption)).1 | exact Ne.symm (AH.none_set (by assumption)).1)))); done)) | (apply Exists.intro; apply And.intro; (try simp only [List.getElem?_drop, Nat.mul_one, Nat.add_zero, Nat.zero_add]); first | (refine u8s_get ?_; omega) | (refine iS_get ?_; omega) | assumption | rfl | fail) | (apply And.intro; (first | rfl | assumption | exact Nat.le_of_ble_eq_true rfl | omega | (simp <;> fail) | (simp <;> omega) | (focus (repeat' (first | exact one_u8s _ | exact one_iS _ _ | rfl | apply one_take | apply one_drop | apply one_append)); done) | fail)) | fail)) <;> (try (conv => whnf))
end Go.Proofs.Ytajmabnnaidhkaa
