/- For the law CoderInts, part 5 of 8: the frame of the walk, the walks of the functions, the plain law, the row. No conditions. -/
import Derived.Test.YtgmooalikccbiaaCoderIntsM4
/- The walks of the coder's writer: steps. -/
namespace Go.Proofs.Ytgmooalikccbiaa
open Go.Fw Go
set_option linter.unusedVariables false
set_option linter.unusedSimpArgs false

theorem wr64 {r : Nat} (h : r < 18446744073709551616) : IntKind.u64.wrap (r : Int) = r := by rw [wrap_u64']; omega
theorem wrap_u8' (x : Int) : IntKind.u8.wrap x = x % 256 := by show x.emod (2 ^ 8) = _; rfl
set_option maxRecDepth 8000 in
theorem narrow_c {H : AH} {w : Nat} {x : AV} {low W p c t : Nat} (hw : H w = some (.row [.int .u64 low, .int .u64 W, x] 0)) (hs : StOk p c t) (hW : W ≤ 4294967296) :
    ACall Try.prog 66 [.ptr w 0 0, .int .i64 c, .int .i64 t, .int .i64 p] H (fun y H' => y = .int .u64 (W / t * p : Nat) ∧ H' = H.set w (.row [.int .u64 low, .int .u64 (W / t * c : Nat), x] 0)) := by
  obtain ⟨h1, h2, h3⟩ := hs
  have hd : (W : Int).tdiv (t : Int) = (W / t : Nat) := (Int.ofNat_tdiv W t).symm
  have a1 : W / t * p ≤ W := Nat.le_trans (Nat.mul_le_mul_left _ (show p ≤ t by omega)) (Nat.div_mul_le_self _ _)
  have a2 : W / t * c ≤ W := Nat.le_trans (Nat.mul_le_mul_left _ (show c ≤ t by omega)) (Nat.div_mul_le_self _ _)
  have a3 : W / t ≤ W := Nat.div_le_self _ _
  have b1 := Int.natCast_mul (W / t) p
  have b2 := Int.natCast_mul (W / t) c
  have e1 : IntKind.u64.wrap ((W : Int).tdiv (t : Int)) = (W / t : Nat) := by rw [hd]; exact wr64 (by omega)
  have e2 : IntKind.u64.wrap (((W / t : Nat) : Int) * p) = (W / t * p : Nat) := by rw [← b1]; exact wr64 (by omega)
  have e3 : IntKind.u64.wrap (((W / t : Nat) : Int) * c) = (W / t * c : Nat) := by rw [← b2]; exact wr64 (by omega)
  refine ACall_of tt_ok (dok _) Try.func66 rfl (by decide) rfl ?_
  (repeat' ((conv => whnf); first | refine Then.mk ?_ | left | refine OpsA.cons ?_ | refine OpsA.nil ?_ | refine AWq.seq ?_ | refine AWq.region ?_ | refine AWq.cond ?_ | refine AWq.skip ?_ | refine AWq.ret ?_ | (refine Both.mk ?_ ?_ <;> intro hc <;> (first | exact Bool.noConfusion hc | exact absurd (by with_reducible rfl) hc | exact (hc : False).elim | exact absurd (by assumption) hc | exact absurd hc (by assumption) | (exfalso; omega) | exact absurd hc (by decide) | skip)) | (intro c hc; (try (simp only [AH.none_iff] at hc; repeat (have hn := hc.1; replace hc := hc.2))); (first | (have hc2 := Eq.trans hc (by with_reducible assumption); clear hc; subst hc2) | (refine i64_k hc ?_ ?_ ?_ ; omega; omega; (clear hc; intro hc; subst hc)) | (refine u64_k hc ?_ ?_ ?_ ; omega; omega; (clear hc; intro hc; subst hc)) | (refine u8_k hc ?_ ?_ ?_ ; omega; omega; (clear hc; intro hc; subst hc)) | subst hc | skip)) | (apply Exists.intro; apply And.intro; (focus (repeat (first | assumption | exact AH.set_same _ _ _ | ((first | refine AH.get_ne ?_ ?_ | refine AH.getd_ne ?_ ?_); (first | assumption | omega | exact Ne.symm (by assumption) | exact AH.ne_none (by assumption) (by assumption) | exact AH.none_ne (by assumption) (by assumption) | exact (AH.none_set (by assumption)).1 | exact Ne.symm (AH.none_set (by assumption)).1)))); done)) | (apply Exists.intro; apply And.intro; first | (with_reducible assumption) | ((try simp only [List.getElem?_drop, Nat.mul_one, Nat.add_zero, Nat.zero_add]); first | (with_reducible assumption) | (refine u8s_get ?_; omega) | (refine iS_get ?_; omega) | assumption | rfl)) | (apply And.intro; (first | rfl | (with_reducible assumption) | exact Nat.le_of_ble_eq_true rfl | omega | (exact Int.ofNat_lt.2 (Nat.lt_of_lt_of_eq (by with_reducible assumption) (by decide +kernel))) | assumption | (simp <;> fail) | (simp <;> omega) | (focus (repeat' (first | exact one_u8s _ | exact one_iS _ _ | rfl | apply one_take | apply one_drop | apply one_append)); done))))) <;> (try (conv => whnf))
  rfl

/-- A heap with a writer: its three cells, and the row of its bytes. -/
def wtH (H : AH) (w r v : Nat) (bs : List UInt8) (low W : Nat) : AH := (H.set r (.row (u8s bs) v)).set w (.row [.int .u64 low, .int .u64 W, .sl r v 1 0 bs.length none] 0)
/-- The writer of a coder. -/
def wcH (H : AH) (w r : Nat) (σ : Cs) : AH := wtH H w r σ.L (dig σ.L (σ.V / 4294967296)) (σ.V % 4294967296) σ.W

/-- The last digits are 255: the bytes with these set to zero. -/
def car (L top k : Nat) : List UInt8 := dig (L - k) (top / 256 ^ k) ++ List.replicate k 0
theorem car_len {L top k : Nat} (h : k ≤ L) : (car L top k).length = L := by simp [car]; omega
theorem car_zero (L top : Nat) : car L top 0 = dig L top := by simp [car]
theorem dig_succ (m y : Nat) : dig (m + 1) y = dig m (y / 256) ++ [UInt8.ofNat (y % 256)] := rfl
theorem car_get {L top k : Nat} (h : k < L) : (u8s (car L top k))[L - 1 - k]? = some (.int .u8 ((top / 256 ^ k % 256 : Nat) : Int)) := by
  have e : L - k = (L - 1 - k) + 1 := by omega
  have hd : (UInt8.ofNat (top / 256 ^ k % 256)).toNat = top / 256 ^ k % 256 := by simp
  unfold car u8s
  rw [e, dig_succ, List.append_assoc, List.getElem?_map, List.getElem?_append_right (by simp), dig_len, Nat.sub_self]
  show some (AV.int .u8 ((UInt8.ofNat (top / 256 ^ k % 256)).toNat : Int)) = _
  rw [hd]
theorem set_mid {α : Type} (a c : List α) (x y : α) : (a ++ [x] ++ c).set a.length y = a ++ [y] ++ c := by
  rw [List.append_assoc, List.set_append_right _ _ (Nat.le_refl _), Nat.sub_self, List.append_assoc]; rfl
theorem car_wr {L top k : Nat} (h : k < L) (y : UInt8) : wrA (u8s (car L top k)) (L - 1 - k) [.int .u8 y.toNat] = u8s (dig (L - 1 - k) (top / 256 ^ (k + 1)) ++ [y] ++ List.replicate k 0) := by
  have e : L - k = (L - 1 - k) + 1 := by omega
  have hl : (dig (L - 1 - k) (top / 256 ^ k / 256)).length = L - 1 - k := dig_len _ _
  rw [wr_u8s (by rw [car_len (by omega)]; omega)]
  congr 1
  unfold car
  rw [e, dig_succ, Nat.pow_succ, ← Nat.div_div_eq_div_mul]
  have := set_mid (dig (L - 1 - k) (top / 256 ^ k / 256)) (List.replicate k 0) (UInt8.ofNat (top / 256 ^ k % 256)) y
  rw [hl] at this
  exact this
theorem car_next {L top k : Nat} (h : k < L) : dig (L - 1 - k) (top / 256 ^ (k + 1)) ++ [0] ++ List.replicate k 0 = car L top (k + 1) := by
  unfold car
  rw [List.append_assoc, show L - (k + 1) = L - 1 - k by omega]
  congr 1
theorem car_end {L top k : Nat} (h : k < L) (h1 : top + 1 = (top / 256 ^ k + 1) * 256 ^ k) (h2 : top / 256 ^ k % 256 ≠ 255) :
    dig (L - 1 - k) (top / 256 ^ (k + 1)) ++ [UInt8.ofNat (top / 256 ^ k % 256 + 1)] ++ List.replicate k 0 = dig L (top + 1) := by
  rw [h1]
  have e : L = (L - 1 - k + 1) + k := by omega
  have := dig_zeros (L - 1 - k + 1) (top / 256 ^ k + 1) k
  rw [← e] at this
  rw [this, Nat.pow_succ, ← Nat.div_div_eq_div_mul, dig_succ]
  have hb : top / 256 ^ k % 256 < 256 := Nat.mod_lt _ (by decide)
  rw [show (top / 256 ^ k + 1) / 256 = top / 256 ^ k / 256 by omega, show (top / 256 ^ k + 1) % 256 = top / 256 ^ k % 256 + 1 by omega]
theorem car_inv {top k : Nat} (h1 : top + 1 = (top / 256 ^ k + 1) * 256 ^ k) (h2 : top / 256 ^ k % 256 = 255) : top + 1 = (top / 256 ^ (k + 1) + 1) * 256 ^ (k + 1) := by
  have e : top / 256 ^ (k + 1) = top / 256 ^ k / 256 := by rw [Nat.pow_succ, Nat.div_div_eq_div_mul]
  have e2 : top / 256 ^ k + 1 = (top / 256 ^ k / 256 + 1) * 256 := by omega
  rw [e, Nat.pow_succ, Nat.mul_comm (256 ^ k) 256, ← Nat.mul_assoc, ← e2]
  exact h1


set_option maxHeartbeats 4000000 in
set_option maxRecDepth 8000 in
theorem wstep_c {H : AH} {w r : Nat} {σ : Cs} {p c t : Nat} (hwr : w ≠ r) (hc : CsOk σ) (hs : StOk p c t) (hL : σ.L ≤ 1000000000000) :
    ACall Try.prog 49 [.ptr w 0 0, .int .i64 p, .int .i64 c, .int .i64 t] (wcH H w r σ) (fun y H' => y = .tup [] ∧ H' = wcH H w r (stp σ p c t)) := by
  obtain ⟨v, hv⟩ : ∃ v, v = σ.L := ⟨_, rfl⟩
  obtain ⟨low, hlow⟩ : ∃ low, low = σ.V % 4294967296 := ⟨_, rfl⟩
  obtain ⟨top, htop⟩ : ∃ top, top = σ.V / 4294967296 := ⟨_, rfl⟩
  have hw : wcH H w r σ w = some (.row [.int .u64 low, .int .u64 σ.W, .sl r v 1 0 (dig σ.L top).length none] 0) := by
    rw [hlow, htop, hv]; exact AH.set_same _ _ _
  have hn := narrow_c hw hs hc.hi
  obtain ⟨k1, k2, k3, k4⟩ := nrw_ok hc hs
  have hi := hc.hi
  have hroom := hc.room
  have k3 : σ.V + σ.W / t * p + σ.W / t * c ≤ σ.V + σ.W := k3
  have k1 : 512 ≤ σ.W / t * c := k1
  have k2 : σ.W / t * c ≤ σ.W := k2
  have hst : stp σ p c t = shf 3 ⟨σ.V + σ.W / t * p, σ.W / t * c, σ.L⟩ := rfl
  rw [hst]
  have hrw : r ≠ w := Ne.symm hwr
  obtain ⟨X, hX⟩ : ∃ X, X = σ.W / t * p := ⟨_, rfl⟩
  obtain ⟨Y, hY⟩ : ∃ Y, Y = σ.W / t * c := ⟨_, rfl⟩
  rw [← hX, ← hY] at k3 ⊢
  rw [← hX] at k4 hn
  rw [← hY] at k1 k2 hn
  have hH : wcH H w r σ = wtH H w r v (dig σ.L top) low σ.W := by rw [hlow, htop, hv]; rfl
  rw [hH] at hw hn ⊢
  clear hst hH
  refine ACall_of tt_ok (dok _) Try.func49 rfl (by decide) rfl ?_
  refine AWq.seq ?_
  refine AWq.drawF mo ([20], [13]) (fun G => ∃ W' x, G w = some (.row [.int .u64 low, W', x] 0)) ⟨_, _, hw⟩ (by decide +kernel) ?_
  (repeat' ((conv => whnf); first | refine Then.mk ?_ | left | refine OpsA.cons ?_ | refine OpsA.nil ?_ | refine AWq.seq ?_ | refine AWq.region ?_ | refine AWq.cond ?_ | refine AWq.block ?_ | refine AWq.skip ?_ | refine AWq.ret ?_ | refine AWq.exit ?_ | refine AWq.loop ?_ | refine DrawA.consD ?_ | refine DrawA.nil ?_ | refine DrawF.consD ?_ | refine DrawF.nil ?_ | refine AWq.draw (by decide +kernel) ?_ | (refine ACall.to (hn) ?_) | (apply Exists.intro; apply And.intro; exact hn) | (apply Exists.intro; apply Exists.intro; apply And.intro; exact hn) | (refine Both.mk ?_ ?_ <;> intro hc <;> (first | exact Bool.noConfusion hc | exact absurd (by with_reducible rfl) hc | exact (hc : False).elim | exact absurd (by assumption) hc | exact absurd hc (by assumption) | (exfalso; omega) | exact absurd hc (by decide) | skip)) | (intro c hc; (try (simp only [AH.none_iff] at hc; repeat (have hn := hc.1; replace hc := hc.2))); (first | (have hc2 := Eq.trans hc (by with_reducible assumption); clear hc; subst hc2) | (refine i64_k hc ?_ ?_ ?_ ; omega; omega; (clear hc; intro hc; subst hc)) | (refine u64_k hc ?_ ?_ ?_ ; omega; omega; (clear hc; intro hc; subst hc)) | (refine u8_k hc ?_ ?_ ?_ ; omega; omega; (clear hc; intro hc; subst hc)) | subst hc | skip)) | (apply Exists.intro; apply And.intro; (focus (repeat (first | assumption | exact AH.set_same _ _ _ | ((first | refine AH.get_ne ?_ ?_ | refine AH.getd_ne ?_ ?_); (first | assumption | omega | exact Ne.symm (by assumption) | exact AH.ne_none (by assumption) (by assumption) | exact AH.none_ne (by assumption) (by assumption) | exact (AH.none_set (by assumption)).1 | exact Ne.symm (AH.none_set (by assumption)).1)))); done)) | (apply Exists.intro; apply And.intro; first | (with_reducible assumption) | ((try simp only [List.getElem?_drop, Nat.mul_one, Nat.add_zero, Nat.zero_add]); first | (with_reducible assumption) | (refine u8s_get ?_; omega) | (refine iS_get ?_; omega) | assumption | rfl)) | (apply And.intro; (first | rfl | (with_reducible assumption) | exact Nat.le_of_ble_eq_true rfl | omega | (exact Int.ofNat_lt.2 (Nat.lt_of_lt_of_eq (by with_reducible assumption) (by decide +kernel))) | assumption | (simp <;> fail) | (simp <;> omega) | (focus (repeat' (first | exact one_u8s _ | exact one_iS _ _ | rfl | apply one_take | apply one_drop | apply one_append)); done))))) <;> (try (conv => whnf))
  refine ⟨.int .u64 low, ?_, ?_, ?_⟩
  · (repeat' ((conv => whnf); first | refine Then.mk ?_ | left | refine OpsA.cons ?_ | refine OpsA.nil ?_ | refine AWq.seq ?_ | refine AWq.region ?_ | refine AWq.cond ?_ | refine AWq.block ?_ | refine AWq.skip ?_ | refine AWq.ret ?_ | refine AWq.exit ?_ | refine AWq.loop ?_ | refine DrawA.consD ?_ | refine DrawA.nil ?_ | refine DrawF.consD ?_ | refine DrawF.nil ?_ | refine AWq.draw (by decide +kernel) ?_ | (refine Both.mk ?_ ?_ <;> intro hc <;> (first | exact Bool.noConfusion hc | exact absurd (by with_reducible rfl) hc | exact (hc : False).elim | exact absurd (by assumption) hc | exact absurd hc (by assumption) | (exfalso; omega) | exact absurd hc (by decide) | skip)) | (intro c hc; (try (simp only [AH.none_iff] at hc; repeat (have hn := hc.1; replace hc := hc.2))); (first | (have hc2 := Eq.trans hc (by with_reducible assumption); clear hc; subst hc2) | (refine i64_k hc ?_ ?_ ?_ ; omega; omega; (clear hc; intro hc; subst hc)) | (refine u64_k hc ?_ ?_ ?_ ; omega; omega; (clear hc; intro hc; subst hc)) | (refine u8_k hc ?_ ?_ ?_ ; omega; omega; (clear hc; intro hc; subst hc)) | subst hc | skip)) | (apply Exists.intro; apply And.intro; (focus (repeat (first | assumption | exact AH.set_same _ _ _ | ((first | refine AH.get_ne ?_ ?_ | refine AH.getd_ne ?_ ?_); (first | assumption | omega | exact Ne.symm (by assumption) | exact AH.ne_none (by assumption) (by assumption) | exact AH.none_ne (by assumption) (by assumption) | exact (AH.none_set (by assumption)).1 | exact Ne.symm (AH.none_set (by assumption)).1)))); done)) | (apply Exists.intro; apply And.intro; first | (with_reducible assumption) | ((try simp only [List.getElem?_drop, Nat.mul_one, Nat.add_zero, Nat.zero_add]); first | (with_reducible assumption) | (refine u8s_get ?_; omega) | (refine iS_get ?_; omega) | assumption | rfl)) | (apply And.intro; (first | rfl | (with_reducible assumption) | exact Nat.le_of_ble_eq_true rfl | omega | (exact Int.ofNat_lt.2 (Nat.lt_of_lt_of_eq (by with_reducible assumption) (by decide +kernel))) | assumption | (simp <;> fail) | (simp <;> omega) | (focus (repeat' (first | exact one_u8s _ | exact one_iS _ _ | rfl | apply one_take | apply one_drop | apply one_append)); done))))) <;> (try (conv => whnf))
  · intro G hG
    obtain ⟨W', x, hG⟩ : ∃ W' x, G w = some (.row [.int .u64 low, W', x] 0) := hG
    (repeat' ((conv => whnf); first | refine Then.mk ?_ | left | refine OpsA.cons ?_ | refine OpsA.nil ?_ | refine AWq.seq ?_ | refine AWq.region ?_ | refine AWq.cond ?_ | refine AWq.block ?_ | refine AWq.skip ?_ | refine AWq.ret ?_ | refine AWq.exit ?_ | refine AWq.loop ?_ | refine DrawA.consD ?_ | refine DrawA.nil ?_ | refine DrawF.consD ?_ | refine DrawF.nil ?_ | refine AWq.draw (by decide +kernel) ?_ | (refine Both.mk ?_ ?_ <;> intro hc <;> (first | exact Bool.noConfusion hc | exact absurd (by with_reducible rfl) hc | exact (hc : False).elim | exact absurd (by assumption) hc | exact absurd hc (by assumption) | (exfalso; omega) | exact absurd hc (by decide) | skip)) | (intro c hc; (try (simp only [AH.none_iff] at hc; repeat (have hn := hc.1; replace hc := hc.2))); (first | (have hc2 := Eq.trans hc (by with_reducible assumption); clear hc; subst hc2) | (refine i64_k hc ?_ ?_ ?_ ; omega; omega; (clear hc; intro hc; subst hc)) | (refine u64_k hc ?_ ?_ ?_ ; omega; omega; (clear hc; intro hc; subst hc)) | (refine u8_k hc ?_ ?_ ?_ ; omega; omega; (clear hc; intro hc; subst hc)) | subst hc | skip)) | (apply Exists.intro; apply And.intro; (focus (repeat (first | assumption | exact AH.set_same _ _ _ | ((first | refine AH.get_ne ?_ ?_ | refine AH.getd_ne ?_ ?_); (first | assumption | omega | exact Ne.symm (by assumption) | exact AH.ne_none (by assumption) (by assumption) | exact AH.none_ne (by assumption) (by assumption) | exact (AH.none_set (by assumption)).1 | exact Ne.symm (AH.none_set (by assumption)).1)))); done)) | (apply Exists.intro; apply And.intro; first | (with_reducible assumption) | ((try simp only [List.getElem?_drop, Nat.mul_one, Nat.add_zero, Nat.zero_add]); first | (with_reducible assumption) | (refine u8s_get ?_; omega) | (refine iS_get ?_; omega) | assumption | rfl)) | (apply And.intro; (first | rfl | (with_reducible assumption) | exact Nat.le_of_ble_eq_true rfl | omega | (exact Int.ofNat_lt.2 (Nat.lt_of_lt_of_eq (by with_reducible assumption) (by decide +kernel))) | assumption | (simp <;> fail) | (simp <;> omega) | (focus (repeat' (first | exact one_u8s _ | exact one_iS _ _ | rfl | apply one_take | apply one_drop | apply one_append)); done))))) <;> (try (conv => whnf))
  (repeat' ((conv => whnf); first | refine Then.mk ?_ | left | refine OpsA.cons ?_ | refine OpsA.nil ?_ | refine AWq.seq ?_ | refine AWq.region ?_ | refine AWq.cond ?_ | refine AWq.block ?_ | refine AWq.skip ?_ | refine AWq.ret ?_ | refine AWq.exit ?_ | refine AWq.loop ?_ | refine DrawA.consD ?_ | refine DrawA.nil ?_ | refine DrawF.consD ?_ | refine DrawF.nil ?_ | refine AWq.draw (by decide +kernel) ?_ | (refine ACall.to (hn) ?_) | (apply Exists.intro; apply And.intro; exact hn) | (apply Exists.intro; apply Exists.intro; apply And.intro; exact hn) | (refine Both.mk ?_ ?_ <;> intro hc <;> (first | exact Bool.noConfusion hc | exact absurd (by with_reducible rfl) hc | exact (hc : False).elim | exact absurd (by assumption) hc | exact absurd hc (by assumption) | (exfalso; omega) | exact absurd hc (by decide) | skip)) | (intro c hc; (try (simp only [AH.none_iff] at hc; repeat (have hn := hc.1; replace hc := hc.2))); (first | (have hc2 := Eq.trans hc (by with_reducible assumption); clear hc; subst hc2) | (refine i64_k hc ?_ ?_ ?_ ; omega; omega; (clear hc; intro hc; subst hc)) | (refine u64_k hc ?_ ?_ ?_ ; omega; omega; (clear hc; intro hc; subst hc)) | (refine u8_k hc ?_ ?_ ?_ ; omega; omega; (clear hc; intro hc; subst hc)) | subst hc | skip)) | (apply Exists.intro; apply And.intro; (focus (repeat (first | assumption | exact AH.set_same _ _ _ | ((first | refine AH.get_ne ?_ ?_ | refine AH.getd_ne ?_ ?_); (first | assumption | omega | exact Ne.symm (by assumption) | exact AH.ne_none (by assumption) (by assumption) | exact AH.none_ne (by assumption) (by assumption) | exact (AH.none_set (by assumption)).1 | exact Ne.symm (AH.none_set (by assumption)).1)))); done)) | (apply Exists.intro; apply And.intro; first | (with_reducible assumption) | ((try simp only [List.getElem?_drop, Nat.mul_one, Nat.add_zero, Nat.zero_add]); first | (with_reducible assumption) | (refine u8s_get ?_; omega) | (refine iS_get ?_; omega) | assumption | rfl)) | (apply And.intro; (first | rfl | (with_reducible assumption) | exact Nat.le_of_ble_eq_true rfl | omega | (exact Int.ofNat_lt.2 (Nat.lt_of_lt_of_eq (by with_reducible assumption) (by decide +kernel))) | assumption | (simp <;> fail) | (simp <;> omega) | (focus (repeat' (first | exact one_u8s _ | exact one_iS _ _ | rfl | apply one_take | apply one_drop | apply one_append)); done))))) <;> (try (conv => whnf))
  refine And.intro (show ∃ W' x, _ = _ from ⟨_, _, AH.set_same _ _ _⟩) ?_
  (repeat' ((conv => whnf); first | left | refine OpsA.cons ?_ | refine OpsA.nil ?_ | refine AWq.seq ?_ | refine AWq.region ?_ | refine AWq.cond ?_ | refine AWq.block ?_ | refine AWq.skip ?_ | refine AWq.ret ?_ | refine AWq.exit ?_ | refine AWq.loop ?_ | refine DrawA.consD ?_ | refine DrawA.nil ?_ | refine DrawF.consD ?_ | refine DrawF.nil ?_ | refine AWq.draw (by decide +kernel) ?_ | (refine Both.mk ?_ ?_ <;> intro hc <;> (first | exact Bool.noConfusion hc | exact absurd (by with_reducible rfl) hc | exact (hc : False).elim | exact absurd (by assumption) hc | exact absurd hc (by assumption) | (exfalso; omega) | exact absurd hc (by decide) | skip)) | (intro c hc; (try (simp only [AH.none_iff] at hc; repeat (have hn := hc.1; replace hc := hc.2))); (first | (have hc2 := Eq.trans hc (by with_reducible assumption); clear hc; subst hc2) | (refine i64_k hc ?_ ?_ ?_ ; omega; omega; (clear hc; intro hc; subst hc)) | (refine u64_k hc ?_ ?_ ?_ ; omega; omega; (clear hc; intro hc; subst hc)) | (refine u8_k hc ?_ ?_ ?_ ; omega; omega; (clear hc; intro hc; subst hc)) | subst hc | skip)) | (apply Exists.intro; apply And.intro; (focus (repeat (first | assumption | exact AH.set_same _ _ _ | ((first | refine AH.get_ne ?_ ?_ | refine AH.getd_ne ?_ ?_); (first | assumption | omega | exact Ne.symm (by assumption) | exact AH.ne_none (by assumption) (by assumption) | exact AH.none_ne (by assumption) (by assumption) | exact (AH.none_set (by assumption)).1 | exact Ne.symm (AH.none_set (by assumption)).1)))); done)) | (apply Exists.intro; apply And.intro; first | (with_reducible assumption) | ((try simp only [List.getElem?_drop, Nat.mul_one, Nat.add_zero, Nat.zero_add]); first | (with_reducible assumption) | (refine u8s_get ?_; omega) | (refine iS_get ?_; omega) | assumption | rfl)) | (apply And.intro; (first | rfl | (with_reducible assumption) | exact Nat.le_of_ble_eq_true rfl | omega | (exact Int.ofNat_lt.2 (Nat.lt_of_lt_of_eq (by with_reducible assumption) (by decide +kernel))) | assumption | (simp <;> fail) | (simp <;> omega) | (focus (repeat' (first | exact one_u8s _ | exact one_iS _ _ | rfl | apply one_take | apply one_drop | apply one_append)); done))))) <;> (try (conv => whnf))
  refine Then.mk (AWq.in ?_)
  refine AWp_cutd (H2 := wtH H w r v (dig σ.L top) (low + X) Y) [(0, .ptr w 0 0)] rfl ⟨rfl, trivial⟩ (fun _ => rfl) (HLe.of_eq ?_) ?_
  · refine Eq.trans ?_ (Eq.symm ((congrArg (fun G => AH.set G w _) (AH.set_set _ _ _ _)).trans (AH.set_set _ _ _ _)))
    exact congrArg (fun z => AH.set _ w (.row [.int .u64 z, .int .u64 Y, .sl r v 1 0 (dig σ.L top).length none] 0)) (Int.natCast_add low X)
  have hlb : low < 4294967296 := by omega
  have htl : 4294967296 ≤ low + X → top + 1 < 256 ^ σ.L := fun h => by
    generalize 256 ^ σ.L = P at hroom ⊢
    omega
  refine AWp.of tt_ok (dok _) rfl ?_
  apply Kept_split
  case main =>
    intro tail
    by_cases hca : 4294967296 ≤ low + X
    · have htl := htl hca
      have hdl := dig_len σ.L top
      (repeat' ((conv => whnf); first | refine Then.mk ?_ | left | refine OpsA.cons ?_ | refine OpsA.nil ?_ | refine AWq.seq ?_ | refine AWq.region ?_ | refine AWq.cond ?_ | refine AWq.block ?_ | refine AWq.skip ?_ | refine AWq.ret ?_ | refine AWq.exit ?_ | refine AWq.loop ?_ | refine DrawA.consD ?_ | refine DrawA.nil ?_ | refine DrawF.consD ?_ | refine DrawF.nil ?_ | refine AWq.draw (by decide +kernel) ?_ | (refine Both.mk ?_ ?_ <;> intro hc <;> (first | exact Bool.noConfusion hc | exact absurd (by with_reducible rfl) hc | exact (hc : False).elim | exact absurd (by assumption) hc | exact absurd hc (by assumption) | (exfalso; omega) | exact absurd hc (by decide) | skip)) | (intro c hc; (try (simp only [AH.none_iff] at hc; repeat (have hn := hc.1; replace hc := hc.2))); (first | (have hc2 := Eq.trans hc (by with_reducible assumption); clear hc; subst hc2) | (refine i64_k hc ?_ ?_ ?_ ; omega; omega; (clear hc; intro hc; subst hc)) | (refine u64_k hc ?_ ?_ ?_ ; omega; omega; (clear hc; intro hc; subst hc)) | (refine u8_k hc ?_ ?_ ?_ ; omega; omega; (clear hc; intro hc; subst hc)) | subst hc | skip)) | (apply Exists.intro; apply And.intro; (focus (repeat (first | assumption | exact AH.set_same _ _ _ | ((first | refine AH.get_ne ?_ ?_ | refine AH.getd_ne ?_ ?_); (first | assumption | omega | exact Ne.symm (by assumption) | exact AH.ne_none (by assumption) (by assumption) | exact AH.none_ne (by assumption) (by assumption) | exact (AH.none_set (by assumption)).1 | exact Ne.symm (AH.none_set (by assumption)).1)))); done)) | (apply Exists.intro; apply And.intro; first | (with_reducible assumption) | ((try simp only [List.getElem?_drop, Nat.mul_one, Nat.add_zero, Nat.zero_add]); first | (with_reducible assumption) | (refine u8s_get ?_; omega) | (refine iS_get ?_; omega) | assumption | rfl)) | (apply And.intro; (first | rfl | (with_reducible assumption) | exact Nat.le_of_ble_eq_true rfl | omega | (exact Int.ofNat_lt.2 (Nat.lt_of_lt_of_eq (by with_reducible assumption) (by decide +kernel))) | assumption | (simp <;> fail) | (simp <;> omega) | (focus (repeat' (first | exact one_u8s _ | exact one_iS _ _ | rfl | apply one_take | apply one_drop | apply one_append)); done))))) <;> (try (conv => whnf))
      refine AWp_loop (σ := Nat) (8 :: 46 :: 47 :: 48 :: 49 :: 50 :: 51 :: 52 :: 53 :: 54 :: 55 :: 56 :: 57 :: 58 :: 59 :: 60 :: 61 :: []) (fun k => [(8, .int .i64 ((σ.L : Int) - 1 - k))]) (fun k => wtH H w r v (car σ.L top k) (low + X - 4294967296) Y) (fun k => k < σ.L ∧ top + 1 = (top / 256 ^ k + 1) * 256 ^ k) (fun k => σ.L - k) 0 rfl ?_ ?_ ?_ ?_
      · refine ⟨?_, by simp⟩
        by_cases h : σ.L = 0
        · rw [h] at htl; simp at htl
        · omega
      · refine ⟨congrArg (AV.int .i64) ?_, trivial⟩
        omega
      · refine HLe.of_eq ?_
        rw [car_zero]
        refine Eq.trans ?_ (Eq.symm (AH.set_set _ _ _ _))
        exact congrArg (fun z => AH.set _ w (.row [.int .u64 z, .int .u64 Y, .sl r v 1 0 (dig σ.L top).length none] 0)) (by omega)
      · rintro k ⟨hk1, hk2⟩
        refine AWp.of tt_ok (dok _) rfl ?_
        have hll : (car σ.L top k).length = σ.L := car_len (by omega)
        obtain ⟨z, hz⟩ : ∃ z, z = u8s (car σ.L top k) := ⟨_, rfl⟩
        have hzl : z.length = σ.L := by rw [hz]; simp [u8s, hll]
        have hix : ((σ.L : Int) - 1 - k).toNat = σ.L - 1 - k := by omega
        have hg : z[((σ.L : Int) - 1 - k).toNat]? = some (.int .u8 ((top / 256 ^ k % 256 : Nat) : Int)) := by rw [hix, hz]; exact car_get hk1
        have hw1 : wtH H w r v (car σ.L top k) (low + X - 4294967296) Y w = some (.row [.int .u64 ((low + X - 4294967296 : Nat) : Int), .int .u64 Y, .sl r v 1 0 σ.L none] 0) := by
          unfold wtH; rw [hll]; exact AH.set_same _ _ _
        have hr1 : wtH H w r v (car σ.L top k) (low + X - 4294967296) Y r = some (.row z v) := by
          unfold wtH; rw [AH.set_ne _ _ hrw, AH.set_same, hz]
        have hdm : top / 256 ^ k % 256 < 256 := Nat.mod_lt _ (by decide)
        have hset : ∀ bs : List UInt8, bs.length = σ.L → (wtH H w r v (car σ.L top k) (low + X - 4294967296) Y).set r (.row (u8s bs) v) = wtH H w r v bs (low + X - 4294967296) Y := fun bs hb => by
          unfold wtH
          rw [hll, hb, AH.set_comm _ _ _ hwr, AH.set_set]
        by_cases h255 : top / 256 ^ k % 256 = 255
        · rw [h255] at hg
          have hk3 := car_inv hk2 h255
          have hkl : k + 1 < σ.L := by
            by_cases e : k + 1 = σ.L
            · exfalso
              rw [← e] at htl
              exact absurd htl (Nat.not_lt.2 (by rw [hk3]; exact Nat.le_mul_of_pos_left _ (Nat.succ_pos _)))
            · omega
          (repeat' ((conv => whnf); first | refine Then.mk ?_ | left | refine OpsA.cons ?_ | refine OpsA.nil ?_ | refine AWq.seq ?_ | refine AWq.region ?_ | refine AWq.cond ?_ | refine AWq.block ?_ | refine AWq.skip ?_ | refine AWq.ret ?_ | refine AWq.exit ?_ | refine AWq.loop ?_ | refine DrawA.consD ?_ | refine DrawA.nil ?_ | refine DrawF.consD ?_ | refine DrawF.nil ?_ | refine AWq.draw (by decide +kernel) ?_ | (refine Both.mk ?_ ?_ <;> intro hc <;> (first | exact Bool.noConfusion hc | exact absurd (by with_reducible rfl) hc | exact (hc : False).elim | exact absurd (by assumption) hc | exact absurd hc (by assumption) | (exfalso; omega) | exact absurd hc (by decide) | skip)) | (intro c hc; (try (simp only [AH.none_iff] at hc; repeat (have hn := hc.1; replace hc := hc.2))); (first | (have hc2 := Eq.trans hc (by with_reducible assumption); clear hc; subst hc2) | (refine i64_k hc ?_ ?_ ?_ ; omega; omega; (clear hc; intro hc; subst hc)) | (refine u64_k hc ?_ ?_ ?_ ; omega; omega; (clear hc; intro hc; subst hc)) | (refine u8_k hc ?_ ?_ ?_ ; omega; omega; (clear hc; intro hc; subst hc)) | subst hc | skip)) | (apply Exists.intro; apply And.intro; (focus (repeat (first | assumption | exact AH.set_same _ _ _ | ((first | refine AH.get_ne ?_ ?_ | refine AH.getd_ne ?_ ?_); (first | assumption | omega | exact Ne.symm (by assumption) | exact AH.ne_none (by assumption) (by assumption) | exact AH.none_ne (by assumption) (by assumption) | exact (AH.none_set (by assumption)).1 | exact Ne.symm (AH.none_set (by assumption)).1)))); done)) | (apply Exists.intro; apply And.intro; first | (with_reducible assumption) | ((try simp only [List.getElem?_drop, Nat.mul_one, Nat.add_zero, Nat.zero_add]); first | (with_reducible assumption) | (refine u8s_get ?_; omega) | (refine iS_get ?_; omega) | assumption | rfl)) | (apply And.intro; (first | rfl | (with_reducible assumption) | exact Nat.le_of_ble_eq_true rfl | omega | (exact Int.ofNat_lt.2 (Nat.lt_of_lt_of_eq (by with_reducible assumption) (by decide +kernel))) | assumption | (simp <;> fail) | (simp <;> omega) | (focus (repeat' (first | exact one_u8s _ | exact one_iS _ _ | rfl | apply one_take | apply one_drop | apply one_append)); done))))) <;> (try (conv => whnf))
          refine ⟨k + 1, ⟨hkl, hk3⟩, by show σ.L - (k + 1) < σ.L - k; omega, ⟨congrArg (AV.int .i64) (by omega), trivial⟩, HLe.of_eq ?_⟩
          rw [← hset _ (car_len (by omega)), ← car_next hk1, ← car_wr hk1 0]
          show _ = (wtH H w r v (car σ.L top k) (low + X - 4294967296) Y).set r (.row (wrA z (0 + ((σ.L : Int) - 1 - k).toNat * 1) [.int .u8 0]) v)
          rw [Nat.zero_add, Nat.mul_one, hix, hz]
          rfl
        · have hne : ¬ ((top / 256 ^ k % 256 : Nat) : Int) = 255 := by omega
          (repeat' ((conv => whnf); first | left | refine OpsA.cons ?_ | refine OpsA.nil ?_ | refine AWq.seq ?_ | refine AWq.region ?_ | refine AWq.cond ?_ | refine AWq.block ?_ | refine AWq.skip ?_ | refine AWq.ret ?_ | refine AWq.exit ?_ | refine AWq.loop ?_ | refine DrawA.consD ?_ | refine DrawA.nil ?_ | refine DrawF.consD ?_ | refine DrawF.nil ?_ | refine AWq.draw (by decide +kernel) ?_ | (refine Both.mk ?_ ?_ <;> intro hc <;> (first | exact Bool.noConfusion hc | exact absurd (by with_reducible rfl) hc | exact (hc : False).elim | exact absurd (by assumption) hc | exact absurd hc (by assumption) | (exfalso; omega) | exact absurd hc (by decide) | skip)) | (intro c hc; (try (simp only [AH.none_iff] at hc; repeat (have hn := hc.1; replace hc := hc.2))); (first | (have hc2 := Eq.trans hc (by with_reducible assumption); clear hc; subst hc2) | (refine i64_k hc ?_ ?_ ?_ ; omega; omega; (clear hc; intro hc; subst hc)) | (refine u64_k hc ?_ ?_ ?_ ; omega; omega; (clear hc; intro hc; subst hc)) | (refine u8_k hc ?_ ?_ ?_ ; omega; omega; (clear hc; intro hc; subst hc)) | subst hc | skip)) | (apply Exists.intro; apply And.intro; (focus (repeat (first | assumption | exact AH.set_same _ _ _ | ((first | refine AH.get_ne ?_ ?_ | refine AH.getd_ne ?_ ?_); (first | assumption | omega | exact Ne.symm (by assumption) | exact AH.ne_none (by assumption) (by assumption) | exact AH.none_ne (by assumption) (by assumption) | exact (AH.none_set (by assumption)).1 | exact Ne.symm (AH.none_set (by assumption)).1)))); done)) | (apply Exists.intro; apply And.intro; first | (with_reducible assumption) | ((try simp only [List.getElem?_drop, Nat.mul_one, Nat.add_zero, Nat.zero_add]); first | (with_reducible assumption) | (refine u8s_get ?_; omega) | (refine iS_get ?_; omega) | assumption | rfl)) | (apply And.intro; (first | rfl | (with_reducible assumption) | exact Nat.le_of_ble_eq_true rfl | omega | (exact Int.ofNat_lt.2 (Nat.lt_of_lt_of_eq (by with_reducible assumption) (by decide +kernel))) | assumption | (simp <;> fail) | (simp <;> omega) | (focus (repeat' (first | exact one_u8s _ | exact one_iS _ _ | rfl | apply one_take | apply one_drop | apply one_append)); done))))) <;> (try (conv => whnf))
          refine Then.mk ?_
          (repeat' ((conv => whnf); first | left | refine OpsA.cons ?_ | refine OpsA.nil ?_ | refine AWq.seq ?_ | refine AWq.region ?_ | refine AWq.cond ?_ | refine AWq.block ?_ | refine AWq.skip ?_ | refine AWq.ret ?_ | refine AWq.exit ?_ | refine AWq.loop ?_ | refine DrawA.consD ?_ | refine DrawA.nil ?_ | refine DrawF.consD ?_ | refine DrawF.nil ?_ | refine AWq.draw (by decide +kernel) ?_ | (refine Both.mk ?_ ?_ <;> intro hc <;> (first | exact Bool.noConfusion hc | exact absurd (by with_reducible rfl) hc | exact (hc : False).elim | exact absurd (by assumption) hc | exact absurd hc (by assumption) | (exfalso; omega) | exact absurd hc (by decide) | skip)) | (intro c hc; (try (simp only [AH.none_iff] at hc; repeat (have hn := hc.1; replace hc := hc.2))); (first | (have hc2 := Eq.trans hc (by with_reducible assumption); clear hc; subst hc2) | (refine i64_k hc ?_ ?_ ?_ ; omega; omega; (clear hc; intro hc; subst hc)) | (refine u64_k hc ?_ ?_ ?_ ; omega; omega; (clear hc; intro hc; subst hc)) | (refine u8_k hc ?_ ?_ ?_ ; omega; omega; (clear hc; intro hc; subst hc)) | subst hc | skip)) | (apply Exists.intro; apply And.intro; (focus (repeat (first | assumption | exact AH.set_same _ _ _ | ((first | refine AH.get_ne ?_ ?_ | refine AH.getd_ne ?_ ?_); (first | assumption | omega | exact Ne.symm (by assumption) | exact AH.ne_none (by assumption) (by assumption) | exact AH.none_ne (by assumption) (by assumption) | exact (AH.none_set (by assumption)).1 | exact Ne.symm (AH.none_set (by assumption)).1)))); done)) | (apply Exists.intro; apply And.intro; first | (with_reducible assumption) | ((try simp only [List.getElem?_drop, Nat.mul_one, Nat.add_zero, Nat.zero_add]); first | (with_reducible assumption) | (refine u8s_get ?_; omega) | (refine iS_get ?_; omega) | assumption | rfl)) | (apply And.intro; (first | rfl | (with_reducible assumption) | exact Nat.le_of_ble_eq_true rfl | omega | (exact Int.ofNat_lt.2 (Nat.lt_of_lt_of_eq (by with_reducible assumption) (by decide +kernel))) | assumption | (simp <;> fail) | (simp <;> omega) | (focus (repeat' (first | exact one_u8s _ | exact one_iS _ _ | rfl | apply one_take | apply one_drop | apply one_append)); done))))) <;> (try (conv => whnf))
          refine Then.mk ?_
          (repeat' ((conv => whnf); first | left | refine OpsA.cons ?_ | refine OpsA.nil ?_ | refine AWq.seq ?_ | refine AWq.region ?_ | refine AWq.cond ?_ | refine AWq.block ?_ | refine AWq.skip ?_ | refine AWq.ret ?_ | refine AWq.exit ?_ | refine AWq.loop ?_ | refine DrawA.consD ?_ | refine DrawA.nil ?_ | refine DrawF.consD ?_ | refine DrawF.nil ?_ | refine AWq.draw (by decide +kernel) ?_ | (refine Both.mk ?_ ?_ <;> intro hc <;> (first | exact Bool.noConfusion hc | exact absurd (by with_reducible rfl) hc | exact (hc : False).elim | exact absurd (by assumption) hc | exact absurd hc (by assumption) | (exfalso; omega) | exact absurd hc (by decide) | skip)) | (intro c hc; (try (simp only [AH.none_iff] at hc; repeat (have hn := hc.1; replace hc := hc.2))); (first | (have hc2 := Eq.trans hc (by with_reducible assumption); clear hc; subst hc2) | (refine i64_k hc ?_ ?_ ?_ ; omega; omega; (clear hc; intro hc; subst hc)) | (refine u64_k hc ?_ ?_ ?_ ; omega; omega; (clear hc; intro hc; subst hc)) | (refine u8_k hc ?_ ?_ ?_ ; omega; omega; (clear hc; intro hc; subst hc)) | subst hc | skip)) | (apply Exists.intro; apply And.intro; (focus (repeat (first | assumption | exact AH.set_same _ _ _ | ((first | refine AH.get_ne ?_ ?_ | refine AH.getd_ne ?_ ?_); (first | assumption | omega | exact Ne.symm (by assumption) | exact AH.ne_none (by assumption) (by assumption) | exact AH.none_ne (by assumption) (by assumption) | exact (AH.none_set (by assumption)).1 | exact Ne.symm (AH.none_set (by assumption)).1)))); done)) | (apply Exists.intro; apply And.intro; first | (with_reducible assumption) | ((try simp only [List.getElem?_drop, Nat.mul_one, Nat.add_zero, Nat.zero_add]); first | (with_reducible assumption) | (refine u8s_get ?_; omega) | (refine iS_get ?_; omega) | assumption | rfl)) | (apply And.intro; (first | rfl | (with_reducible assumption) | exact Nat.le_of_ble_eq_true rfl | omega | (exact Int.ofNat_lt.2 (Nat.lt_of_lt_of_eq (by with_reducible assumption) (by decide +kernel))) | assumption | (simp <;> fail) | (simp <;> omega) | (focus (repeat' (first | exact one_u8s _ | exact one_iS _ _ | rfl | apply one_take | apply one_drop | apply one_append)); done))))) <;> (try (conv => whnf))
          refine Then.mk (AWq.in ?_)
          refine AWp_cutd (H2 := wcH H w r ⟨σ.V + X, Y, σ.L⟩) [(0, .ptr w 0 0)] rfl ⟨rfl, trivial⟩ (fun _ => rfl) (HLe.of_eq ?_) ?_
          · have hd8 : (UInt8.ofNat (top / 256 ^ k % 256 + 1)).toNat = top / 256 ^ k % 256 + 1 := by simp; omega
            have e : wcH H w r ⟨σ.V + X, Y, σ.L⟩ = wtH H w r v (dig σ.L (top + 1)) (low + X - 4294967296) Y := by
              unfold wcH
              dsimp only
              rw [hv, show (σ.V + X) / 4294967296 = top + 1 by omega, show (σ.V + X) % 4294967296 = low + X - 4294967296 by omega]
            rw [e, ← hset _ (dig_len _ _), ← car_end hk1 hk2 h255, ← car_wr hk1, hd8]
            show _ = (wtH H w r v (car σ.L top k) (low + X - 4294967296) Y).set r (.row (wrA z (0 + ((σ.L : Int) - 1 - k).toNat * 1) [.int .u8 (((top / 256 ^ k % 256 : Nat) : Int) + 1)]) v)
            rw [Nat.zero_add, Nat.mul_one, hix, hz]
            rfl
          exact tail.out
    · (repeat' ((conv => whnf); first | left | refine OpsA.cons ?_ | refine OpsA.nil ?_ | refine AWq.seq ?_ | refine AWq.region ?_ | refine AWq.cond ?_ | refine AWq.block ?_ | refine AWq.skip ?_ | refine AWq.ret ?_ | refine AWq.exit ?_ | refine AWq.loop ?_ | refine DrawA.consD ?_ | refine DrawA.nil ?_ | refine DrawF.consD ?_ | refine DrawF.nil ?_ | refine AWq.draw (by decide +kernel) ?_ | (refine Both.mk ?_ ?_ <;> intro hc <;> (first | exact Bool.noConfusion hc | exact absurd (by with_reducible rfl) hc | exact (hc : False).elim | exact absurd (by assumption) hc | exact absurd hc (by assumption) | (exfalso; omega) | exact absurd hc (by decide) | skip)) | (intro c hc; (try (simp only [AH.none_iff] at hc; repeat (have hn := hc.1; replace hc := hc.2))); (first | (have hc2 := Eq.trans hc (by with_reducible assumption); clear hc; subst hc2) | (refine i64_k hc ?_ ?_ ?_ ; omega; omega; (clear hc; intro hc; subst hc)) | (refine u64_k hc ?_ ?_ ?_ ; omega; omega; (clear hc; intro hc; subst hc)) | (refine u8_k hc ?_ ?_ ?_ ; omega; omega; (clear hc; intro hc; subst hc)) | subst hc | skip)) | (apply Exists.intro; apply And.intro; (focus (repeat (first | assumption | exact AH.set_same _ _ _ | ((first | refine AH.get_ne ?_ ?_ | refine AH.getd_ne ?_ ?_); (first | assumption | omega | exact Ne.symm (by assumption) | exact AH.ne_none (by assumption) (by assumption) | exact AH.none_ne (by assumption) (by assumption) | exact (AH.none_set (by assumption)).1 | exact Ne.symm (AH.none_set (by assumption)).1)))); done)) | (apply Exists.intro; apply And.intro; first | (with_reducible assumption) | ((try simp only [List.getElem?_drop, Nat.mul_one, Nat.add_zero, Nat.zero_add]); first | (with_reducible assumption) | (refine u8s_get ?_; omega) | (refine iS_get ?_; omega) | assumption | rfl)) | (apply And.intro; (first | rfl | (with_reducible assumption) | exact Nat.le_of_ble_eq_true rfl | omega | (exact Int.ofNat_lt.2 (Nat.lt_of_lt_of_eq (by with_reducible assumption) (by decide +kernel))) | assumption | (simp <;> fail) | (simp <;> omega) | (focus (repeat' (first | exact one_u8s _ | exact one_iS _ _ | rfl | apply one_take | apply one_drop | apply one_append)); done))))) <;> (try (conv => whnf))
      refine Then.mk ?_
      (repeat' ((conv => whnf); first | left | refine OpsA.cons ?_ | refine OpsA.nil ?_ | refine AWq.seq ?_ | refine AWq.region ?_ | refine AWq.cond ?_ | refine AWq.block ?_ | refine AWq.skip ?_ | refine AWq.ret ?_ | refine AWq.exit ?_ | refine AWq.loop ?_ | refine DrawA.consD ?_ | refine DrawA.nil ?_ | refine DrawF.consD ?_ | refine DrawF.nil ?_ | refine AWq.draw (by decide +kernel) ?_ | (refine Both.mk ?_ ?_ <;> intro hc <;> (first | exact Bool.noConfusion hc | exact absurd (by with_reducible rfl) hc | exact (hc : False).elim | exact absurd (by assumption) hc | exact absurd hc (by assumption) | (exfalso; omega) | exact absurd hc (by decide) | skip)) | (intro c hc; (try (simp only [AH.none_iff] at hc; repeat (have hn := hc.1; replace hc := hc.2))); (first | (have hc2 := Eq.trans hc (by with_reducible assumption); clear hc; subst hc2) | (refine i64_k hc ?_ ?_ ?_ ; omega; omega; (clear hc; intro hc; subst hc)) | (refine u64_k hc ?_ ?_ ?_ ; omega; omega; (clear hc; intro hc; subst hc)) | (refine u8_k hc ?_ ?_ ?_ ; omega; omega; (clear hc; intro hc; subst hc)) | subst hc | skip)) | (apply Exists.intro; apply And.intro; (focus (repeat (first | assumption | exact AH.set_same _ _ _ | ((first | refine AH.get_ne ?_ ?_ | refine AH.getd_ne ?_ ?_); (first | assumption | omega | exact Ne.symm (by assumption) | exact AH.ne_none (by assumption) (by assumption) | exact AH.none_ne (by assumption) (by assumption) | exact (AH.none_set (by assumption)).1 | exact Ne.symm (AH.none_set (by assumption)).1)))); done)) | (apply Exists.intro; apply And.intro; first | (with_reducible assumption) | ((try simp only [List.getElem?_drop, Nat.mul_one, Nat.add_zero, Nat.zero_add]); first | (with_reducible assumption) | (refine u8s_get ?_; omega) | (refine iS_get ?_; omega) | assumption | rfl)) | (apply And.intro; (first | rfl | (with_reducible assumption) | exact Nat.le_of_ble_eq_true rfl | omega | (exact Int.ofNat_lt.2 (Nat.lt_of_lt_of_eq (by with_reducible assumption) (by decide +kernel))) | assumption | (simp <;> fail) | (simp <;> omega) | (focus (repeat' (first | exact one_u8s _ | exact one_iS _ _ | rfl | apply one_take | apply one_drop | apply one_append)); done))))) <;> (try (conv => whnf))
      refine Then.mk (AWq.in ?_)
      refine AWp_cutd (H2 := wcH H w r ⟨σ.V + X, Y, σ.L⟩) [(0, .ptr w 0 0)] rfl ⟨rfl, trivial⟩ (fun _ => rfl) (HLe.of_eq ?_) ?_
      · unfold wcH
        dsimp only
        rw [hv, show (σ.V + X) / 4294967296 = top by omega, show (σ.V + X) % 4294967296 = low + X by omega]
      exact tail.out
  case tl =>
  have hP : 4294967296 * 256 ^ σ.L = 4294967296 * 256 ^ σ.L := rfl
  refine AWp.of tt_ok (dok _) rfl ?_
  clear hn hw htl hlb hlow htop
  (repeat' ((conv => whnf); first | refine Then.mk ?_ | left | refine OpsA.cons ?_ | refine OpsA.nil ?_ | refine AWq.seq ?_ | refine AWq.region ?_ | refine AWq.cond ?_ | refine AWq.block ?_ | refine AWq.skip ?_ | refine AWq.ret ?_ | refine AWq.exit ?_ | refine AWq.loop ?_ | refine DrawA.consD ?_ | refine DrawA.nil ?_ | refine DrawF.consD ?_ | refine DrawF.nil ?_ | refine AWq.draw (by decide +kernel) ?_ | (refine Both.mk ?_ ?_ <;> intro hc <;> (first | exact Bool.noConfusion hc | exact absurd (by with_reducible rfl) hc | exact (hc : False).elim | exact absurd (by assumption) hc | exact absurd hc (by assumption) | (exfalso; omega) | exact absurd hc (by decide) | skip)) | (intro c hc; (try (simp only [AH.none_iff] at hc; repeat (have hn := hc.1; replace hc := hc.2))); (first | (have hc2 := Eq.trans hc (by with_reducible assumption); clear hc; subst hc2) | (refine i64_k hc ?_ ?_ ?_ ; omega; omega; (clear hc; intro hc; subst hc)) | (refine u64_k hc ?_ ?_ ?_ ; omega; omega; (clear hc; intro hc; subst hc)) | (refine u8_k hc ?_ ?_ ?_ ; omega; omega; (clear hc; intro hc; subst hc)) | subst hc | skip)) | (apply Exists.intro; apply And.intro; (focus (repeat (first | assumption | exact AH.set_same _ _ _ | ((first | refine AH.get_ne ?_ ?_ | refine AH.getd_ne ?_ ?_); (first | assumption | omega | exact Ne.symm (by assumption) | exact AH.ne_none (by assumption) (by assumption) | exact AH.none_ne (by assumption) (by assumption) | exact (AH.none_set (by assumption)).1 | exact Ne.symm (AH.none_set (by assumption)).1)))); done)) | (apply Exists.intro; apply And.intro; first | (with_reducible assumption) | ((try simp only [List.getElem?_drop, Nat.mul_one, Nat.add_zero, Nat.zero_add]); first | (with_reducible assumption) | (refine u8s_get ?_; omega) | (refine iS_get ?_; omega) | assumption | rfl)) | (apply And.intro; (first | rfl | (with_reducible assumption) | exact Nat.le_of_ble_eq_true rfl | omega | (exact Int.ofNat_lt.2 (Nat.lt_of_lt_of_eq (by with_reducible assumption) (by decide +kernel))) | assumption | (simp <;> fail) | (simp <;> omega) | (focus (repeat' (first | exact one_u8s _ | exact one_iS _ _ | rfl | apply one_take | apply one_drop | apply one_append)); done))))) <;> (try (conv => whnf))
  refine AWp_loop (σ := Nat × Cs) (71 :: 72 :: 73 :: 74 :: 75 :: 76 :: 77 :: 78 :: 79 :: 80 :: 81 :: 82 :: 83 :: 84 :: 85 :: 86 :: 87 :: 88 :: 89 :: 90 :: 91 :: 92 :: 93 :: 94 :: 95 :: 96 :: 97 :: 98 :: 99 :: 100 :: 101 :: 102 :: 103 :: 104 :: 105 :: 106 :: 107 :: 108 :: 109 :: 110 :: 111 :: 112 :: []) (fun (f, τ) => []) (fun (f, τ) => wcH H w r τ) (fun (f, τ) => shf f τ = shf 3 ⟨σ.V + X, Y, σ.L⟩ ∧ 16777216 ≤ τ.W * 256 ^ f ∧ τ.W ≤ 4294967296 ∧ τ.L + f ≤ σ.L + 3) (fun (f, τ) => f) (3, ⟨σ.V + X, Y, σ.L⟩) rfl ?_ ?_ ?_ ?_
  · refine ⟨rfl, ?_, by show Y ≤ _; omega, Nat.le_refl _⟩
    show 16777216 ≤ Y * 256 ^ 3
    rw [show (256 : Nat) ^ 3 = 16777216 by decide]; omega
  · exact trivial
  · exact HLe.refl _
  · rintro ⟨f, τ⟩ ⟨h1, h2, h3, h4⟩
    dsimp only at h1 h2 h3 h4 ⊢
    refine AWp.of tt_ok (dok _) rfl ?_
    obtain ⟨lo, hlo⟩ : ∃ lo, lo = τ.V % 4294967296 := ⟨_, rfl⟩
    obtain ⟨tp, htp⟩ : ∃ tp, tp = τ.V / 4294967296 := ⟨_, rfl⟩
    obtain ⟨v', hv'⟩ : ∃ v', v' = τ.L := ⟨_, rfl⟩
    have hH : wcH H w r τ = wtH H w r v' (dig τ.L tp) lo τ.W := by rw [hlo, htp, hv']; rfl
    rw [hH]
    have hw1 : wtH H w r v' (dig τ.L tp) lo τ.W w = some (.row [.int .u64 lo, .int .u64 τ.W, .sl r v' 1 0 τ.L none] 0) := by
      unfold wtH; rw [dig_len]; exact AH.set_same _ _ _
    have hr1 : wtH H w r v' (dig τ.L tp) lo τ.W r = some (.row (u8s (dig τ.L tp)) v') := by
      unfold wtH; rw [AH.set_ne _ _ hrw, AH.set_same]
    have hll : (u8s (dig τ.L tp)).length = τ.L := by simp [u8s]
    have hlb : lo < 4294967296 := by omega
    by_cases hsm : τ.W < 16777216
    · have hf : f ≠ 0 := fun e => by subst e; simp at h2; omega
      obtain ⟨z, hz⟩ : ∃ z, z = u8s (dig τ.L tp) := ⟨_, rfl⟩
      rw [← hz] at hr1 hll
      obtain ⟨G, hG⟩ : ∃ G, G = wtH H w r v' (dig τ.L tp) lo τ.W := ⟨_, rfl⟩
      rw [← hG] at hw1 hr1 ⊢
      obtain ⟨L, hLe⟩ : ∃ L, L = τ.L := ⟨_, rfl⟩
      rw [← hLe] at hw1 hll h4
      have hLb : L ≤ 2000000000000 := by omega
      have s1 : (lo : Int).fdiv (2 ^ min (Int.toNat 24) IntKind.u64.bits) = (lo / 16777216 : Nat) := by
        rw [show (2 : Int) ^ min (Int.toNat 24) IntKind.u64.bits = 16777216 by decide, Int.fdiv_eq_ediv_of_nonneg _ (by omega)]; omega
      have s2 : IntKind.u8.wrap (lo / 16777216 : Nat) = (lo / 16777216 : Nat) := by rw [wrap_u8']; omega
      have s3 : IntKind.u64.wrap ((lo : Int) * 2 ^ min (Int.toNat 8) IntKind.u64.bits) = (lo * 256 : Nat) := by
        rw [show (2 : Int) ^ min (Int.toNat 8) IntKind.u64.bits = 256 by decide, wrap_u64']; omega
      have s4 : ((lo * 256 : Nat) : Int).tmod 4294967296 = (lo * 256 % 4294967296 : Nat) := by
        rw [Int.tmod_eq_emod_of_nonneg (by omega)]; omega
      have s5 : IntKind.u64.wrap ((τ.W : Int) * 2 ^ min (Int.toNat 8) IntKind.u64.bits) = (τ.W * 256 : Nat) := by
        rw [show (2 : Int) ^ min (Int.toNat 8) IntKind.u64.bits = 256 by decide, wrap_u64']; omega
      have kk := Kept.mk (And.intro h1 (And.intro h2 (And.intro h4 (And.intro hlo (And.intro htp (And.intro hz (And.intro hG (And.intro hLe hv'))))))))
      clear h1 h2 h4 hlo htp hz hG hLe hv' hv hX hY k1 k2 k3 k4 hi hL hP hroom
      (repeat' ((conv => whnf); first | refine Then.mk ?_ | left | refine OpsA.cons ?_ | refine OpsA.nil ?_ | refine AWq.seq ?_ | refine AWq.region ?_ | refine AWq.cond ?_ | refine AWq.block ?_ | refine AWq.skip ?_ | refine AWq.ret ?_ | refine AWq.exit ?_ | refine AWq.loop ?_ | refine DrawA.consD ?_ | refine DrawA.nil ?_ | refine DrawF.consD ?_ | refine DrawF.nil ?_ | refine AWq.draw (by decide +kernel) ?_ | (refine Both.mk ?_ ?_ <;> intro hc <;> (first | exact Bool.noConfusion hc | exact absurd (by with_reducible rfl) hc | exact (hc : False).elim | exact absurd (by assumption) hc | exact absurd hc (by assumption) | (exfalso; omega) | exact absurd hc (by decide) | skip)) | (intro c hc; (try (simp only [AH.none_iff] at hc; repeat (have hn := hc.1; replace hc := hc.2))); (first | (have hc2 := Eq.trans hc (by with_reducible assumption); clear hc; subst hc2) | (refine i64_k hc ?_ ?_ ?_ ; omega; omega; (clear hc; intro hc; subst hc)) | (refine u64_k hc ?_ ?_ ?_ ; omega; omega; (clear hc; intro hc; subst hc)) | (refine u8_k hc ?_ ?_ ?_ ; omega; omega; (clear hc; intro hc; subst hc)) | subst hc | skip)) | (apply Exists.intro; apply And.intro; (focus (repeat (first | assumption | exact AH.set_same _ _ _ | ((first | refine AH.get_ne ?_ ?_ | refine AH.getd_ne ?_ ?_); (first | assumption | omega | exact Ne.symm (by assumption) | exact AH.ne_none (by assumption) (by assumption) | exact AH.none_ne (by assumption) (by assumption) | exact (AH.none_set (by assumption)).1 | exact Ne.symm (AH.none_set (by assumption)).1)))); done)) | (apply Exists.intro; apply And.intro; first | (with_reducible assumption) | ((try simp only [List.getElem?_drop, Nat.mul_one, Nat.add_zero, Nat.zero_add]); first | (with_reducible assumption) | (refine u8s_get ?_; omega) | (refine iS_get ?_; omega) | assumption | rfl)) | (apply And.intro; (first | rfl | (with_reducible assumption) | exact Nat.le_of_ble_eq_true rfl | omega | (exact Int.ofNat_lt.2 (Nat.lt_of_lt_of_eq (by with_reducible assumption) (by decide +kernel))) | assumption | (simp <;> fail) | (simp <;> omega) | (focus (repeat' (first | exact one_u8s _ | exact one_iS _ _ | rfl | apply one_take | apply one_drop | apply one_append)); done))))) <;> (try (conv => whnf))
      obtain ⟨h1, h2, h4, hlo, htp, hz, hG, hLe, hv'⟩ := kk.out
      have hsf : shf f τ = shf (f - 1) ⟨τ.V * 256, τ.W * 256, τ.L + 1⟩ := by
        obtain ⟨g, rfl⟩ : ∃ g, f = g + 1 := ⟨f - 1, by omega⟩
        exact if_pos hsm
      refine ⟨(f - 1, ⟨τ.V * 256, τ.W * 256, τ.L + 1⟩), ⟨?_, ?_, ?_, ?_⟩, ?_, trivial, HLe.of_eq ?_⟩
      · dsimp only; rw [← hsf]; exact h1
      · show 16777216 ≤ τ.W * 256 * 256 ^ (f - 1)
        rw [Nat.mul_assoc, ← Nat.pow_succ', show (f - 1).succ = f by omega]; exact h2
      · show τ.W * 256 ≤ 4294967296
        omega
      · show τ.L + 1 + (f - 1) ≤ _
        omega
      · show f - 1 < f
        omega
      · have b1 : z ++ [AV.int .u8 ((lo / 16777216 : Nat) : Int)] = u8s (dig (τ.L + 1) (τ.V * 256 / 4294967296)) := by
          rw [show τ.V * 256 / 4294967296 = tp * 256 + lo / 16777216 by omega, dig_snoc _ _ _ (by omega), hz, ← u8s_append]
          have : (UInt8.ofNat (lo / 16777216)).toNat = lo / 16777216 := by simp; omega
          show _ = _ ++ [AV.int .u8 ((UInt8.ofNat (lo / 16777216)).toNat : Int)]
          rw [this]
        show wcH H w r ⟨τ.V * 256, τ.W * 256, τ.L + 1⟩ = (((G.set r (.row (z ++ [AV.int .u8 ((lo / 16777216 : Nat) : Int)]) (v' + 1))).set w (.row [.int .u64 lo, .int .u64 τ.W, .sl r (v' + 1) 1 0 (L + 1) none] 0)).set w (.row [.int .u64 (lo * 256 % 4294967296 : Nat), .int .u64 τ.W, .sl r (v' + 1) 1 0 (L + 1) none] 0)).set w (.row [.int .u64 (lo * 256 % 4294967296 : Nat), .int .u64 (τ.W * 256 : Nat), .sl r (v' + 1) 1 0 (L + 1) none] 0)
        rw [b1, AH.set_set, AH.set_set, hG, hLe, hv']
        unfold wcH wtH
        dsimp only
        rw [AH.set_back _ hrw, AH.set_set, dig_len, show τ.V * 256 % 4294967296 = lo * 256 % 4294967296 by omega]
    · (repeat' ((conv => whnf); first | refine Then.mk ?_ | left | refine OpsA.cons ?_ | refine OpsA.nil ?_ | refine AWq.seq ?_ | refine AWq.region ?_ | refine AWq.cond ?_ | refine AWq.block ?_ | refine AWq.skip ?_ | refine AWq.ret ?_ | refine AWq.exit ?_ | refine AWq.loop ?_ | refine DrawA.consD ?_ | refine DrawA.nil ?_ | refine DrawF.consD ?_ | refine DrawF.nil ?_ | refine AWq.draw (by decide +kernel) ?_ | (refine Both.mk ?_ ?_ <;> intro hc <;> (first | exact Bool.noConfusion hc | exact absurd (by with_reducible rfl) hc | exact (hc : False).elim | exact absurd (by assumption) hc | exact absurd hc (by assumption) | (exfalso; omega) | exact absurd hc (by decide) | skip)) | (intro c hc; (try (simp only [AH.none_iff] at hc; repeat (have hn := hc.1; replace hc := hc.2))); (first | (have hc2 := Eq.trans hc (by with_reducible assumption); clear hc; subst hc2) | (refine i64_k hc ?_ ?_ ?_ ; omega; omega; (clear hc; intro hc; subst hc)) | (refine u64_k hc ?_ ?_ ?_ ; omega; omega; (clear hc; intro hc; subst hc)) | (refine u8_k hc ?_ ?_ ?_ ; omega; omega; (clear hc; intro hc; subst hc)) | subst hc | skip)) | (apply Exists.intro; apply And.intro; (focus (repeat (first | assumption | exact AH.set_same _ _ _ | ((first | refine AH.get_ne ?_ ?_ | refine AH.getd_ne ?_ ?_); (first | assumption | omega | exact Ne.symm (by assumption) | exact AH.ne_none (by assumption) (by assumption) | exact AH.none_ne (by assumption) (by assumption) | exact (AH.none_set (by assumption)).1 | exact Ne.symm (AH.none_set (by assumption)).1)))); done)) | (apply Exists.intro; apply And.intro; first | (with_reducible assumption) | ((try simp only [List.getElem?_drop, Nat.mul_one, Nat.add_zero, Nat.zero_add]); first | (with_reducible assumption) | (refine u8s_get ?_; omega) | (refine iS_get ?_; omega) | assumption | rfl)) | (apply And.intro; (first | rfl | (with_reducible assumption) | exact Nat.le_of_ble_eq_true rfl | omega | (exact Int.ofNat_lt.2 (Nat.lt_of_lt_of_eq (by with_reducible assumption) (by decide +kernel))) | assumption | (simp <;> fail) | (simp <;> omega) | (focus (repeat' (first | exact one_u8s _ | exact one_iS _ _ | rfl | apply one_take | apply one_drop | apply one_append)); done))))) <;> (try (conv => whnf))
      rw [← hH, ← h1, shf_done (by omega)]
end Go.Proofs.Ytgmooalikccbiaa
/- The walks of the coder's writer: symbols, the code. -/
namespace Go.Proofs.Ytgmooalikccbiaa
open Go.Fw Go
set_option linter.unusedVariables false
set_option linter.unusedSimpArgs false

set_option maxRecDepth 8000 in
theorem writer_c (H : AH) : ACall Try.prog 40 [] H (fun y H' => ∃ w r, H w = none ∧ H r = none ∧ w ≠ r ∧ y = .ptr w 0 0 ∧ H' = wcH H w r cs0) := by
  refine ACall_of tt_ok (dok _) Try.func40 rfl (by decide) rfl ?_
  (repeat' ((conv => whnf); first | left | refine OpsA.cons ?_ | refine OpsA.nil ?_ | refine AWq.seq ?_ | refine AWq.region ?_ | refine AWq.cond ?_ | refine AWq.skip ?_ | refine AWq.ret ?_ | (refine Both.mk ?_ ?_ <;> intro hc <;> (first | exact Bool.noConfusion hc | exact absurd (by with_reducible rfl) hc | exact (hc : False).elim | exact absurd (by assumption) hc | exact absurd hc (by assumption) | (exfalso; omega) | exact absurd hc (by decide) | skip)) | (intro c hc; (try (simp only [AH.none_iff] at hc; repeat (have hn := hc.1; replace hc := hc.2))); (first | (have hc2 := Eq.trans hc (by with_reducible assumption); clear hc; subst hc2) | (refine i64_k hc ?_ ?_ ?_ ; omega; omega; (clear hc; intro hc; subst hc)) | (refine u64_k hc ?_ ?_ ?_ ; omega; omega; (clear hc; intro hc; subst hc)) | (refine u8_k hc ?_ ?_ ?_ ; omega; omega; (clear hc; intro hc; subst hc)) | subst hc | skip)) | (apply Exists.intro; apply And.intro; (focus (repeat (first | assumption | exact AH.set_same _ _ _ | ((first | refine AH.get_ne ?_ ?_ | refine AH.getd_ne ?_ ?_); (first | assumption | omega | exact Ne.symm (by assumption) | exact AH.ne_none (by assumption) (by assumption) | exact AH.none_ne (by assumption) (by assumption) | exact (AH.none_set (by assumption)).1 | exact Ne.symm (AH.none_set (by assumption)).1)))); done)) | (apply Exists.intro; apply And.intro; first | (with_reducible assumption) | ((try simp only [List.getElem?_drop, Nat.mul_one, Nat.add_zero, Nat.zero_add]); first | (with_reducible assumption) | (refine u8s_get ?_; omega) | (refine iS_get ?_; omega) | assumption | rfl)) | (apply And.intro; (first | rfl | (with_reducible assumption) | exact Nat.le_of_ble_eq_true rfl | omega | (exact Int.ofNat_lt.2 (Nat.lt_of_lt_of_eq (by with_reducible assumption) (by decide +kernel))) | assumption | (simp <;> fail) | (simp <;> omega) | (focus (repeat' (first | exact one_u8s _ | exact one_iS _ _ | rfl | apply one_take | apply one_drop | apply one_append)); done))))) <;> (try (conv => whnf))
  refine Then.mk ?_
  (repeat' ((conv => whnf); first | left | refine OpsA.cons ?_ | refine OpsA.nil ?_ | refine AWq.seq ?_ | refine AWq.region ?_ | refine AWq.cond ?_ | refine AWq.skip ?_ | refine AWq.ret ?_ | (refine Both.mk ?_ ?_ <;> intro hc <;> (first | exact Bool.noConfusion hc | exact absurd (by with_reducible rfl) hc | exact (hc : False).elim | exact absurd (by assumption) hc | exact absurd hc (by assumption) | (exfalso; omega) | exact absurd hc (by decide) | skip)) | (intro c hc; (try (simp only [AH.none_iff] at hc; repeat (have hn := hc.1; replace hc := hc.2))); (first | (have hc2 := Eq.trans hc (by with_reducible assumption); clear hc; subst hc2) | (refine i64_k hc ?_ ?_ ?_ ; omega; omega; (clear hc; intro hc; subst hc)) | (refine u64_k hc ?_ ?_ ?_ ; omega; omega; (clear hc; intro hc; subst hc)) | (refine u8_k hc ?_ ?_ ?_ ; omega; omega; (clear hc; intro hc; subst hc)) | subst hc | skip)) | (apply Exists.intro; apply And.intro; (focus (repeat (first | assumption | exact AH.set_same _ _ _ | ((first | refine AH.get_ne ?_ ?_ | refine AH.getd_ne ?_ ?_); (first | assumption | omega | exact Ne.symm (by assumption) | exact AH.ne_none (by assumption) (by assumption) | exact AH.none_ne (by assumption) (by assumption) | exact (AH.none_set (by assumption)).1 | exact Ne.symm (AH.none_set (by assumption)).1)))); done)) | (apply Exists.intro; apply And.intro; first | (with_reducible assumption) | ((try simp only [List.getElem?_drop, Nat.mul_one, Nat.add_zero, Nat.zero_add]); first | (with_reducible assumption) | (refine u8s_get ?_; omega) | (refine iS_get ?_; omega) | assumption | rfl)) | (apply And.intro; (first | rfl | (with_reducible assumption) | exact Nat.le_of_ble_eq_true rfl | omega | (exact Int.ofNat_lt.2 (Nat.lt_of_lt_of_eq (by with_reducible assumption) (by decide +kernel))) | assumption | (simp <;> fail) | (simp <;> omega) | (focus (repeat' (first | exact one_u8s _ | exact one_iS _ _ | rfl | apply one_take | apply one_drop | apply one_append)); done))))) <;> (try (conv => whnf))
  refine Then.mk (AWq.in ?_)
  refine AWp_nilC 1 [.int .u64 0, .int .u64 4294967296] [] (p := c) (u := 0) (AH.set_same _ _ _) fun r hr hrw => ?_
  have hrH := (AH.none_set hr).2
  refine AWp.of tt_ok (dok _) rfl ?_
  (repeat' ((conv => whnf); first | refine Then.mk ?_ | left | refine OpsA.cons ?_ | refine OpsA.nil ?_ | refine AWq.seq ?_ | refine AWq.region ?_ | refine AWq.cond ?_ | refine AWq.skip ?_ | refine AWq.ret ?_ | (refine Both.mk ?_ ?_ <;> intro hc <;> (first | exact Bool.noConfusion hc | exact absurd (by with_reducible rfl) hc | exact (hc : False).elim | exact absurd (by assumption) hc | exact absurd hc (by assumption) | (exfalso; omega) | exact absurd hc (by decide) | skip)) | (intro c hc; (try (simp only [AH.none_iff] at hc; repeat (have hn := hc.1; replace hc := hc.2))); (first | (have hc2 := Eq.trans hc (by with_reducible assumption); clear hc; subst hc2) | (refine i64_k hc ?_ ?_ ?_ ; omega; omega; (clear hc; intro hc; subst hc)) | (refine u64_k hc ?_ ?_ ?_ ; omega; omega; (clear hc; intro hc; subst hc)) | (refine u8_k hc ?_ ?_ ?_ ; omega; omega; (clear hc; intro hc; subst hc)) | subst hc | skip)) | (apply Exists.intro; apply And.intro; (focus (repeat (first | assumption | exact AH.set_same _ _ _ | ((first | refine AH.get_ne ?_ ?_ | refine AH.getd_ne ?_ ?_); (first | assumption | omega | exact Ne.symm (by assumption) | exact AH.ne_none (by assumption) (by assumption) | exact AH.none_ne (by assumption) (by assumption) | exact (AH.none_set (by assumption)).1 | exact Ne.symm (AH.none_set (by assumption)).1)))); done)) | (apply Exists.intro; apply And.intro; first | (with_reducible assumption) | ((try simp only [List.getElem?_drop, Nat.mul_one, Nat.add_zero, Nat.zero_add]); first | (with_reducible assumption) | (refine u8s_get ?_; omega) | (refine iS_get ?_; omega) | assumption | rfl)) | (apply And.intro; (first | rfl | (with_reducible assumption) | exact Nat.le_of_ble_eq_true rfl | omega | (exact Int.ofNat_lt.2 (Nat.lt_of_lt_of_eq (by with_reducible assumption) (by decide +kernel))) | assumption | (simp <;> fail) | (simp <;> omega) | (focus (repeat' (first | exact one_u8s _ | exact one_iS _ _ | rfl | apply one_take | apply one_drop | apply one_append)); done))))) <;> (try (conv => whnf))
  refine ⟨c, r, hc, hrH, Ne.symm hrw, rfl, ?_⟩
  exact (AH.set_back H (Ne.symm hrw) _ _ _).trans (AH.set_comm _ _ _ (Ne.symm hrw))

/-- A writer stands here. -/
structure WrAt (H : AH) (w r : Nat) (σ : Cs) : Prop where
  hw : H w = some (.row [.int .u64 (σ.V % 4294967296 : Nat), .int .u64 σ.W, .sl r σ.L 1 0 σ.L none] 0)
  hr : H r = some (.row (u8s (dig σ.L (σ.V / 4294967296))) σ.L)
  ne : w ≠ r
theorem WrAt.eq {H : AH} {w r : Nat} {σ : Cs} (h : WrAt H w r σ) : wcH H w r σ = H := by
  unfold wcH wtH
  rw [AH.set_id h.hr, dig_len]
  exact AH.set_id h.hw
theorem WrAt.set {H : AH} {w r : Nat} {σ : Cs} (h : w ≠ r) : WrAt (wcH H w r σ) w r σ := by
  refine ⟨?_, ?_, h⟩
  · unfold wcH wtH; rw [AH.set_same, dig_len]
  · unfold wcH wtH; rw [AH.set_ne _ _ (Ne.symm h), AH.set_same]
theorem wcH_ne {H : AH} {w r a : Nat} {σ : Cs} (h1 : a ≠ w) (h2 : a ≠ r) : wcH H w r σ a = H a := by
  unfold wcH wtH
  rw [AH.set_ne _ _ h1, AH.set_ne _ _ h2]
theorem mdH_ne {H : AH} {p q n a : Nat} {c : Nat → Nat} (h1 : a ≠ p) (h2 : a ≠ q) : mdH H p q n c a = H a := by
  unfold mdH
  rw [AH.set_ne _ _ h1, AH.set_ne _ _ h2]
theorem MdAt.same {H G : AH} {p q n : Nat} {c : Nat → Nat} (h : MdAt H p q n c) (h1 : G p = H p) (h2 : G q = H q) : MdAt G p q n c :=
  ⟨by rw [h1]; exact h.hp, by rw [h2]; exact h.hq, h.ne, h.ok⟩
theorem WrAt.same {H G : AH} {w r : Nat} {σ : Cs} (h : WrAt H w r σ) (h1 : G w = H w) (h2 : G r = H r) : WrAt G w r σ :=
  ⟨by rw [h1]; exact h.hw, by rw [h2]; exact h.hr, h.ne⟩
theorem k_step_c {G : AH} {w r : Nat} {σ : Cs} {p c t : Nat} (hw : WrAt G w r σ) (hc : CsOk σ) (hs : StOk p c t) (hL : σ.L ≤ 1000000000000) :
    ACall Try.prog 49 [.ptr w 0 0, .int .i64 p, .int .i64 c, .int .i64 t] G (fun y H' => y = .tup [] ∧ H' = wcH G w r (stp σ p c t)) := by
  have := wstep_c (H := G) hw.ne hc hs hL
  rwa [hw.eq] at this

set_option maxRecDepth 8000 in
theorem symbol_c {G : AH} {w r p q n : Nat} {σ : Cs} {c : Nat → Nat} {s : Nat} (hw : WrAt G w r σ) (hm : MdAt G p q n c) (h1 : p ≠ w) (h2 : p ≠ r) (h3 : q ≠ w) (h4 : q ≠ r) (hs : s < n) (hc : CsOk σ) (hL : σ.L ≤ 1000000000000) :
    ACall Try.prog 41 [.ptr w 0 0, .ptr p 0 0, .int .i64 s] G (fun y H' => y = .tup [] ∧ H' = mdH (wcH G w r (stp σ (plc c s) (c s) (plc c n))) p q n (seeM n c s)) := by
  have hp := place_c hm s (by omega)
  have hst : StOk (plc c s) (c s) (plc c n) := ⟨hm.ok.pos s hs, plc_one hs, hm.ok.sum⟩
  have hstep := k_step_c hw hc hst hL
  have hsee := see_c (hm.same (G := wcH G w r (stp σ (plc c s) (c s) (plc c n))) (wcH_ne h1 h2) (wcH_ne h3 h4)) s hs
  have hmp := hm.hp
  have hmq := hm.hq
  have hcell := iL_gi (fun k => (c k : Int)) hs
  have hlen : (iL n fun k => (c k : Int)).length = n := iL_len _ _
  generalize (iL n fun k => (c k : Int)) = cells at *
  have hts := hm.ok.sum
  obtain ⟨T, hT⟩ : ∃ T, T = plc c n := ⟨_, rfl⟩
  obtain ⟨A, hA⟩ : ∃ A, A = plc c s := ⟨_, rfl⟩
  rw [← hT] at hmp hstep hsee hts ⊢
  rw [← hA] at hp hstep hsee ⊢
  refine ACall_of tt_ok (dok _) Try.func41 rfl (by decide) rfl ?_
  (repeat' ((conv => whnf); first | refine AWq.drawM ([21], []) (by decide +kernel) ?_ | refine Then.mk ?_ | left | refine OpsA.cons ?_ | refine OpsA.nil ?_ | refine AWq.seq ?_ | refine AWq.region ?_ | refine AWq.cond ?_ | refine AWq.skip ?_ | refine AWq.ret ?_ | refine DrawA.consD ?_ | refine DrawA.nil ?_ | refine DrawF.consD ?_ | refine DrawF.nil ?_ | refine AWq.draw (by decide +kernel) ?_ | (refine ACall.to (hp) ?_) | (refine ACall.to (hstep) ?_) | (refine ACall.to (hsee) ?_) | (apply Exists.intro; apply And.intro; exact hp) | (apply Exists.intro; apply And.intro; exact hstep) | (apply Exists.intro; apply And.intro; exact hsee) | (apply Exists.intro; apply Exists.intro; apply And.intro; exact hp) | (apply Exists.intro; apply Exists.intro; apply And.intro; exact hstep) | (apply Exists.intro; apply Exists.intro; apply And.intro; exact hsee) | (refine Both.mk ?_ ?_ <;> intro hc <;> (first | exact Bool.noConfusion hc | exact absurd (by with_reducible rfl) hc | exact (hc : False).elim | exact absurd (by assumption) hc | exact absurd hc (by assumption) | (exfalso; omega) | exact absurd hc (by decide) | skip)) | (intro c hc; (try (simp only [AH.none_iff] at hc; repeat (have hn := hc.1; replace hc := hc.2))); (first | (have hc2 := Eq.trans hc (by with_reducible assumption); clear hc; subst hc2) | (refine i64_k hc ?_ ?_ ?_ ; omega; omega; (clear hc; intro hc; subst hc)) | (refine u64_k hc ?_ ?_ ?_ ; omega; omega; (clear hc; intro hc; subst hc)) | (refine u8_k hc ?_ ?_ ?_ ; omega; omega; (clear hc; intro hc; subst hc)) | subst hc | skip)) | (apply Exists.intro; apply And.intro; (focus (repeat (first | assumption | exact AH.set_same _ _ _ | ((first | refine AH.get_ne ?_ ?_ | refine AH.getd_ne ?_ ?_); (first | assumption | omega | exact Ne.symm (by assumption) | exact AH.ne_none (by assumption) (by assumption) | exact AH.none_ne (by assumption) (by assumption) | exact (AH.none_set (by assumption)).1 | exact Ne.symm (AH.none_set (by assumption)).1)))); done)) | (apply Exists.intro; apply And.intro; first | (with_reducible assumption) | ((try simp only [List.getElem?_drop, Nat.mul_one, Nat.add_zero, Nat.zero_add]); first | (with_reducible assumption) | (refine u8s_get ?_; omega) | (refine iS_get ?_; omega) | assumption | rfl)) | (apply And.intro; (first | rfl | (with_reducible assumption) | exact Nat.le_of_ble_eq_true rfl | omega | (exact Int.ofNat_lt.2 (Nat.lt_of_lt_of_eq (by with_reducible assumption) (by decide +kernel))) | assumption | (simp <;> fail) | (simp <;> omega) | (focus (repeat' (first | exact one_u8s _ | exact one_iS _ _ | rfl | apply one_take | apply one_drop | apply one_append)); done))))) <;> (try (conv => whnf))

set_option maxRecDepth 8000 in
theorem code_c {H : AH} {w r : Nat} {σ : Cs} (hne : w ≠ r) (hL : σ.L ≤ 1000000000000) :
    ACall Try.prog 42 [.ptr w 0 0] (wcH H w r σ) (fun y H' => y = .cs (u8s (codeS σ)) (codeS σ).length ∧ H' = (wcH H w r σ).del r) := by
  have hwa : WrAt (wcH H w r σ) w r σ := WrAt.set hne
  have hw := hwa.hw
  have hr := hwa.hr
  generalize wcH H w r σ = G at *
  obtain ⟨lo, hlo⟩ : ∃ lo, lo = σ.V % 4294967296 := ⟨_, rfl⟩
  rw [← hlo] at hw
  have hlb : lo < 4294967296 := by omega
  obtain ⟨z, hz⟩ : ∃ z, z = u8s (dig σ.L (σ.V / 4294967296)) := ⟨_, rfl⟩
  have hzl : z.length = σ.L := by rw [hz]; simp
  rw [← hz] at hr
  have a1 : (lo : Int).fdiv (2 ^ min (Int.toNat 24) IntKind.u64.bits) = (lo / 16777216 : Nat) := by
    rw [show (2 : Int) ^ min (Int.toNat 24) IntKind.u64.bits = 16777216 by decide, Int.fdiv_eq_ediv_of_nonneg _ (by omega)]; omega
  have a2 : IntKind.u8.wrap (lo / 16777216 : Nat) = (lo / 16777216 : Nat) := by rw [wrap_u8']; omega
  have b1 : (lo : Int).fdiv (2 ^ min (Int.toNat 16) IntKind.u64.bits) = (lo / 65536 : Nat) := by
    rw [show (2 : Int) ^ min (Int.toNat 16) IntKind.u64.bits = 65536 by decide, Int.fdiv_eq_ediv_of_nonneg _ (by omega)]; omega
  have b2 : IntKind.u8.wrap (lo / 65536 : Nat) = (lo / 65536 % 256 : Nat) := by rw [wrap_u8']; omega
  have c1 : (lo : Int).fdiv (2 ^ min (Int.toNat 8) IntKind.u64.bits) = (lo / 256 : Nat) := by
    rw [show (2 : Int) ^ min (Int.toNat 8) IntKind.u64.bits = 256 by decide, Int.fdiv_eq_ediv_of_nonneg _ (by omega)]; omega
  have c2 : IntKind.u8.wrap (lo / 256 : Nat) = (lo / 256 % 256 : Nat) := by rw [wrap_u8']; omega
  have d2 : IntKind.u8.wrap (lo : Nat) = (lo % 256 : Nat) := by rw [wrap_u8']; omega
  have hall : z ++ [AV.int .u8 (lo / 16777216 : Nat), AV.int .u8 (lo / 65536 % 256 : Nat), AV.int .u8 (lo / 256 % 256 : Nat), AV.int .u8 (lo % 256 : Nat)] = u8s (dig (σ.L + 4) σ.V) := by
    have e : σ.V = (((σ.V / 4294967296 * 256 + lo / 16777216) * 256 + lo / 65536 % 256) * 256 + lo / 256 % 256) * 256 + lo % 256 := by omega
    conv => rhs; rw [e]
    rw [show σ.L + 4 = σ.L + 1 + 1 + 1 + 1 from rfl, dig_snoc _ _ _ (by omega), dig_snoc _ _ _ (by omega), dig_snoc _ _ _ (by omega), dig_snoc _ _ _ (by omega), hz]
    have t : ∀ x, x < 256 → (UInt8.ofNat x).toNat = x := fun x h => by simp; omega
    simp only [u8s, List.map_append, List.map_cons, List.map_nil, List.append_assoc]
    rw [t _ (by omega), t _ (by omega), t _ (by omega), t _ (by omega)]
    rfl
  clear hz
  refine ACall_of tt_ok (dok _) Try.func42 rfl (by decide) rfl ?_
  (repeat' ((conv => whnf); first | left | refine OpsA.cons ?_ | refine OpsA.nil ?_ | refine AWq.seq ?_ | refine AWq.region ?_ | refine AWq.cond ?_ | refine AWq.block ?_ | refine AWq.skip ?_ | refine AWq.ret ?_ | refine AWq.exit ?_ | refine AWq.loop ?_ | refine DrawA.consD ?_ | refine DrawA.nil ?_ | refine AWq.draw (by decide +kernel) ?_ | (refine Both.mk ?_ ?_ <;> intro hc <;> (first | exact Bool.noConfusion hc | exact absurd (by with_reducible rfl) hc | exact (hc : False).elim | exact absurd (by assumption) hc | exact absurd hc (by assumption) | (exfalso; omega) | exact absurd hc (by decide) | skip)) | (intro c hc; (try (simp only [AH.none_iff] at hc; repeat (have hn := hc.1; replace hc := hc.2))); (first | (have hc2 := Eq.trans hc (by with_reducible assumption); clear hc; subst hc2) | (refine i64_k hc ?_ ?_ ?_ ; omega; omega; (clear hc; intro hc; subst hc)) | (refine u64_k hc ?_ ?_ ?_ ; omega; omega; (clear hc; intro hc; subst hc)) | (refine u8_k hc ?_ ?_ ?_ ; omega; omega; (clear hc; intro hc; subst hc)) | subst hc | skip)) | (apply Exists.intro; apply And.intro; (focus (repeat (first | assumption | exact AH.set_same _ _ _ | ((first | refine AH.get_ne ?_ ?_ | refine AH.getd_ne ?_ ?_); (first | assumption | omega | exact Ne.symm (by assumption) | exact AH.ne_none (by assumption) (by assumption) | exact AH.none_ne (by assumption) (by assumption) | exact (AH.none_set (by assumption)).1 | exact Ne.symm (AH.none_set (by assumption)).1)))); done)) | (apply Exists.intro; apply And.intro; first | (with_reducible assumption) | ((try simp only [List.getElem?_drop, Nat.mul_one, Nat.add_zero, Nat.zero_add]); first | (with_reducible assumption) | (refine u8s_get ?_; omega) | (refine iS_get ?_; omega) | assumption | rfl)) | (apply And.intro; (first | rfl | (with_reducible assumption) | exact Nat.le_of_ble_eq_true rfl | omega | (exact Int.ofNat_lt.2 (Nat.lt_of_lt_of_eq (by with_reducible assumption) (by decide +kernel))) | assumption | (simp <;> fail) | (simp <;> omega) | (focus (repeat' (first | exact one_u8s _ | exact one_iS _ _ | rfl | apply one_take | apply one_drop | apply one_append)); done))))) <;> (try (conv => whnf))
  refine Then.mk ?_
  (repeat' ((conv => whnf); first | left | refine OpsA.cons ?_ | refine OpsA.nil ?_ | refine AWq.seq ?_ | refine AWq.region ?_ | refine AWq.cond ?_ | refine AWq.block ?_ | refine AWq.skip ?_ | refine AWq.ret ?_ | refine AWq.exit ?_ | refine AWq.loop ?_ | refine DrawA.consD ?_ | refine DrawA.nil ?_ | refine AWq.draw (by decide +kernel) ?_ | (refine Both.mk ?_ ?_ <;> intro hc <;> (first | exact Bool.noConfusion hc | exact absurd (by with_reducible rfl) hc | exact (hc : False).elim | exact absurd (by assumption) hc | exact absurd hc (by assumption) | (exfalso; omega) | exact absurd hc (by decide) | skip)) | (intro c hc; (try (simp only [AH.none_iff] at hc; repeat (have hn := hc.1; replace hc := hc.2))); (first | (have hc2 := Eq.trans hc (by with_reducible assumption); clear hc; subst hc2) | (refine i64_k hc ?_ ?_ ?_ ; omega; omega; (clear hc; intro hc; subst hc)) | (refine u64_k hc ?_ ?_ ?_ ; omega; omega; (clear hc; intro hc; subst hc)) | (refine u8_k hc ?_ ?_ ?_ ; omega; omega; (clear hc; intro hc; subst hc)) | subst hc | skip)) | (apply Exists.intro; apply And.intro; (focus (repeat (first | assumption | exact AH.set_same _ _ _ | ((first | refine AH.get_ne ?_ ?_ | refine AH.getd_ne ?_ ?_); (first | assumption | omega | exact Ne.symm (by assumption) | exact AH.ne_none (by assumption) (by assumption) | exact AH.none_ne (by assumption) (by assumption) | exact (AH.none_set (by assumption)).1 | exact Ne.symm (AH.none_set (by assumption)).1)))); done)) | (apply Exists.intro; apply And.intro; first | (with_reducible assumption) | ((try simp only [List.getElem?_drop, Nat.mul_one, Nat.add_zero, Nat.zero_add]); first | (with_reducible assumption) | (refine u8s_get ?_; omega) | (refine iS_get ?_; omega) | assumption | rfl)) | (apply And.intro; (first | rfl | (with_reducible assumption) | exact Nat.le_of_ble_eq_true rfl | omega | (exact Int.ofNat_lt.2 (Nat.lt_of_lt_of_eq (by with_reducible assumption) (by decide +kernel))) | assumption | (simp <;> fail) | (simp <;> omega) | (focus (repeat' (first | exact one_u8s _ | exact one_iS _ _ | rfl | apply one_take | apply one_drop | apply one_append)); done))))) <;> (try (conv => whnf))
  refine Then.mk (AWq.in ?_)
  refine AWp_freeze1 (r := r) (v := σ.L + 1) (es := 1) (n := σ.L + 4) (lim := none) (cells := u8s (dig (σ.L + 4) σ.V)) 3 rfl rfl ?_ (by simp) ?_
  · show AH.set G r (.row (z ++ _) _) r = _
    rw [AH.set_same]
    exact congrArg (fun l => some (AO.row l (σ.L + 1))) hall
  have hG : ∀ o, (AH.set G r o).del r = G.del r := fun o => by
    funext a; simp only [AH.del, AH.set]; split <;> rfl
  rw [hG]
  have hbl : (dig (σ.L + 4) σ.V).length = σ.L + 4 := dig_len _ _
  have hcs : codeS σ = (dig (σ.L + 4) σ.V).take (trimN (dig (σ.L + 4) σ.V) (σ.L + 4)) := by
    unfold codeS trim
    rw [hbl]
  rw [hcs]
  generalize dig (σ.L + 4) σ.V = bs at *
  obtain ⟨L4, hL4⟩ : ∃ L4, L4 = σ.L + 4 := ⟨_, rfl⟩
  rw [← hL4] at hbl ⊢
  have hul : (u8s bs).length = L4 * 1 := by simp [hbl]
  clear hall hcs a1 a2 b1 b2 c1 c2 d2
  refine AWp.of tt_ok (dok _) rfl ?_
  (repeat' ((conv => whnf); first | refine Then.mk ?_ | left | refine OpsA.cons ?_ | refine OpsA.nil ?_ | refine AWq.seq ?_ | refine AWq.region ?_ | refine AWq.cond ?_ | refine AWq.block ?_ | refine AWq.skip ?_ | refine AWq.ret ?_ | refine AWq.exit ?_ | refine AWq.loop ?_ | refine DrawA.consD ?_ | refine DrawA.nil ?_ | refine AWq.draw (by decide +kernel) ?_ | (refine Both.mk ?_ ?_ <;> intro hc <;> (first | exact Bool.noConfusion hc | exact absurd (by with_reducible rfl) hc | exact (hc : False).elim | exact absurd (by assumption) hc | exact absurd hc (by assumption) | (exfalso; omega) | exact absurd hc (by decide) | skip)) | (intro c hc; (try (simp only [AH.none_iff] at hc; repeat (have hn := hc.1; replace hc := hc.2))); (first | (have hc2 := Eq.trans hc (by with_reducible assumption); clear hc; subst hc2) | (refine i64_k hc ?_ ?_ ?_ ; omega; omega; (clear hc; intro hc; subst hc)) | (refine u64_k hc ?_ ?_ ?_ ; omega; omega; (clear hc; intro hc; subst hc)) | (refine u8_k hc ?_ ?_ ?_ ; omega; omega; (clear hc; intro hc; subst hc)) | subst hc | skip)) | (apply Exists.intro; apply And.intro; (focus (repeat (first | assumption | exact AH.set_same _ _ _ | ((first | refine AH.get_ne ?_ ?_ | refine AH.getd_ne ?_ ?_); (first | assumption | omega | exact Ne.symm (by assumption) | exact AH.ne_none (by assumption) (by assumption) | exact AH.none_ne (by assumption) (by assumption) | exact (AH.none_set (by assumption)).1 | exact Ne.symm (AH.none_set (by assumption)).1)))); done)) | (apply Exists.intro; apply And.intro; first | (with_reducible assumption) | ((try simp only [List.getElem?_drop, Nat.mul_one, Nat.add_zero, Nat.zero_add]); first | (with_reducible assumption) | (refine u8s_get ?_; omega) | (refine iS_get ?_; omega) | assumption | rfl)) | (apply And.intro; (first | rfl | (with_reducible assumption) | exact Nat.le_of_ble_eq_true rfl | omega | (exact Int.ofNat_lt.2 (Nat.lt_of_lt_of_eq (by with_reducible assumption) (by decide +kernel))) | assumption | (simp <;> fail) | (simp <;> omega) | (focus (repeat' (first | exact one_u8s _ | exact one_iS _ _ | rfl | apply one_take | apply one_drop | apply one_append)); done))))) <;> (try (conv => whnf))
  refine AWp_loop (σ := Nat) (4 :: 40 :: 41 :: 42 :: 43 :: 44 :: 45 :: 46 :: 47 :: 48 :: 49 :: 50 :: 51 :: []) (fun n => [(4, .int .i64 n)]) (fun _ => G.del r) (fun n => n ≤ L4 ∧ trimN bs L4 = trimN bs n) (fun n => n) L4 rfl ?_ ?_ ?_ ?_
  · exact ⟨Nat.le_refl _, rfl⟩
  · exact ⟨rfl, trivial⟩
  · exact HLe.refl _
  · rintro n ⟨h1, h2⟩
    refine AWp.of tt_ok (dok _) rfl ?_
    have fin : ∀ m, m ≤ L4 → trimN bs L4 = m → AV.cs (List.take ((m : Int).toNat * 1) (u8s bs)) (m : Int).toNat = AV.cs (u8s (List.take (trimN bs L4) bs)) (List.take (trimN bs L4) bs).length ∧ G.del r = G.del r := fun m hm he => by
      refine ⟨?_, rfl⟩
      rw [he, Int.toNat_natCast, Nat.mul_one, u8s_take, List.length_take, Nat.min_eq_left (by omega)]
    by_cases h0 : n = 0
    · subst h0
      (repeat' ((conv => whnf); first | refine Then.mk ?_ | left | refine OpsA.cons ?_ | refine OpsA.nil ?_ | refine AWq.seq ?_ | refine AWq.region ?_ | refine AWq.cond ?_ | refine AWq.block ?_ | refine AWq.skip ?_ | refine AWq.ret ?_ | refine AWq.exit ?_ | refine AWq.loop ?_ | refine DrawA.consD ?_ | refine DrawA.nil ?_ | refine AWq.draw (by decide +kernel) ?_ | (refine Both.mk ?_ ?_ <;> intro hc <;> (first | exact Bool.noConfusion hc | exact absurd (by with_reducible rfl) hc | exact (hc : False).elim | exact absurd (by assumption) hc | exact absurd hc (by assumption) | (exfalso; omega) | exact absurd hc (by decide) | skip)) | (intro c hc; (try (simp only [AH.none_iff] at hc; repeat (have hn := hc.1; replace hc := hc.2))); (first | (have hc2 := Eq.trans hc (by with_reducible assumption); clear hc; subst hc2) | (refine i64_k hc ?_ ?_ ?_ ; omega; omega; (clear hc; intro hc; subst hc)) | (refine u64_k hc ?_ ?_ ?_ ; omega; omega; (clear hc; intro hc; subst hc)) | (refine u8_k hc ?_ ?_ ?_ ; omega; omega; (clear hc; intro hc; subst hc)) | subst hc | skip)) | (apply Exists.intro; apply And.intro; (focus (repeat (first | assumption | exact AH.set_same _ _ _ | ((first | refine AH.get_ne ?_ ?_ | refine AH.getd_ne ?_ ?_); (first | assumption | omega | exact Ne.symm (by assumption) | exact AH.ne_none (by assumption) (by assumption) | exact AH.none_ne (by assumption) (by assumption) | exact (AH.none_set (by assumption)).1 | exact Ne.symm (AH.none_set (by assumption)).1)))); done)) | (apply Exists.intro; apply And.intro; first | (with_reducible assumption) | ((try simp only [List.getElem?_drop, Nat.mul_one, Nat.add_zero, Nat.zero_add]); first | (with_reducible assumption) | (refine u8s_get ?_; omega) | (refine iS_get ?_; omega) | assumption | rfl)) | (apply And.intro; (first | rfl | (with_reducible assumption) | exact Nat.le_of_ble_eq_true rfl | omega | (exact Int.ofNat_lt.2 (Nat.lt_of_lt_of_eq (by with_reducible assumption) (by decide +kernel))) | assumption | (simp <;> fail) | (simp <;> omega) | (focus (repeat' (first | exact one_u8s _ | exact one_iS _ _ | rfl | apply one_take | apply one_drop | apply one_append)); done))))) <;> (try (conv => whnf))
      exact fin 0 (by omega) (by rw [h2]; rfl)
    · obtain ⟨k, rfl⟩ : ∃ k, n = k + 1 := ⟨n - 1, by omega⟩
      have hg : (u8s bs)[((k + 1 : Nat) - 1 : Int).toNat]? = some (.int .u8 (bs.getD k 0).toNat) := by
        rw [show ((k + 1 : Nat) - 1 : Int).toNat = k by omega]
        exact u8s_get (by omega)
      have hb := u8_range (bs.getD k 0)
      obtain ⟨b, hbe⟩ : ∃ b, b = bs.getD k 0 := ⟨_, rfl⟩
      have h2' : trimN bs (k + 1) = if b = 0 then trimN bs k else k + 1 := by rw [hbe]; rfl
      rw [← hbe] at hg hb
      obtain ⟨B, hB⟩ : ∃ B : Int, B = (b.toNat : Int) := ⟨_, rfl⟩
      rw [← hB] at hg hb
      by_cases hz : B = 0
      · have hb0 : b = 0 := UInt8.toNat_inj.1 (by show b.toNat = 0; omega)
        rw [if_pos hb0] at h2'
        subst hz
        (repeat' ((conv => whnf); first | refine Then.mk ?_ | left | refine OpsA.cons ?_ | refine OpsA.nil ?_ | refine AWq.seq ?_ | refine AWq.region ?_ | refine AWq.cond ?_ | refine AWq.block ?_ | refine AWq.skip ?_ | refine AWq.ret ?_ | refine AWq.exit ?_ | refine AWq.loop ?_ | refine DrawA.consD ?_ | refine DrawA.nil ?_ | refine AWq.draw (by decide +kernel) ?_ | (refine Both.mk ?_ ?_ <;> intro hc <;> (first | exact Bool.noConfusion hc | exact absurd (by with_reducible rfl) hc | exact (hc : False).elim | exact absurd (by assumption) hc | exact absurd hc (by assumption) | (exfalso; omega) | exact absurd hc (by decide) | skip)) | (intro c hc; (try (simp only [AH.none_iff] at hc; repeat (have hn := hc.1; replace hc := hc.2))); (first | (have hc2 := Eq.trans hc (by with_reducible assumption); clear hc; subst hc2) | (refine i64_k hc ?_ ?_ ?_ ; omega; omega; (clear hc; intro hc; subst hc)) | (refine u64_k hc ?_ ?_ ?_ ; omega; omega; (clear hc; intro hc; subst hc)) | (refine u8_k hc ?_ ?_ ?_ ; omega; omega; (clear hc; intro hc; subst hc)) | subst hc | skip)) | (apply Exists.intro; apply And.intro; (focus (repeat (first | assumption | exact AH.set_same _ _ _ | ((first | refine AH.get_ne ?_ ?_ | refine AH.getd_ne ?_ ?_); (first | assumption | omega | exact Ne.symm (by assumption) | exact AH.ne_none (by assumption) (by assumption) | exact AH.none_ne (by assumption) (by assumption) | exact (AH.none_set (by assumption)).1 | exact Ne.symm (AH.none_set (by assumption)).1)))); done)) | (apply Exists.intro; apply And.intro; first | (with_reducible assumption) | ((try simp only [List.getElem?_drop, Nat.mul_one, Nat.add_zero, Nat.zero_add]); first | (with_reducible assumption) | (refine u8s_get ?_; omega) | (refine iS_get ?_; omega) | assumption | rfl)) | (apply And.intro; (first | rfl | (with_reducible assumption) | exact Nat.le_of_ble_eq_true rfl | omega | (exact Int.ofNat_lt.2 (Nat.lt_of_lt_of_eq (by with_reducible assumption) (by decide +kernel))) | assumption | (simp <;> fail) | (simp <;> omega) | (focus (repeat' (first | exact one_u8s _ | exact one_iS _ _ | rfl | apply one_take | apply one_drop | apply one_append)); done))))) <;> (try (conv => whnf))
        exact ⟨k, ⟨by omega, by omega⟩, by omega, ⟨congrArg (AV.int .i64) (by omega), trivial⟩, HLe.refl _⟩
      · have hb0 : ¬ b = 0 := fun e => hz (by rw [hB, e]; rfl)
        rw [if_neg hb0] at h2'
        (repeat' ((conv => whnf); first | refine Then.mk ?_ | left | refine OpsA.cons ?_ | refine OpsA.nil ?_ | refine AWq.seq ?_ | refine AWq.region ?_ | refine AWq.cond ?_ | refine AWq.block ?_ | refine AWq.skip ?_ | refine AWq.ret ?_ | refine AWq.exit ?_ | refine AWq.loop ?_ | refine DrawA.consD ?_ | refine DrawA.nil ?_ | refine AWq.draw (by decide +kernel) ?_ | (refine Both.mk ?_ ?_ <;> intro hc <;> (first | exact Bool.noConfusion hc | exact absurd (by with_reducible rfl) hc | exact (hc : False).elim | exact absurd (by assumption) hc | exact absurd hc (by assumption) | (exfalso; omega) | exact absurd hc (by decide) | skip)) | (intro c hc; (try (simp only [AH.none_iff] at hc; repeat (have hn := hc.1; replace hc := hc.2))); (first | (have hc2 := Eq.trans hc (by with_reducible assumption); clear hc; subst hc2) | (refine i64_k hc ?_ ?_ ?_ ; omega; omega; (clear hc; intro hc; subst hc)) | (refine u64_k hc ?_ ?_ ?_ ; omega; omega; (clear hc; intro hc; subst hc)) | (refine u8_k hc ?_ ?_ ?_ ; omega; omega; (clear hc; intro hc; subst hc)) | subst hc | skip)) | (apply Exists.intro; apply And.intro; (focus (repeat (first | assumption | exact AH.set_same _ _ _ | ((first | refine AH.get_ne ?_ ?_ | refine AH.getd_ne ?_ ?_); (first | assumption | omega | exact Ne.symm (by assumption) | exact AH.ne_none (by assumption) (by assumption) | exact AH.none_ne (by assumption) (by assumption) | exact (AH.none_set (by assumption)).1 | exact Ne.symm (AH.none_set (by assumption)).1)))); done)) | (apply Exists.intro; apply And.intro; first | (with_reducible assumption) | ((try simp only [List.getElem?_drop, Nat.mul_one, Nat.add_zero, Nat.zero_add]); first | (with_reducible assumption) | (refine u8s_get ?_; omega) | (refine iS_get ?_; omega) | assumption | rfl)) | (apply And.intro; (first | rfl | (with_reducible assumption) | exact Nat.le_of_ble_eq_true rfl | omega | (exact Int.ofNat_lt.2 (Nat.lt_of_lt_of_eq (by with_reducible assumption) (by decide +kernel))) | assumption | (simp <;> fail) | (simp <;> omega) | (focus (repeat' (first | exact one_u8s _ | exact one_iS _ _ | rfl | apply one_take | apply one_drop | apply one_append)); done))))) <;> (try (conv => whnf))
        exact fin (k + 1) (by omega) (by omega)
end Go.Proofs.Ytgmooalikccbiaa
/- The walks of the coder: several models. -/
namespace Go.Proofs.Ytgmooalikccbiaa
open Go.Fw Go
set_option linter.unusedVariables false
set_option linter.unusedSimpArgs false

/-- Models stand here. -/
structure Mods (G : AH) (P Q : Nat → Nat) (m n : Nat) (M : Nat → Nat → Nat) : Prop where
  md : ∀ k, k < m → MdAt G (P k) (Q k) n (M k)
  pp : ∀ j k, j < m → k < m → j ≠ k → P j ≠ P k
  qq : ∀ j k, j < m → k < m → j ≠ k → Q j ≠ Q k
  pq : ∀ j k, j < m → k < m → P j ≠ Q k
theorem Mods.same {G G' : AH} {P Q : Nat → Nat} {m n : Nat} {M : Nat → Nat → Nat} (h : Mods G P Q m n M) (hs : ∀ k, k < m → G' (P k) = G (P k) ∧ G' (Q k) = G (Q k)) : Mods G' P Q m n M :=
  ⟨fun k hk => (h.md k hk).same (hs k hk).1 (hs k hk).2, h.pp, h.qq, h.pq⟩
theorem Mods.set {G : AH} {P Q : Nat → Nat} {m n : Nat} {M : Nat → Nat → Nat} (h : Mods G P Q m n M) {k : Nat} (hk : k < m) {c : Nat → Nat} (hc : MdOk n c) :
    Mods (mdH G (P k) (Q k) n c) P Q m n (fun j => if j = k then c else M j) := by
  refine ⟨fun j hj => ?_, h.pp, h.qq, h.pq⟩
  by_cases e : j = k
  · subst e
    rw [if_pos rfl]
    exact MdAt.set (c := c) (h.md j hj).ne hc
  · rw [if_neg e]
    exact (h.md j hj).same (mdH_ne (h.pp _ _ hj hk e) (h.pq _ _ hj hk)) (mdH_ne (Ne.symm (h.pq _ _ hk hj)) (h.qq _ _ hj hk e))
theorem AH.ne_none' {H : AH} {r s : Nat} {o : AO} (h : H r = Option.none) (k : H s = some o) : r ≠ s := fun e => by rw [← e, h] at k; cases k
theorem Mods.fresh {G : AH} {P Q : Nat → Nat} {m n : Nat} {M : Nat → Nat → Nat} (h : Mods G P Q m n M) {a : Nat} (ha : G a = Option.none) {k : Nat} (hk : k < m) : P k ≠ a ∧ Q k ≠ a :=
  ⟨Ne.symm (AH.ne_none' ha (h.md k hk).hp), Ne.symm (AH.ne_none' ha (h.md k hk).hq)⟩
def putF (f : Nat → Nat) (k v : Nat) : Nat → Nat := fun j => if j = k then v else f j
theorem putF_at (f : Nat → Nat) (k v : Nat) : putF f k v k = v := if_pos rfl
theorem putF_ne (f : Nat → Nat) {k j : Nat} (v : Nat) (h : j ≠ k) : putF f k v j = f j := if_neg h
theorem Mods.more {G : AH} {P Q : Nat → Nat} {m n : Nat} {M : Nat → Nat → Nat} (h : Mods G P Q m n M) {p q : Nat} (hp : G p = Option.none) (hq : G q = Option.none) (hne : p ≠ q) (hM : MdOk n (M m)) :
    Mods (mdH G p q n (M m)) (putF P m p) (putF Q m q) (m + 1) n M := by
  have a1 : ∀ k, k < m → putF P m p k = P k := fun k hk => putF_ne _ _ (by omega)
  have a2 : ∀ k, k < m → putF Q m q k = Q k := fun k hk => putF_ne _ _ (by omega)
  have b1 : ∀ k, k < m + 1 → k < m ∨ k = m := fun k hk => by omega
  refine ⟨fun k hk => ?_, fun j k hj hk hjk => ?_, fun j k hj hk hjk => ?_, fun j k hj hk => ?_⟩
  · rcases b1 k hk with hk | rfl
    · rw [a1 k hk, a2 k hk]
      exact (h.md k hk).same (mdH_ne (h.fresh hp hk).1 (h.fresh hq hk).1) (mdH_ne (h.fresh hp hk).2 (h.fresh hq hk).2)
    · rw [putF_at, putF_at]
      exact MdAt.set (c := M 0) hne hM
  · rcases b1 j hj with hj | rfl <;> rcases b1 k hk with hk | rfl
    · rw [a1 j hj, a1 k hk]; exact h.pp j k hj hk hjk
    · rw [a1 j hj, putF_at]; exact (h.fresh hp hj).1
    · rw [a1 k hk, putF_at]; exact Ne.symm (h.fresh hp hk).1
    · exact absurd rfl hjk
  · rcases b1 j hj with hj | rfl <;> rcases b1 k hk with hk | rfl
    · rw [a2 j hj, a2 k hk]; exact h.qq j k hj hk hjk
    · rw [a2 j hj, putF_at]; exact (h.fresh hq hj).2
    · rw [a2 k hk, putF_at]; exact Ne.symm (h.fresh hq hk).2
    · exact absurd rfl hjk
  · rcases b1 j hj with hj | rfl <;> rcases b1 k hk with hk | rfl
    · rw [a1 j hj, a2 k hk]; exact h.pq j k hj hk
    · rw [a1 j hj, putF_at]; exact (h.fresh hq hj).1
    · rw [a2 k hk, putF_at]; exact Ne.symm (h.fresh hp hk).2
    · rw [putF_at, putF_at]; exact hne

/-- The pointers to models. -/
def psL (P : Nat → Nat) (m : Nat) : List AV := (List.range m).map fun k => .ptr (P k) 0 0
@[simp] theorem psL_len (P : Nat → Nat) (m : Nat) : (psL P m).length = m := by simp [psL]
theorem psL_get {P : Nat → Nat} {m k : Nat} (h : k < m) : (psL P m)[k]? = some (.ptr (P k) 0 0) := by
  unfold psL
  rw [List.getElem?_map, List.getElem?_range h]; rfl
theorem psL_snoc (P : Nat → Nat) (m p : Nat) : psL P m ++ [.ptr p 0 0] = psL (putF P m p) (m + 1) := by
  unfold psL
  rw [List.range_succ, List.map_append]
  congr 1
  · refine List.map_congr_left fun k hk => ?_
    have : k < m := by simpa using hk
    rw [putF_ne _ _ (by omega)]
  · simp [putF_at]
structure AlphaOk (H G : AH) (a n i : Nat) (P Q : Nat → Nat) : Prop where
  mods : Mods G P Q i n fun _ _ => 1
  row : G a = some (.row (psL P i) i)
  le : HLe H G
  na : ∀ k, k < i → P k ≠ a ∧ Q k ≠ a
  new : ∀ k, k < i → H (P k) = none ∧ H (Q k) = none

set_option maxRecDepth 8000 in
theorem alphabet_c (n m : Nat) (hn1 : 1 ≤ n) (hn2 : n ≤ 1024) (hm1 : 1 ≤ m) (hm2 : m ≤ 256) (H : AH) :
    ACall Try.prog 39 [.int .i64 n, .int .i64 m] H (fun y H' => ∃ P Q, y = .tup [.cs (psL P m) m, .int .i64 0] ∧ Mods H' P Q m n (fun _ _ => 1) ∧ HLe H H' ∧ ∀ k, k < m → H (P k) = none ∧ H (Q k) = none) := by
  refine ACall_of tt_ok (dok _) Try.func39 rfl (by decide) rfl ?_
  (repeat' ((conv => whnf); first | left | refine OpsA.cons ?_ | refine OpsA.nil ?_ | refine AWq.seq ?_ | refine AWq.region ?_ | refine AWq.cond ?_ | refine AWq.block ?_ | refine AWq.skip ?_ | refine AWq.ret ?_ | refine AWq.exit ?_ | refine AWq.loop ?_ | (refine Both.mk ?_ ?_ <;> intro hc <;> (first | exact Bool.noConfusion hc | exact absurd (by with_reducible rfl) hc | exact (hc : False).elim | exact absurd (by assumption) hc | exact absurd hc (by assumption) | (exfalso; omega) | exact absurd hc (by decide) | skip)) | (intro c hc; (try (simp only [AH.none_iff] at hc; repeat (have hn := hc.1; replace hc := hc.2))); (first | (have hc2 := Eq.trans hc (by with_reducible assumption); clear hc; subst hc2) | (refine i64_k hc ?_ ?_ ?_ ; omega; omega; (clear hc; intro hc; subst hc)) | (refine u64_k hc ?_ ?_ ?_ ; omega; omega; (clear hc; intro hc; subst hc)) | (refine u8_k hc ?_ ?_ ?_ ; omega; omega; (clear hc; intro hc; subst hc)) | subst hc | skip)) | (apply Exists.intro; apply And.intro; (focus (repeat (first | assumption | exact AH.set_same _ _ _ | ((first | refine AH.get_ne ?_ ?_ | refine AH.getd_ne ?_ ?_); (first | assumption | omega | exact Ne.symm (by assumption) | exact AH.ne_none (by assumption) (by assumption) | exact AH.none_ne (by assumption) (by assumption) | exact (AH.none_set (by assumption)).1 | exact Ne.symm (AH.none_set (by assumption)).1)))); done)) | (apply Exists.intro; apply And.intro; first | (with_reducible assumption) | ((try simp only [List.getElem?_drop, Nat.mul_one, Nat.add_zero, Nat.zero_add]); first | (with_reducible assumption) | (refine u8s_get ?_; omega) | (refine iS_get ?_; omega) | assumption | rfl)) | (apply And.intro; (first | rfl | (with_reducible assumption) | exact Nat.le_of_ble_eq_true rfl | omega | (exact Int.ofNat_lt.2 (Nat.lt_of_lt_of_eq (by with_reducible assumption) (by decide +kernel))) | assumption | (simp <;> fail) | (simp <;> omega) | (focus (repeat' (first | exact one_u8s _ | exact one_iS _ _ | rfl | apply one_take | apply one_drop | apply one_append)); done))))) <;> (try (conv => whnf))
  refine Then.mk ?_
  (repeat' ((conv => whnf); first | left | refine OpsA.cons ?_ | refine OpsA.nil ?_ | refine AWq.seq ?_ | refine AWq.region ?_ | refine AWq.cond ?_ | refine AWq.block ?_ | refine AWq.skip ?_ | refine AWq.ret ?_ | refine AWq.exit ?_ | refine AWq.loop ?_ | (refine Both.mk ?_ ?_ <;> intro hc <;> (first | exact Bool.noConfusion hc | exact absurd (by with_reducible rfl) hc | exact (hc : False).elim | exact absurd (by assumption) hc | exact absurd hc (by assumption) | (exfalso; omega) | exact absurd hc (by decide) | skip)) | (intro c hc; (try (simp only [AH.none_iff] at hc; repeat (have hn := hc.1; replace hc := hc.2))); (first | (have hc2 := Eq.trans hc (by with_reducible assumption); clear hc; subst hc2) | (refine i64_k hc ?_ ?_ ?_ ; omega; omega; (clear hc; intro hc; subst hc)) | (refine u64_k hc ?_ ?_ ?_ ; omega; omega; (clear hc; intro hc; subst hc)) | (refine u8_k hc ?_ ?_ ?_ ; omega; omega; (clear hc; intro hc; subst hc)) | subst hc | skip)) | (apply Exists.intro; apply And.intro; (focus (repeat (first | assumption | exact AH.set_same _ _ _ | ((first | refine AH.get_ne ?_ ?_ | refine AH.getd_ne ?_ ?_); (first | assumption | omega | exact Ne.symm (by assumption) | exact AH.ne_none (by assumption) (by assumption) | exact AH.none_ne (by assumption) (by assumption) | exact (AH.none_set (by assumption)).1 | exact Ne.symm (AH.none_set (by assumption)).1)))); done)) | (apply Exists.intro; apply And.intro; first | (with_reducible assumption) | ((try simp only [List.getElem?_drop, Nat.mul_one, Nat.add_zero, Nat.zero_add]); first | (with_reducible assumption) | (refine u8s_get ?_; omega) | (refine iS_get ?_; omega) | assumption | rfl)) | (apply And.intro; (first | rfl | (with_reducible assumption) | exact Nat.le_of_ble_eq_true rfl | omega | (exact Int.ofNat_lt.2 (Nat.lt_of_lt_of_eq (by with_reducible assumption) (by decide +kernel))) | assumption | (simp <;> fail) | (simp <;> omega) | (focus (repeat' (first | exact one_u8s _ | exact one_iS _ _ | rfl | apply one_take | apply one_drop | apply one_append)); done))))) <;> (try (conv => whnf))
  refine Then.mk ?_
  (repeat' ((conv => whnf); first | left | refine OpsA.cons ?_ | refine OpsA.nil ?_ | refine AWq.seq ?_ | refine AWq.region ?_ | refine AWq.cond ?_ | refine AWq.block ?_ | refine AWq.skip ?_ | refine AWq.ret ?_ | refine AWq.exit ?_ | refine AWq.loop ?_ | (refine Both.mk ?_ ?_ <;> intro hc <;> (first | exact Bool.noConfusion hc | exact absurd (by with_reducible rfl) hc | exact (hc : False).elim | exact absurd (by assumption) hc | exact absurd hc (by assumption) | (exfalso; omega) | exact absurd hc (by decide) | skip)) | (intro c hc; (try (simp only [AH.none_iff] at hc; repeat (have hn := hc.1; replace hc := hc.2))); (first | (have hc2 := Eq.trans hc (by with_reducible assumption); clear hc; subst hc2) | (refine i64_k hc ?_ ?_ ?_ ; omega; omega; (clear hc; intro hc; subst hc)) | (refine u64_k hc ?_ ?_ ?_ ; omega; omega; (clear hc; intro hc; subst hc)) | (refine u8_k hc ?_ ?_ ?_ ; omega; omega; (clear hc; intro hc; subst hc)) | subst hc | skip)) | (apply Exists.intro; apply And.intro; (focus (repeat (first | assumption | exact AH.set_same _ _ _ | ((first | refine AH.get_ne ?_ ?_ | refine AH.getd_ne ?_ ?_); (first | assumption | omega | exact Ne.symm (by assumption) | exact AH.ne_none (by assumption) (by assumption) | exact AH.none_ne (by assumption) (by assumption) | exact (AH.none_set (by assumption)).1 | exact Ne.symm (AH.none_set (by assumption)).1)))); done)) | (apply Exists.intro; apply And.intro; first | (with_reducible assumption) | ((try simp only [List.getElem?_drop, Nat.mul_one, Nat.add_zero, Nat.zero_add]); first | (with_reducible assumption) | (refine u8s_get ?_; omega) | (refine iS_get ?_; omega) | assumption | rfl)) | (apply And.intro; (first | rfl | (with_reducible assumption) | exact Nat.le_of_ble_eq_true rfl | omega | (exact Int.ofNat_lt.2 (Nat.lt_of_lt_of_eq (by with_reducible assumption) (by decide +kernel))) | assumption | (simp <;> fail) | (simp <;> omega) | (focus (repeat' (first | exact one_u8s _ | exact one_iS _ _ | rfl | apply one_take | apply one_drop | apply one_append)); done))))) <;> (try (conv => whnf))
  refine Then.mk ?_
  (repeat' ((conv => whnf); first | left | refine OpsA.cons ?_ | refine OpsA.nil ?_ | refine AWq.seq ?_ | refine AWq.region ?_ | refine AWq.cond ?_ | refine AWq.block ?_ | refine AWq.skip ?_ | refine AWq.ret ?_ | refine AWq.exit ?_ | refine AWq.loop ?_ | (refine Both.mk ?_ ?_ <;> intro hc <;> (first | exact Bool.noConfusion hc | exact absurd (by with_reducible rfl) hc | exact (hc : False).elim | exact absurd (by assumption) hc | exact absurd hc (by assumption) | (exfalso; omega) | exact absurd hc (by decide) | skip)) | (intro c hc; (try (simp only [AH.none_iff] at hc; repeat (have hn := hc.1; replace hc := hc.2))); (first | (have hc2 := Eq.trans hc (by with_reducible assumption); clear hc; subst hc2) | (refine i64_k hc ?_ ?_ ?_ ; omega; omega; (clear hc; intro hc; subst hc)) | (refine u64_k hc ?_ ?_ ?_ ; omega; omega; (clear hc; intro hc; subst hc)) | (refine u8_k hc ?_ ?_ ?_ ; omega; omega; (clear hc; intro hc; subst hc)) | subst hc | skip)) | (apply Exists.intro; apply And.intro; (focus (repeat (first | assumption | exact AH.set_same _ _ _ | ((first | refine AH.get_ne ?_ ?_ | refine AH.getd_ne ?_ ?_); (first | assumption | omega | exact Ne.symm (by assumption) | exact AH.ne_none (by assumption) (by assumption) | exact AH.none_ne (by assumption) (by assumption) | exact (AH.none_set (by assumption)).1 | exact Ne.symm (AH.none_set (by assumption)).1)))); done)) | (apply Exists.intro; apply And.intro; first | (with_reducible assumption) | ((try simp only [List.getElem?_drop, Nat.mul_one, Nat.add_zero, Nat.zero_add]); first | (with_reducible assumption) | (refine u8s_get ?_; omega) | (refine iS_get ?_; omega) | assumption | rfl)) | (apply And.intro; (first | rfl | (with_reducible assumption) | exact Nat.le_of_ble_eq_true rfl | omega | (exact Int.ofNat_lt.2 (Nat.lt_of_lt_of_eq (by with_reducible assumption) (by decide +kernel))) | assumption | (simp <;> fail) | (simp <;> omega) | (focus (repeat' (first | exact one_u8s _ | exact one_iS _ _ | rfl | apply one_take | apply one_drop | apply one_append)); done))))) <;> (try (conv => whnf))
  refine Then.mk (AWq.in ?_)
  refine AWp_nilrow1 6 1 rfl rfl fun a ha => ?_
  refine AWp.of tt_ok (dok _) rfl ?_
  (repeat' ((conv => whnf); first | refine Then.mk ?_ | left | refine OpsA.cons ?_ | refine OpsA.nil ?_ | refine AWq.seq ?_ | refine AWq.region ?_ | refine AWq.cond ?_ | refine AWq.block ?_ | refine AWq.skip ?_ | refine AWq.ret ?_ | refine AWq.exit ?_ | refine AWq.loop ?_ | (refine Both.mk ?_ ?_ <;> intro hc <;> (first | exact Bool.noConfusion hc | exact absurd (by with_reducible rfl) hc | exact (hc : False).elim | exact absurd (by assumption) hc | exact absurd hc (by assumption) | (exfalso; omega) | exact absurd hc (by decide) | skip)) | (intro c hc; (try (simp only [AH.none_iff] at hc; repeat (have hn := hc.1; replace hc := hc.2))); (first | (have hc2 := Eq.trans hc (by with_reducible assumption); clear hc; subst hc2) | (refine i64_k hc ?_ ?_ ?_ ; omega; omega; (clear hc; intro hc; subst hc)) | (refine u64_k hc ?_ ?_ ?_ ; omega; omega; (clear hc; intro hc; subst hc)) | (refine u8_k hc ?_ ?_ ?_ ; omega; omega; (clear hc; intro hc; subst hc)) | subst hc | skip)) | (apply Exists.intro; apply And.intro; (focus (repeat (first | assumption | exact AH.set_same _ _ _ | ((first | refine AH.get_ne ?_ ?_ | refine AH.getd_ne ?_ ?_); (first | assumption | omega | exact Ne.symm (by assumption) | exact AH.ne_none (by assumption) (by assumption) | exact AH.none_ne (by assumption) (by assumption) | exact (AH.none_set (by assumption)).1 | exact Ne.symm (AH.none_set (by assumption)).1)))); done)) | (apply Exists.intro; apply And.intro; first | (with_reducible assumption) | ((try simp only [List.getElem?_drop, Nat.mul_one, Nat.add_zero, Nat.zero_add]); first | (with_reducible assumption) | (refine u8s_get ?_; omega) | (refine iS_get ?_; omega) | assumption | rfl)) | (apply And.intro; (first | rfl | (with_reducible assumption) | exact Nat.le_of_ble_eq_true rfl | omega | (exact Int.ofNat_lt.2 (Nat.lt_of_lt_of_eq (by with_reducible assumption) (by decide +kernel))) | assumption | (simp <;> fail) | (simp <;> omega) | (focus (repeat' (first | exact one_u8s _ | exact one_iS _ _ | rfl | apply one_take | apply one_drop | apply one_append)); done))))) <;> (try (conv => whnf))
  refine AWp_loop (σ := AH × Nat × (Nat → Nat) × (Nat → Nat)) (6 :: 22 :: 23 :: 24 :: 25 :: 26 :: 27 :: 28 :: 29 :: []) (fun (G, i, P, Q) => [(6, .sl a i 1 0 i none), (22, .int .i64 i)]) (fun (G, i, P, Q) => G) (fun (G, i, P, Q) => i ≤ m ∧ AlphaOk H G a n i P Q) (fun (G, i, P, Q) => m - i) (_, 0, fun _ => 0, fun _ => 0) rfl ?_ ?_ (HLe.refl _) ?_
  · refine ⟨Nat.zero_le _, ⟨⟨fun k hk => absurd hk (by omega), fun j k hj => absurd hj (by omega), fun j k hj => absurd hj (by omega), fun j k hj => absurd hj (by omega)⟩, AH.set_same _ _ _, HLe.fresh _ ha, fun k hk => absurd hk (by omega), fun k hk => absurd hk (by omega)⟩⟩
  · exact ⟨rfl, rfl, trivial⟩
  · rintro ⟨G, i, P, Q⟩ ⟨hi, hok⟩
    dsimp only at hi hok ⊢
    obtain ⟨hmods, hrow, hle, hna, hnew⟩ := hok
    refine AWp.of tt_ok (dok _) rfl ?_
    have hpl : (psL P i).length = i := psL_len _ _
    by_cases him : i < m
    · (repeat' ((conv => whnf); first | refine Then.mk ?_ | left | refine OpsA.cons ?_ | refine OpsA.nil ?_ | refine AWq.seq ?_ | refine AWq.region ?_ | refine AWq.cond ?_ | refine AWq.block ?_ | refine AWq.skip ?_ | refine AWq.ret ?_ | refine AWq.exit ?_ | refine AWq.loop ?_ | (refine Both.mk ?_ ?_ <;> intro hc <;> (first | exact Bool.noConfusion hc | exact absurd (by with_reducible rfl) hc | exact (hc : False).elim | exact absurd (by assumption) hc | exact absurd hc (by assumption) | (exfalso; omega) | exact absurd hc (by decide) | skip)) | (intro c hc; (try (simp only [AH.none_iff] at hc; repeat (have hn := hc.1; replace hc := hc.2))); (first | (have hc2 := Eq.trans hc (by with_reducible assumption); clear hc; subst hc2) | (refine i64_k hc ?_ ?_ ?_ ; omega; omega; (clear hc; intro hc; subst hc)) | (refine u64_k hc ?_ ?_ ?_ ; omega; omega; (clear hc; intro hc; subst hc)) | (refine u8_k hc ?_ ?_ ?_ ; omega; omega; (clear hc; intro hc; subst hc)) | subst hc | skip)) | (apply Exists.intro; apply And.intro; (focus (repeat (first | assumption | exact AH.set_same _ _ _ | ((first | refine AH.get_ne ?_ ?_ | refine AH.getd_ne ?_ ?_); (first | assumption | omega | exact Ne.symm (by assumption) | exact AH.ne_none (by assumption) (by assumption) | exact AH.none_ne (by assumption) (by assumption) | exact (AH.none_set (by assumption)).1 | exact Ne.symm (AH.none_set (by assumption)).1)))); done)) | (apply Exists.intro; apply And.intro; first | (with_reducible assumption) | ((try simp only [List.getElem?_drop, Nat.mul_one, Nat.add_zero, Nat.zero_add]); first | (with_reducible assumption) | (refine u8s_get ?_; omega) | (refine iS_get ?_; omega) | assumption | rfl)) | (apply And.intro; (first | rfl | (with_reducible assumption) | exact Nat.le_of_ble_eq_true rfl | omega | (exact Int.ofNat_lt.2 (Nat.lt_of_lt_of_eq (by with_reducible assumption) (by decide +kernel))) | assumption | (simp <;> fail) | (simp <;> omega) | (focus (repeat' (first | exact one_u8s _ | exact one_iS _ _ | rfl | apply one_take | apply one_drop | apply one_append)); done))))) <;> (try (conv => whnf))
      refine (fresh_c n hn1 (by omega) _).mono ?_
      rintro y H' ⟨p, q, hp, hq, hpq, rfl, rfl⟩
      have hap : a ≠ p := AH.ne_none hp hrow
      have haq : a ≠ q := AH.ne_none hq hrow
      have hrow2 : mdH G p q n (fun _ => 1) a = some (.row (psL P i) i) := by rw [mdH_ne hap haq]; exact hrow
      have hm2 := hmods.more hp hq hpq (MdOk.new hn2)
      (repeat' ((conv => whnf); first | refine Then.mk ?_ | left | refine OpsA.cons ?_ | refine OpsA.nil ?_ | refine AWq.seq ?_ | refine AWq.region ?_ | refine AWq.cond ?_ | refine AWq.block ?_ | refine AWq.skip ?_ | refine AWq.ret ?_ | refine AWq.exit ?_ | refine AWq.loop ?_ | (refine Both.mk ?_ ?_ <;> intro hc <;> (first | exact Bool.noConfusion hc | exact absurd (by with_reducible rfl) hc | exact (hc : False).elim | exact absurd (by assumption) hc | exact absurd hc (by assumption) | (exfalso; omega) | exact absurd hc (by decide) | skip)) | (intro c hc; (try (simp only [AH.none_iff] at hc; repeat (have hn := hc.1; replace hc := hc.2))); (first | (have hc2 := Eq.trans hc (by with_reducible assumption); clear hc; subst hc2) | (refine i64_k hc ?_ ?_ ?_ ; omega; omega; (clear hc; intro hc; subst hc)) | (refine u64_k hc ?_ ?_ ?_ ; omega; omega; (clear hc; intro hc; subst hc)) | (refine u8_k hc ?_ ?_ ?_ ; omega; omega; (clear hc; intro hc; subst hc)) | subst hc | skip)) | (apply Exists.intro; apply And.intro; (focus (repeat (first | assumption | exact AH.set_same _ _ _ | ((first | refine AH.get_ne ?_ ?_ | refine AH.getd_ne ?_ ?_); (first | assumption | omega | exact Ne.symm (by assumption) | exact AH.ne_none (by assumption) (by assumption) | exact AH.none_ne (by assumption) (by assumption) | exact (AH.none_set (by assumption)).1 | exact Ne.symm (AH.none_set (by assumption)).1)))); done)) | (apply Exists.intro; apply And.intro; first | (with_reducible assumption) | ((try simp only [List.getElem?_drop, Nat.mul_one, Nat.add_zero, Nat.zero_add]); first | (with_reducible assumption) | (refine u8s_get ?_; omega) | (refine iS_get ?_; omega) | assumption | rfl)) | (apply And.intro; (first | rfl | (with_reducible assumption) | exact Nat.le_of_ble_eq_true rfl | omega | (exact Int.ofNat_lt.2 (Nat.lt_of_lt_of_eq (by with_reducible assumption) (by decide +kernel))) | assumption | (simp <;> fail) | (simp <;> omega) | (focus (repeat' (first | exact one_u8s _ | exact one_iS _ _ | rfl | apply one_take | apply one_drop | apply one_append)); done))))) <;> (try (conv => whnf))
      have hna2 : ∀ k, k < i + 1 → putF P i p k ≠ a ∧ putF Q i q k ≠ a := fun k hk => by
        by_cases e : k = i
        · subst e; rw [putF_at, putF_at]; exact ⟨Ne.symm hap, Ne.symm haq⟩
        · rw [putF_ne _ _ e, putF_ne _ _ e]; exact hna k (by omega)
      have hHp : H p = none := HLe.none hle hp
      have hHq : H q = none := HLe.none hle hq
      refine ⟨((mdH G p q n fun _ => 1).set a (.row (psL P i ++ [.ptr p 0 0]) (i + 1)), i + 1, putF P i p, putF Q i q), ⟨?_, ?_⟩, ?_, ⟨rfl, congrArg (AV.int .i64) ?_, trivial⟩, HLe.refl _⟩
      · show i + 1 ≤ m
        omega
      · refine ⟨?_, ?_, ?_, hna2, ?_⟩
        · exact hm2.same fun k hk => ⟨AH.set_ne _ _ (hna2 k hk).1, AH.set_ne _ _ (hna2 k hk).2⟩
        · dsimp only
          rw [AH.set_same, ← psL_snoc]
        · exact HLe.set_of _ _ (HLe.set_of _ _ (HLe.set_of _ _ hle hHq) hHp) ha
        · intro k hk
          show H (putF P i p k) = none ∧ H (putF Q i q k) = none
          by_cases e : k = i
          · subst e; rw [putF_at, putF_at]; exact ⟨hHp, hHq⟩
          · rw [putF_ne _ _ e, putF_ne _ _ e]; exact hnew k (by have : k < i + 1 := hk; omega)
      · show m - (i + 1) < m - i
        omega
      · show (i : Int) + 1 = (i + 1 : Nat)
        omega
    · have hie : i = m := by omega
      subst hie
      (repeat' ((conv => whnf); first | left | refine OpsA.cons ?_ | refine OpsA.nil ?_ | refine AWq.seq ?_ | refine AWq.region ?_ | refine AWq.cond ?_ | refine AWq.block ?_ | refine AWq.skip ?_ | refine AWq.ret ?_ | refine AWq.exit ?_ | refine AWq.loop ?_ | (refine Both.mk ?_ ?_ <;> intro hc <;> (first | exact Bool.noConfusion hc | exact absurd (by with_reducible rfl) hc | exact (hc : False).elim | exact absurd (by assumption) hc | exact absurd hc (by assumption) | (exfalso; omega) | exact absurd hc (by decide) | skip)) | (intro c hc; (try (simp only [AH.none_iff] at hc; repeat (have hn := hc.1; replace hc := hc.2))); (first | (have hc2 := Eq.trans hc (by with_reducible assumption); clear hc; subst hc2) | (refine i64_k hc ?_ ?_ ?_ ; omega; omega; (clear hc; intro hc; subst hc)) | (refine u64_k hc ?_ ?_ ?_ ; omega; omega; (clear hc; intro hc; subst hc)) | (refine u8_k hc ?_ ?_ ?_ ; omega; omega; (clear hc; intro hc; subst hc)) | subst hc | skip)) | (apply Exists.intro; apply And.intro; (focus (repeat (first | assumption | exact AH.set_same _ _ _ | ((first | refine AH.get_ne ?_ ?_ | refine AH.getd_ne ?_ ?_); (first | assumption | omega | exact Ne.symm (by assumption) | exact AH.ne_none (by assumption) (by assumption) | exact AH.none_ne (by assumption) (by assumption) | exact (AH.none_set (by assumption)).1 | exact Ne.symm (AH.none_set (by assumption)).1)))); done)) | (apply Exists.intro; apply And.intro; first | (with_reducible assumption) | ((try simp only [List.getElem?_drop, Nat.mul_one, Nat.add_zero, Nat.zero_add]); first | (with_reducible assumption) | (refine u8s_get ?_; omega) | (refine iS_get ?_; omega) | assumption | rfl)) | (apply And.intro; (first | rfl | (with_reducible assumption) | exact Nat.le_of_ble_eq_true rfl | omega | (exact Int.ofNat_lt.2 (Nat.lt_of_lt_of_eq (by with_reducible assumption) (by decide +kernel))) | assumption | (simp <;> fail) | (simp <;> omega) | (focus (repeat' (first | exact one_u8s _ | exact one_iS _ _ | rfl | apply one_take | apply one_drop | apply one_append)); done))))) <;> (try (conv => whnf))
      refine Then.mk (AWq.in ?_)
      refine AWp_freeze1 (r := a) (v := i) (es := 1) (n := i) (lim := none) (cells := psL P i) 6 rfl rfl hrow (by simp) ?_
      refine AWp.of tt_ok (dok _) rfl ?_
      (repeat' ((conv => whnf); first | refine Then.mk ?_ | left | refine OpsA.cons ?_ | refine OpsA.nil ?_ | refine AWq.seq ?_ | refine AWq.region ?_ | refine AWq.cond ?_ | refine AWq.block ?_ | refine AWq.skip ?_ | refine AWq.ret ?_ | refine AWq.exit ?_ | refine AWq.loop ?_ | (refine Both.mk ?_ ?_ <;> intro hc <;> (first | exact Bool.noConfusion hc | exact absurd (by with_reducible rfl) hc | exact (hc : False).elim | exact absurd (by assumption) hc | exact absurd hc (by assumption) | (exfalso; omega) | exact absurd hc (by decide) | skip)) | (intro c hc; (try (simp only [AH.none_iff] at hc; repeat (have hn := hc.1; replace hc := hc.2))); (first | (have hc2 := Eq.trans hc (by with_reducible assumption); clear hc; subst hc2) | (refine i64_k hc ?_ ?_ ?_ ; omega; omega; (clear hc; intro hc; subst hc)) | (refine u64_k hc ?_ ?_ ?_ ; omega; omega; (clear hc; intro hc; subst hc)) | (refine u8_k hc ?_ ?_ ?_ ; omega; omega; (clear hc; intro hc; subst hc)) | subst hc | skip)) | (apply Exists.intro; apply And.intro; (focus (repeat (first | assumption | exact AH.set_same _ _ _ | ((first | refine AH.get_ne ?_ ?_ | refine AH.getd_ne ?_ ?_); (first | assumption | omega | exact Ne.symm (by assumption) | exact AH.ne_none (by assumption) (by assumption) | exact AH.none_ne (by assumption) (by assumption) | exact (AH.none_set (by assumption)).1 | exact Ne.symm (AH.none_set (by assumption)).1)))); done)) | (apply Exists.intro; apply And.intro; first | (with_reducible assumption) | ((try simp only [List.getElem?_drop, Nat.mul_one, Nat.add_zero, Nat.zero_add]); first | (with_reducible assumption) | (refine u8s_get ?_; omega) | (refine iS_get ?_; omega) | assumption | rfl)) | (apply And.intro; (first | rfl | (with_reducible assumption) | exact Nat.le_of_ble_eq_true rfl | omega | (exact Int.ofNat_lt.2 (Nat.lt_of_lt_of_eq (by with_reducible assumption) (by decide +kernel))) | assumption | (simp <;> fail) | (simp <;> omega) | (focus (repeat' (first | exact one_u8s _ | exact one_iS _ _ | rfl | apply one_take | apply one_drop | apply one_append)); done))))) <;> (try (conv => whnf))
      exact ⟨P, Q, rfl, hmods.same fun k hk => ⟨AH.del_ne _ (hna k hk).1, AH.del_ne _ (hna k hk).2⟩, HLe.del _ hle ha, hnew⟩

set_option maxRecDepth 8000 in
theorem alphabet_bad (n m : Int) (hi : -9223372036854775808 ≤ n ∧ n ≤ 9223372036854775807) (hj : -9223372036854775808 ≤ m ∧ m ≤ 9223372036854775807) (hb : ¬ SizesP n m) (H : AH) :
    ACall Try.prog 39 [.int .i64 n, .int .i64 m] H (fun y H' => y = .tup [.nils, .int .i64 1] ∧ H' = H) := by
  unfold SizesP at hb
  refine ACall_of tt_ok (dok _) Try.func39 rfl (by decide) rfl ?_
  (repeat' ((conv => whnf); first | refine Then.mk ?_ | left | refine OpsA.cons ?_ | refine OpsA.nil ?_ | refine AWq.seq ?_ | refine AWq.region ?_ | refine AWq.cond ?_ | refine AWq.block ?_ | refine AWq.skip ?_ | refine AWq.ret ?_ | refine AWq.exit ?_ | refine AWq.loop ?_ | (refine Both.mk ?_ ?_ <;> intro hc <;> (first | exact Bool.noConfusion hc | exact absurd (by with_reducible rfl) hc | exact (hc : False).elim | exact absurd (by assumption) hc | exact absurd hc (by assumption) | (exfalso; omega) | exact absurd hc (by decide) | skip)) | (intro c hc; (try (simp only [AH.none_iff] at hc; repeat (have hn := hc.1; replace hc := hc.2))); (first | (have hc2 := Eq.trans hc (by with_reducible assumption); clear hc; subst hc2) | (refine i64_k hc ?_ ?_ ?_ ; omega; omega; (clear hc; intro hc; subst hc)) | (refine u64_k hc ?_ ?_ ?_ ; omega; omega; (clear hc; intro hc; subst hc)) | (refine u8_k hc ?_ ?_ ?_ ; omega; omega; (clear hc; intro hc; subst hc)) | subst hc | skip)) | (apply Exists.intro; apply And.intro; (focus (repeat (first | assumption | exact AH.set_same _ _ _ | ((first | refine AH.get_ne ?_ ?_ | refine AH.getd_ne ?_ ?_); (first | assumption | omega | exact Ne.symm (by assumption) | exact AH.ne_none (by assumption) (by assumption) | exact AH.none_ne (by assumption) (by assumption) | exact (AH.none_set (by assumption)).1 | exact Ne.symm (AH.none_set (by assumption)).1)))); done)) | (apply Exists.intro; apply And.intro; first | (with_reducible assumption) | ((try simp only [List.getElem?_drop, Nat.mul_one, Nat.add_zero, Nat.zero_add]); first | (with_reducible assumption) | (refine u8s_get ?_; omega) | (refine iS_get ?_; omega) | assumption | rfl)) | (apply And.intro; (first | rfl | (with_reducible assumption) | exact Nat.le_of_ble_eq_true rfl | omega | (exact Int.ofNat_lt.2 (Nat.lt_of_lt_of_eq (by with_reducible assumption) (by decide +kernel))) | assumption | (simp <;> fail) | (simp <;> omega) | (focus (repeat' (first | exact one_u8s _ | exact one_iS _ _ | rfl | apply one_take | apply one_drop | apply one_append)); done))))) <;> (try (conv => whnf))
end Go.Proofs.Ytgmooalikccbiaa
/- The walks of the coder: Encode. -/
namespace Go.Proofs.Ytgmooalikccbiaa
open Go.Fw Go
set_option linter.unusedVariables false
set_option linter.unusedSimpArgs false

theorem ACall.fin {P : Program} {g : FuncId} {args : List AV} {H : AH} {v : AV} (h : ACall P g args H fun y H' => AVle y v ∧ HLe H H') : ACall P g args H fun y H' => y = v ∧ H' = H :=
  ACall.told (h.mono fun y H' ⟨a, b⟩ => ⟨v, H, a, b, rfl, rfl⟩)

/-- Models and a writer stand here; ahead of them there was the heap H. -/
structure CdAt (H G : AH) (P Q : Nat → Nat) (w r m n : Nat) (E : Es) : Prop where
  mods : Mods G P Q m n E.M
  wr : WrAt G w r E.σ
  dj : ∀ k, k < m → P k ≠ w ∧ P k ≠ r ∧ Q k ≠ w ∧ Q k ≠ r
  le : HLe H G
  new : ∀ k, k < m → H (P k) = none ∧ H (Q k) = none
  hw : H w = none
  hr : H r = none
theorem le_mdH {H G : AH} {p q n : Nat} {c : Nat → Nat} (h : HLe H G) (hp : H p = none) (hq : H q = none) : HLe H (mdH G p q n c) := HLe.set_of _ _ (HLe.set_of _ _ h hq) hp
theorem le_wcH {H G : AH} {w r : Nat} {σ : Cs} (h : HLe H G) (hp : H w = none) (hq : H r = none) : HLe H (wcH G w r σ) := HLe.set_of _ _ (HLe.set_of _ _ h hq) hp
theorem CdAt.step {H G : AH} {P Q : Nat → Nat} {w r m n : Nat} {E : Es} (h : CdAt H G P Q w r m n E) (σ : Cs) : CdAt H (wcH G w r σ) P Q w r m n ⟨E.M, σ⟩ := by
  refine ⟨h.mods.same fun k hk => ?_, WrAt.set h.wr.ne, h.dj, le_wcH h.le h.hw h.hr, h.new, h.hw, h.hr⟩
  obtain ⟨a, b, c, d⟩ := h.dj k hk
  exact ⟨wcH_ne a b, wcH_ne c d⟩
def enG (G : AH) (P Q : Nat → Nat) (w r n : Nat) (E : Es) (k s : Nat) : AH := mdH (wcH G w r (symE n E k s).σ) (P k) (Q k) n (seeM n (E.M k) s)
theorem CdAt.sym {H G : AH} {P Q : Nat → Nat} {w r m n : Nat} {E : Es} (h : CdAt H G P Q w r m n E) {k s : Nat} (hk : k < m) (hs : s < n) : CdAt H (enG G P Q w r n E k s) P Q w r m n (symE n E k s) := by
  have h1 := h.step (symE n E k s).σ
  obtain ⟨a, b, c, d⟩ := h.dj k hk
  refine ⟨h1.mods.set hk ((h.mods.md k hk).ok.see hs), h1.wr.same (mdH_ne (Ne.symm a) (Ne.symm c)) (mdH_ne (Ne.symm b) (Ne.symm d)), h.dj, le_mdH h1.le (h.new k hk).1 (h.new k hk).2, h.new, h.hw, h.hr⟩
theorem CdAt.symbol {H G : AH} {P Q : Nat → Nat} {w r m n : Nat} {E : Es} (h : CdAt H G P Q w r m n E) (hc : CsOk E.σ) (hL : E.σ.L ≤ 1000000000000) {k s : Nat} (hk : k < m) (hs : s < n) :
    ACall Try.prog 41 [.ptr w 0 0, .ptr (P k) 0 0, .int .i64 s] G (fun y H' => y = .tup [] ∧ H' = enG G P Q w r n E k s) := by
  obtain ⟨a, b, c, d⟩ := h.dj k hk
  exact symbol_c h.wr (h.mods.md k hk) a b c d hs hc hL
theorem stp_L {σ : Cs} (h : CsOk σ) {p c t : Nat} (hs : StOk p c t) : (stp σ p c t).L ≤ σ.L + 2 := by
  obtain ⟨d, hd, he, _⟩ := stp_ex h hs
  rw [he]
  show σ.L + d ≤ _
  omega
theorem encSt_L {n many : Nat} (hn : n ≤ 1024) {sy cx : List Int} : ∀ {i : Nat} {E : Es}, encSt n many sy cx i = some E → E.σ.L ≤ 2 * i
  | 0, E, h => by cases h; exact Nat.le_refl _
  | i + 1, E, h => by
    unfold encSt at h
    cases hh : encSt n many sy cx i with
    | none => rw [hh] at h; cases h
    | some E' =>
      rw [hh] at h
      have ih := encSt_L hn hh
      have hok := encSt_ok hn hh
      dsimp only at h
      split at h
      · rename_i hc
        cases h
        have := stp_L hok.cs (hok.st (cx.getD i 0).toNat (s := (sy.getD i 0).toNat) (by have := hc.1.2; have := hc.1.1; omega))
        show (stp _ _ _ _).L ≤ _
        omega
      · cases h
theorem encSt_none {n many : Nat} {sy cx : List Int} {i : Nat} (h : encSt n many sy cx i = none) : ∀ d, encSt n many sy cx (i + d) = none
  | 0 => h
  | d + 1 => by
    show (match encSt n many sy cx (i + d) with | none => none | some E => _) = none
    rw [encSt_none h d]

/-- Bytes and an error, as they are returned. -/
def k_resV (x : List UInt8 × Int) : AV := .tup [.cs (u8s x.1) x.1.length, .int .i64 x.2]
theorem AVle.err {e : Int} : AVle (.tup [.nils, .int .i64 e]) (k_resV ([], e)) := AVle.tup (AVles.cons AVle.nils (AVles.cons (AVle.refl _) AVles.nil))

def I64L (l : List Int) : Prop := ∀ x ∈ l, -9223372036854775808 ≤ x ∧ x ≤ 9223372036854775807
theorem I64L.at {l : List Int} (h : I64L l) (i : Nat) : -9223372036854775808 ≤ l.getD i 0 ∧ l.getD i 0 ≤ 9223372036854775807 := by
  by_cases hi : i < l.length
  · have : l.getD i 0 = l[i] := by rw [List.getD_eq_getElem?_getD, List.getElem?_eq_getElem hi]; rfl
    rw [this]; exact h _ (List.getElem_mem hi)
  · rw [List.getD_eq_getElem?_getD, List.getElem?_eq_none (by omega)]; decide

set_option maxRecDepth 8000 in
theorem k_encode_c (n many : Int) (hn : -9223372036854775808 ≤ n ∧ n ≤ 9223372036854775807) (hm : -9223372036854775808 ≤ many ∧ many ≤ 9223372036854775807) (sy cx : List Int) (hsy : I64L sy) (hcx : I64L cx) (hls : sy.length ≤ 1000000) (hlc : cx.length ≤ 1000000) (H : AH) :
    ACall Try.prog 15 [.int .i64 n, .int .i64 many, .cs (iS .i64 sy) sy.length, .cs (iS .i64 cx) cx.length] H (fun y H' => y = k_resV (encS n many sy cx) ∧ H' = H) := by
  refine ACall.fin ?_
  have hsl : (iS .i64 sy).length = sy.length * 1 := by simp
  have hcl : (iS .i64 cx).length = cx.length * 1 := by simp
  by_cases hz : SizesP n many
  · obtain ⟨n, rfl⟩ : ∃ k : Nat, n = (k : Int) := ⟨n.toNat, by have := hz.1; omega⟩
    obtain ⟨many, rfl⟩ : ∃ k : Nat, many = (k : Int) := ⟨many.toNat, by have := hz.2.2.1; omega⟩
    obtain ⟨z1, z2, z3, z4⟩ := id hz
    refine ACall_of tt_ok (dok _) Try.func15 rfl (by decide) rfl ?_
    (repeat' ((conv => whnf); first | refine Then.mk ?_ | left | refine OpsA.cons ?_ | refine OpsA.nil ?_ | refine AWq.seq ?_ | refine AWq.region ?_ | refine AWq.cond ?_ | refine AWq.block ?_ | refine AWq.skip ?_ | refine AWq.ret ?_ | refine AWq.exit ?_ | refine AWq.loop ?_ | (refine Both.mk ?_ ?_ <;> intro hc <;> (first | exact Bool.noConfusion hc | exact absurd (by with_reducible rfl) hc | exact (hc : False).elim | exact absurd (by assumption) hc | exact absurd hc (by assumption) | (exfalso; omega) | exact absurd hc (by decide) | skip)) | (intro c hc; (try (simp only [AH.none_iff] at hc; repeat (have hn := hc.1; replace hc := hc.2))); (first | (have hc2 := Eq.trans hc (by with_reducible assumption); clear hc; subst hc2) | (refine i64_k hc ?_ ?_ ?_ ; omega; omega; (clear hc; intro hc; subst hc)) | (refine u64_k hc ?_ ?_ ?_ ; omega; omega; (clear hc; intro hc; subst hc)) | (refine u8_k hc ?_ ?_ ?_ ; omega; omega; (clear hc; intro hc; subst hc)) | subst hc | skip)) | (apply Exists.intro; apply And.intro; (focus (repeat (first | assumption | exact AH.set_same _ _ _ | ((first | refine AH.get_ne ?_ ?_ | refine AH.getd_ne ?_ ?_); (first | assumption | omega | exact Ne.symm (by assumption) | exact AH.ne_none (by assumption) (by assumption) | exact AH.none_ne (by assumption) (by assumption) | exact (AH.none_set (by assumption)).1 | exact Ne.symm (AH.none_set (by assumption)).1)))); done)) | (apply Exists.intro; apply And.intro; first | (with_reducible assumption) | ((try simp only [List.getElem?_drop, Nat.mul_one, Nat.add_zero, Nat.zero_add]); first | (with_reducible assumption) | (refine u8s_get ?_; omega) | (refine iS_get ?_; omega) | assumption | rfl)) | (apply And.intro; (first | rfl | (with_reducible assumption) | exact Nat.le_of_ble_eq_true rfl | omega | (exact Int.ofNat_lt.2 (Nat.lt_of_lt_of_eq (by with_reducible assumption) (by decide +kernel))) | assumption | (simp <;> fail) | (simp <;> omega) | (focus (repeat' (first | exact one_u8s _ | exact one_iS _ _ | rfl | apply one_take | apply one_drop | apply one_append)); done))))) <;> (try (conv => whnf))
    refine (alphabet_c n many (by omega) (by omega) (by omega) (by omega) _).mono ?_
    rintro y H' ⟨P, Q, rfl, hmods, hle, hnew⟩
    have hpl : (psL P many).length = many := psL_len _ _
    by_cases hlen : sy.length = cx.length
    · by_cases hlim : sy.length ≤ 65536
      · (repeat' ((conv => whnf); first | refine Then.mk ?_ | left | refine OpsA.cons ?_ | refine OpsA.nil ?_ | refine AWq.seq ?_ | refine AWq.region ?_ | refine AWq.cond ?_ | refine AWq.block ?_ | refine AWq.skip ?_ | refine AWq.ret ?_ | refine AWq.exit ?_ | refine AWq.loop ?_ | (refine Both.mk ?_ ?_ <;> intro hc <;> (first | exact Bool.noConfusion hc | exact absurd (by with_reducible rfl) hc | exact (hc : False).elim | exact absurd (by assumption) hc | exact absurd hc (by assumption) | (exfalso; omega) | exact absurd hc (by decide) | skip)) | (intro c hc; (try (simp only [AH.none_iff] at hc; repeat (have hn := hc.1; replace hc := hc.2))); (first | (have hc2 := Eq.trans hc (by with_reducible assumption); clear hc; subst hc2) | (refine i64_k hc ?_ ?_ ?_ ; omega; omega; (clear hc; intro hc; subst hc)) | (refine u64_k hc ?_ ?_ ?_ ; omega; omega; (clear hc; intro hc; subst hc)) | (refine u8_k hc ?_ ?_ ?_ ; omega; omega; (clear hc; intro hc; subst hc)) | subst hc | skip)) | (apply Exists.intro; apply And.intro; (focus (repeat (first | assumption | exact AH.set_same _ _ _ | ((first | refine AH.get_ne ?_ ?_ | refine AH.getd_ne ?_ ?_); (first | assumption | omega | exact Ne.symm (by assumption) | exact AH.ne_none (by assumption) (by assumption) | exact AH.none_ne (by assumption) (by assumption) | exact (AH.none_set (by assumption)).1 | exact Ne.symm (AH.none_set (by assumption)).1)))); done)) | (apply Exists.intro; apply And.intro; first | (with_reducible assumption) | ((try simp only [List.getElem?_drop, Nat.mul_one, Nat.add_zero, Nat.zero_add]); first | (with_reducible assumption) | (refine u8s_get ?_; omega) | (refine iS_get ?_; omega) | assumption | rfl)) | (apply And.intro; (first | rfl | (with_reducible assumption) | exact Nat.le_of_ble_eq_true rfl | omega | (exact Int.ofNat_lt.2 (Nat.lt_of_lt_of_eq (by with_reducible assumption) (by decide +kernel))) | assumption | (simp <;> fail) | (simp <;> omega) | (focus (repeat' (first | exact one_u8s _ | exact one_iS _ _ | rfl | apply one_take | apply one_drop | apply one_append)); done))))) <;> (try (conv => whnf))
        refine (writer_c _).mono ?_
        rintro y G ⟨w, r, hw, hr, hwr, rfl, rfl⟩
        have hcd : CdAt H (wcH H' w r cs0) P Q w r many n es0 := by
          have hd : ∀ k, k < many → P k ≠ w ∧ P k ≠ r ∧ Q k ≠ w ∧ Q k ≠ r := fun k hk => ⟨(hmods.fresh hw hk).1, (hmods.fresh hr hk).1, (hmods.fresh hw hk).2, (hmods.fresh hr hk).2⟩
          exact ⟨hmods.same fun k hk => ⟨wcH_ne (hd k hk).1 (hd k hk).2.1, wcH_ne (hd k hk).2.2.1 (hd k hk).2.2.2⟩, WrAt.set hwr, hd, le_wcH hle (HLe.none hle hw) (HLe.none hle hr), hnew, HLe.none hle hw, HLe.none hle hr⟩
        generalize wcH H' w r cs0 = G0 at hcd ⊢
        (repeat' ((conv => whnf); first | refine Then.mk ?_ | left | refine OpsA.cons ?_ | refine OpsA.nil ?_ | refine AWq.seq ?_ | refine AWq.region ?_ | refine AWq.cond ?_ | refine AWq.block ?_ | refine AWq.skip ?_ | refine AWq.ret ?_ | refine AWq.exit ?_ | refine AWq.loop ?_ | (refine Both.mk ?_ ?_ <;> intro hc <;> (first | exact Bool.noConfusion hc | exact absurd (by with_reducible rfl) hc | exact (hc : False).elim | exact absurd (by assumption) hc | exact absurd hc (by assumption) | (exfalso; omega) | exact absurd hc (by decide) | skip)) | (intro c hc; (try (simp only [AH.none_iff] at hc; repeat (have hn := hc.1; replace hc := hc.2))); (first | (have hc2 := Eq.trans hc (by with_reducible assumption); clear hc; subst hc2) | (refine i64_k hc ?_ ?_ ?_ ; omega; omega; (clear hc; intro hc; subst hc)) | (refine u64_k hc ?_ ?_ ?_ ; omega; omega; (clear hc; intro hc; subst hc)) | (refine u8_k hc ?_ ?_ ?_ ; omega; omega; (clear hc; intro hc; subst hc)) | subst hc | skip)) | (apply Exists.intro; apply And.intro; (focus (repeat (first | assumption | exact AH.set_same _ _ _ | ((first | refine AH.get_ne ?_ ?_ | refine AH.getd_ne ?_ ?_); (first | assumption | omega | exact Ne.symm (by assumption) | exact AH.ne_none (by assumption) (by assumption) | exact AH.none_ne (by assumption) (by assumption) | exact (AH.none_set (by assumption)).1 | exact Ne.symm (AH.none_set (by assumption)).1)))); done)) | (apply Exists.intro; apply And.intro; first | (with_reducible assumption) | ((try simp only [List.getElem?_drop, Nat.mul_one, Nat.add_zero, Nat.zero_add]); first | (with_reducible assumption) | (refine u8s_get ?_; omega) | (refine iS_get ?_; omega) | assumption | rfl)) | (apply And.intro; (first | rfl | (with_reducible assumption) | exact Nat.le_of_ble_eq_true rfl | omega | (exact Int.ofNat_lt.2 (Nat.lt_of_lt_of_eq (by with_reducible assumption) (by decide +kernel))) | assumption | (simp <;> fail) | (simp <;> omega) | (focus (repeat' (first | exact one_u8s _ | exact one_iS _ _ | rfl | apply one_take | apply one_drop | apply one_append)); done))))) <;> (try (conv => whnf))
        refine AWp_loop (σ := AH × Nat × Es) (8 :: 9 :: 13 :: 14 :: 38 :: 39 :: 40 :: 41 :: 42 :: 43 :: 44 :: 45 :: 46 :: 47 :: 48 :: 49 :: 50 :: 51 :: 52 :: 53 :: 54 :: 55 :: 56 :: 57 :: 58 :: 59 :: 60 :: 61 :: 62 :: 63 :: 64 :: 65 :: 66 :: 67 :: 68 :: 69 :: 70 :: 71 :: 72 :: 73 :: 74 :: 75 :: []) (fun (G, i, E) => [(12, .ptr w 0 0), (38, .int .i64 i)]) (fun (G, i, E) => G) (fun (G, i, E) => i ≤ sy.length ∧ encSt n many sy cx i = some E ∧ CdAt H G P Q w r many n E) (fun (G, i, E) => sy.length - i) (G0, 0, es0) rfl ?_ ?_ (HLe.refl _) ?_
        · exact ⟨Nat.zero_le _, rfl, hcd⟩
        · exact ⟨rfl, rfl, trivial⟩
        · rintro ⟨G, i, E⟩ ⟨hi, hE, hcd⟩
          dsimp only at hi hE hcd ⊢
          refine AWp.of tt_ok (dok _) rfl ?_
          have hok := encSt_ok (by omega) hE
          have hL := encSt_L (by omega) hE
          by_cases hil : i < sy.length
          · have ha := hsy.at i
            have hc := hcx.at i
            have hga : (iS .i64 sy)[(i : Int).toNat]? = some (.int .i64 (sy.getD i 0)) := iS_get hil
            have hgc : (iS .i64 cx)[(i : Int).toNat]? = some (.int .i64 (cx.getD i 0)) := iS_get (by rw [Int.toNat_natCast]; omega)
            have hst : encSt n many sy cx (i + 1) = if inN (sy.getD i 0) n ∧ inN (cx.getD i 0) many then some (symE n E (cx.getD i 0).toNat (sy.getD i 0).toNat) else none := by
              show (match encSt n many sy cx i with | none => none | some E => _) = _
              rw [hE]
            generalize sy.getD i 0 = a at *
            generalize cx.getD i 0 = c at *
            by_cases hin : inN a n ∧ inN c many
            · rw [if_pos hin] at hst
              obtain ⟨⟨i1, i2⟩, ⟨i3, i4⟩⟩ := hin
              obtain ⟨s, rfl⟩ : ∃ s : Nat, a = (s : Int) := ⟨a.toNat, by omega⟩
              obtain ⟨k, rfl⟩ : ∃ k : Nat, c = (k : Int) := ⟨c.toNat, by omega⟩
              have hsm := hcd.symbol hok.cs (by omega) (k := k) (s := s) (by omega) (by omega)
              have hcd2 := hcd.sym (k := k) (s := s) (by omega) (by omega)
              have hgp : (psL P many)[(k : Int).toNat]? = some (.ptr (P k) 0 0) := psL_get (by omega)
              (repeat' ((conv => whnf); first | refine Then.mk ?_ | left | refine OpsA.cons ?_ | refine OpsA.nil ?_ | refine AWq.seq ?_ | refine AWq.region ?_ | refine AWq.cond ?_ | refine AWq.block ?_ | refine AWq.skip ?_ | refine AWq.ret ?_ | refine AWq.exit ?_ | refine AWq.loop ?_ | (refine ACall.to (hsm) ?_) | (refine Both.mk ?_ ?_ <;> intro hc <;> (first | exact Bool.noConfusion hc | exact absurd (by with_reducible rfl) hc | exact (hc : False).elim | exact absurd (by assumption) hc | exact absurd hc (by assumption) | (exfalso; omega) | exact absurd hc (by decide) | skip)) | (intro c hc; (try (simp only [AH.none_iff] at hc; repeat (have hn := hc.1; replace hc := hc.2))); (first | (have hc2 := Eq.trans hc (by with_reducible assumption); clear hc; subst hc2) | (refine i64_k hc ?_ ?_ ?_ ; omega; omega; (clear hc; intro hc; subst hc)) | (refine u64_k hc ?_ ?_ ?_ ; omega; omega; (clear hc; intro hc; subst hc)) | (refine u8_k hc ?_ ?_ ?_ ; omega; omega; (clear hc; intro hc; subst hc)) | subst hc | skip)) | (apply Exists.intro; apply And.intro; (focus (repeat (first | assumption | exact AH.set_same _ _ _ | ((first | refine AH.get_ne ?_ ?_ | refine AH.getd_ne ?_ ?_); (first | assumption | omega | exact Ne.symm (by assumption) | exact AH.ne_none (by assumption) (by assumption) | exact AH.none_ne (by assumption) (by assumption) | exact (AH.none_set (by assumption)).1 | exact Ne.symm (AH.none_set (by assumption)).1)))); done)) | (apply Exists.intro; apply And.intro; first | (with_reducible assumption) | ((try simp only [List.getElem?_drop, Nat.mul_one, Nat.add_zero, Nat.zero_add]); first | (with_reducible assumption) | (refine u8s_get ?_; omega) | (refine iS_get ?_; omega) | assumption | rfl)) | (apply And.intro; (first | rfl | (with_reducible assumption) | exact Nat.le_of_ble_eq_true rfl | omega | (exact Int.ofNat_lt.2 (Nat.lt_of_lt_of_eq (by with_reducible assumption) (by decide +kernel))) | assumption | (simp <;> fail) | (simp <;> omega) | (focus (repeat' (first | exact one_u8s _ | exact one_iS _ _ | rfl | apply one_take | apply one_drop | apply one_append)); done))))) <;> (try (conv => whnf))
              exact ⟨(_, i + 1, symE n E k s), ⟨hil, hst, hcd2⟩, by show sy.length - (i + 1) < sy.length - i; omega, ⟨rfl, congrArg (AV.int .i64) (by show (i : Int) + 1 = (i + 1 : Nat); omega), trivial⟩, HLe.refl _⟩
            · rw [if_neg hin] at hst
              have he : encS n many sy cx = ([], 5) := by
                unfold encS
                rw [if_pos ⟨hz, hlen⟩, if_pos hlim, Int.toNat_natCast, Int.toNat_natCast]
                have := encSt_none hst (sy.length - (i + 1))
                rw [show i + 1 + (sy.length - (i + 1)) = sy.length by omega] at this
                rw [this]
              rw [he]
              unfold inN at hin
              by_cases h1 : a < 0
              · (repeat' ((conv => whnf); first | refine Then.mk ?_ | left | refine OpsA.cons ?_ | refine OpsA.nil ?_ | refine AWq.seq ?_ | refine AWq.region ?_ | refine AWq.cond ?_ | refine AWq.block ?_ | refine AWq.skip ?_ | refine AWq.ret ?_ | refine AWq.exit ?_ | refine AWq.loop ?_ | (refine Both.mk ?_ ?_ <;> intro hc <;> (first | exact Bool.noConfusion hc | exact absurd (by with_reducible rfl) hc | exact (hc : False).elim | exact absurd (by assumption) hc | exact absurd hc (by assumption) | (exfalso; omega) | exact absurd hc (by decide) | skip)) | (intro c hc; (try (simp only [AH.none_iff] at hc; repeat (have hn := hc.1; replace hc := hc.2))); (first | (have hc2 := Eq.trans hc (by with_reducible assumption); clear hc; subst hc2) | (refine i64_k hc ?_ ?_ ?_ ; omega; omega; (clear hc; intro hc; subst hc)) | (refine u64_k hc ?_ ?_ ?_ ; omega; omega; (clear hc; intro hc; subst hc)) | (refine u8_k hc ?_ ?_ ?_ ; omega; omega; (clear hc; intro hc; subst hc)) | subst hc | skip)) | (apply Exists.intro; apply And.intro; (focus (repeat (first | assumption | exact AH.set_same _ _ _ | ((first | refine AH.get_ne ?_ ?_ | refine AH.getd_ne ?_ ?_); (first | assumption | omega | exact Ne.symm (by assumption) | exact AH.ne_none (by assumption) (by assumption) | exact AH.none_ne (by assumption) (by assumption) | exact (AH.none_set (by assumption)).1 | exact Ne.symm (AH.none_set (by assumption)).1)))); done)) | (apply Exists.intro; apply And.intro; first | (with_reducible assumption) | ((try simp only [List.getElem?_drop, Nat.mul_one, Nat.add_zero, Nat.zero_add]); first | (with_reducible assumption) | (refine u8s_get ?_; omega) | (refine iS_get ?_; omega) | assumption | rfl)) | (apply And.intro; (first | rfl | (with_reducible assumption) | exact Nat.le_of_ble_eq_true rfl | omega | (exact Int.ofNat_lt.2 (Nat.lt_of_lt_of_eq (by with_reducible assumption) (by decide +kernel))) | assumption | (simp <;> fail) | (simp <;> omega) | (focus (repeat' (first | exact one_u8s _ | exact one_iS _ _ | rfl | apply one_take | apply one_drop | apply one_append)); done))))) <;> (try (conv => whnf))
                exact ⟨AVle.err, hcd.le⟩
              · by_cases h2 : (n : Int) ≤ a
                · (repeat' ((conv => whnf); first | refine Then.mk ?_ | left | refine OpsA.cons ?_ | refine OpsA.nil ?_ | refine AWq.seq ?_ | refine AWq.region ?_ | refine AWq.cond ?_ | refine AWq.block ?_ | refine AWq.skip ?_ | refine AWq.ret ?_ | refine AWq.exit ?_ | refine AWq.loop ?_ | (refine Both.mk ?_ ?_ <;> intro hc <;> (first | exact Bool.noConfusion hc | exact absurd (by with_reducible rfl) hc | exact (hc : False).elim | exact absurd (by assumption) hc | exact absurd hc (by assumption) | (exfalso; omega) | exact absurd hc (by decide) | skip)) | (intro c hc; (try (simp only [AH.none_iff] at hc; repeat (have hn := hc.1; replace hc := hc.2))); (first | (have hc2 := Eq.trans hc (by with_reducible assumption); clear hc; subst hc2) | (refine i64_k hc ?_ ?_ ?_ ; omega; omega; (clear hc; intro hc; subst hc)) | (refine u64_k hc ?_ ?_ ?_ ; omega; omega; (clear hc; intro hc; subst hc)) | (refine u8_k hc ?_ ?_ ?_ ; omega; omega; (clear hc; intro hc; subst hc)) | subst hc | skip)) | (apply Exists.intro; apply And.intro; (focus (repeat (first | assumption | exact AH.set_same _ _ _ | ((first | refine AH.get_ne ?_ ?_ | refine AH.getd_ne ?_ ?_); (first | assumption | omega | exact Ne.symm (by assumption) | exact AH.ne_none (by assumption) (by assumption) | exact AH.none_ne (by assumption) (by assumption) | exact (AH.none_set (by assumption)).1 | exact Ne.symm (AH.none_set (by assumption)).1)))); done)) | (apply Exists.intro; apply And.intro; first | (with_reducible assumption) | ((try simp only [List.getElem?_drop, Nat.mul_one, Nat.add_zero, Nat.zero_add]); first | (with_reducible assumption) | (refine u8s_get ?_; omega) | (refine iS_get ?_; omega) | assumption | rfl)) | (apply And.intro; (first | rfl | (with_reducible assumption) | exact Nat.le_of_ble_eq_true rfl | omega | (exact Int.ofNat_lt.2 (Nat.lt_of_lt_of_eq (by with_reducible assumption) (by decide +kernel))) | assumption | (simp <;> fail) | (simp <;> omega) | (focus (repeat' (first | exact one_u8s _ | exact one_iS _ _ | rfl | apply one_take | apply one_drop | apply one_append)); done))))) <;> (try (conv => whnf))
                  exact ⟨AVle.err, hcd.le⟩
                · by_cases h3 : c < 0
                  · (repeat' ((conv => whnf); first | refine Then.mk ?_ | left | refine OpsA.cons ?_ | refine OpsA.nil ?_ | refine AWq.seq ?_ | refine AWq.region ?_ | refine AWq.cond ?_ | refine AWq.block ?_ | refine AWq.skip ?_ | refine AWq.ret ?_ | refine AWq.exit ?_ | refine AWq.loop ?_ | (refine Both.mk ?_ ?_ <;> intro hc <;> (first | exact Bool.noConfusion hc | exact absurd (by with_reducible rfl) hc | exact (hc : False).elim | exact absurd (by assumption) hc | exact absurd hc (by assumption) | (exfalso; omega) | exact absurd hc (by decide) | skip)) | (intro c hc; (try (simp only [AH.none_iff] at hc; repeat (have hn := hc.1; replace hc := hc.2))); (first | (have hc2 := Eq.trans hc (by with_reducible assumption); clear hc; subst hc2) | (refine i64_k hc ?_ ?_ ?_ ; omega; omega; (clear hc; intro hc; subst hc)) | (refine u64_k hc ?_ ?_ ?_ ; omega; omega; (clear hc; intro hc; subst hc)) | (refine u8_k hc ?_ ?_ ?_ ; omega; omega; (clear hc; intro hc; subst hc)) | subst hc | skip)) | (apply Exists.intro; apply And.intro; (focus (repeat (first | assumption | exact AH.set_same _ _ _ | ((first | refine AH.get_ne ?_ ?_ | refine AH.getd_ne ?_ ?_); (first | assumption | omega | exact Ne.symm (by assumption) | exact AH.ne_none (by assumption) (by assumption) | exact AH.none_ne (by assumption) (by assumption) | exact (AH.none_set (by assumption)).1 | exact Ne.symm (AH.none_set (by assumption)).1)))); done)) | (apply Exists.intro; apply And.intro; first | (with_reducible assumption) | ((try simp only [List.getElem?_drop, Nat.mul_one, Nat.add_zero, Nat.zero_add]); first | (with_reducible assumption) | (refine u8s_get ?_; omega) | (refine iS_get ?_; omega) | assumption | rfl)) | (apply And.intro; (first | rfl | (with_reducible assumption) | exact Nat.le_of_ble_eq_true rfl | omega | (exact Int.ofNat_lt.2 (Nat.lt_of_lt_of_eq (by with_reducible assumption) (by decide +kernel))) | assumption | (simp <;> fail) | (simp <;> omega) | (focus (repeat' (first | exact one_u8s _ | exact one_iS _ _ | rfl | apply one_take | apply one_drop | apply one_append)); done))))) <;> (try (conv => whnf))
                    exact ⟨AVle.err, hcd.le⟩
                  · have h4 : (many : Int) ≤ c := by omega
                    (repeat' ((conv => whnf); first | refine Then.mk ?_ | left | refine OpsA.cons ?_ | refine OpsA.nil ?_ | refine AWq.seq ?_ | refine AWq.region ?_ | refine AWq.cond ?_ | refine AWq.block ?_ | refine AWq.skip ?_ | refine AWq.ret ?_ | refine AWq.exit ?_ | refine AWq.loop ?_ | (refine Both.mk ?_ ?_ <;> intro hc <;> (first | exact Bool.noConfusion hc | exact absurd (by with_reducible rfl) hc | exact (hc : False).elim | exact absurd (by assumption) hc | exact absurd hc (by assumption) | (exfalso; omega) | exact absurd hc (by decide) | skip)) | (intro c hc; (try (simp only [AH.none_iff] at hc; repeat (have hn := hc.1; replace hc := hc.2))); (first | (have hc2 := Eq.trans hc (by with_reducible assumption); clear hc; subst hc2) | (refine i64_k hc ?_ ?_ ?_ ; omega; omega; (clear hc; intro hc; subst hc)) | (refine u64_k hc ?_ ?_ ?_ ; omega; omega; (clear hc; intro hc; subst hc)) | (refine u8_k hc ?_ ?_ ?_ ; omega; omega; (clear hc; intro hc; subst hc)) | subst hc | skip)) | (apply Exists.intro; apply And.intro; (focus (repeat (first | assumption | exact AH.set_same _ _ _ | ((first | refine AH.get_ne ?_ ?_ | refine AH.getd_ne ?_ ?_); (first | assumption | omega | exact Ne.symm (by assumption) | exact AH.ne_none (by assumption) (by assumption) | exact AH.none_ne (by assumption) (by assumption) | exact (AH.none_set (by assumption)).1 | exact Ne.symm (AH.none_set (by assumption)).1)))); done)) | (apply Exists.intro; apply And.intro; first | (with_reducible assumption) | ((try simp only [List.getElem?_drop, Nat.mul_one, Nat.add_zero, Nat.zero_add]); first | (with_reducible assumption) | (refine u8s_get ?_; omega) | (refine iS_get ?_; omega) | assumption | rfl)) | (apply And.intro; (first | rfl | (with_reducible assumption) | exact Nat.le_of_ble_eq_true rfl | omega | (exact Int.ofNat_lt.2 (Nat.lt_of_lt_of_eq (by with_reducible assumption) (by decide +kernel))) | assumption | (simp <;> fail) | (simp <;> omega) | (focus (repeat' (first | exact one_u8s _ | exact one_iS _ _ | rfl | apply one_take | apply one_drop | apply one_append)); done))))) <;> (try (conv => whnf))
                    exact ⟨AVle.err, hcd.le⟩
          · have hie : i = sy.length := by omega
            have he : encS n many sy cx = (codeS E.σ, 0) := by
              unfold encS
              rw [if_pos ⟨hz, hlen⟩, if_pos hlim, Int.toNat_natCast, Int.toNat_natCast, ← hie, hE]
            rw [he]
            have hcode := code_c (H := G) (σ := E.σ) hcd.wr.ne (by omega)
            rw [hcd.wr.eq] at hcode
            (repeat' ((conv => whnf); first | refine Then.mk ?_ | left | refine OpsA.cons ?_ | refine OpsA.nil ?_ | refine AWq.seq ?_ | refine AWq.region ?_ | refine AWq.cond ?_ | refine AWq.block ?_ | refine AWq.skip ?_ | refine AWq.ret ?_ | refine AWq.exit ?_ | refine AWq.loop ?_ | (refine ACall.to (hcode) ?_) | (refine Both.mk ?_ ?_ <;> intro hc <;> (first | exact Bool.noConfusion hc | exact absurd (by with_reducible rfl) hc | exact (hc : False).elim | exact absurd (by assumption) hc | exact absurd hc (by assumption) | (exfalso; omega) | exact absurd hc (by decide) | skip)) | (intro c hc; (try (simp only [AH.none_iff] at hc; repeat (have hn := hc.1; replace hc := hc.2))); (first | (have hc2 := Eq.trans hc (by with_reducible assumption); clear hc; subst hc2) | (refine i64_k hc ?_ ?_ ?_ ; omega; omega; (clear hc; intro hc; subst hc)) | (refine u64_k hc ?_ ?_ ?_ ; omega; omega; (clear hc; intro hc; subst hc)) | (refine u8_k hc ?_ ?_ ?_ ; omega; omega; (clear hc; intro hc; subst hc)) | subst hc | skip)) | (apply Exists.intro; apply And.intro; (focus (repeat (first | assumption | exact AH.set_same _ _ _ | ((first | refine AH.get_ne ?_ ?_ | refine AH.getd_ne ?_ ?_); (first | assumption | omega | exact Ne.symm (by assumption) | exact AH.ne_none (by assumption) (by assumption) | exact AH.none_ne (by assumption) (by assumption) | exact (AH.none_set (by assumption)).1 | exact Ne.symm (AH.none_set (by assumption)).1)))); done)) | (apply Exists.intro; apply And.intro; first | (with_reducible assumption) | ((try simp only [List.getElem?_drop, Nat.mul_one, Nat.add_zero, Nat.zero_add]); first | (with_reducible assumption) | (refine u8s_get ?_; omega) | (refine iS_get ?_; omega) | assumption | rfl)) | (apply And.intro; (first | rfl | (with_reducible assumption) | exact Nat.le_of_ble_eq_true rfl | omega | (exact Int.ofNat_lt.2 (Nat.lt_of_lt_of_eq (by with_reducible assumption) (by decide +kernel))) | assumption | (simp <;> fail) | (simp <;> omega) | (focus (repeat' (first | exact one_u8s _ | exact one_iS _ _ | rfl | apply one_take | apply one_drop | apply one_append)); done))))) <;> (try (conv => whnf))
            exact ⟨AVle.refl _, HLe.del _ hcd.le hcd.hr⟩
      · have he : encS n many sy cx = ([], 4) := by
          unfold encS; rw [if_pos ⟨hz, hlen⟩, if_neg hlim]
        rw [he]
        (repeat' ((conv => whnf); first | refine Then.mk ?_ | left | refine OpsA.cons ?_ | refine OpsA.nil ?_ | refine AWq.seq ?_ | refine AWq.region ?_ | refine AWq.cond ?_ | refine AWq.block ?_ | refine AWq.skip ?_ | refine AWq.ret ?_ | refine AWq.exit ?_ | refine AWq.loop ?_ | (refine Both.mk ?_ ?_ <;> intro hc <;> (first | exact Bool.noConfusion hc | exact absurd (by with_reducible rfl) hc | exact (hc : False).elim | exact absurd (by assumption) hc | exact absurd hc (by assumption) | (exfalso; omega) | exact absurd hc (by decide) | skip)) | (intro c hc; (try (simp only [AH.none_iff] at hc; repeat (have hn := hc.1; replace hc := hc.2))); (first | (have hc2 := Eq.trans hc (by with_reducible assumption); clear hc; subst hc2) | (refine i64_k hc ?_ ?_ ?_ ; omega; omega; (clear hc; intro hc; subst hc)) | (refine u64_k hc ?_ ?_ ?_ ; omega; omega; (clear hc; intro hc; subst hc)) | (refine u8_k hc ?_ ?_ ?_ ; omega; omega; (clear hc; intro hc; subst hc)) | subst hc | skip)) | (apply Exists.intro; apply And.intro; (focus (repeat (first | assumption | exact AH.set_same _ _ _ | ((first | refine AH.get_ne ?_ ?_ | refine AH.getd_ne ?_ ?_); (first | assumption | omega | exact Ne.symm (by assumption) | exact AH.ne_none (by assumption) (by assumption) | exact AH.none_ne (by assumption) (by assumption) | exact (AH.none_set (by assumption)).1 | exact Ne.symm (AH.none_set (by assumption)).1)))); done)) | (apply Exists.intro; apply And.intro; first | (with_reducible assumption) | ((try simp only [List.getElem?_drop, Nat.mul_one, Nat.add_zero, Nat.zero_add]); first | (with_reducible assumption) | (refine u8s_get ?_; omega) | (refine iS_get ?_; omega) | assumption | rfl)) | (apply And.intro; (first | rfl | (with_reducible assumption) | exact Nat.le_of_ble_eq_true rfl | omega | (exact Int.ofNat_lt.2 (Nat.lt_of_lt_of_eq (by with_reducible assumption) (by decide +kernel))) | assumption | (simp <;> fail) | (simp <;> omega) | (focus (repeat' (first | exact one_u8s _ | exact one_iS _ _ | rfl | apply one_take | apply one_drop | apply one_append)); done))))) <;> (try (conv => whnf))
        exact ⟨AVle.err, hle⟩
    · have he : encS n many sy cx = ([], 1) := by
        unfold encS; rw [if_neg (fun h => hlen h.2)]
      rw [he]
      (repeat' ((conv => whnf); first | refine Then.mk ?_ | left | refine OpsA.cons ?_ | refine OpsA.nil ?_ | refine AWq.seq ?_ | refine AWq.region ?_ | refine AWq.cond ?_ | refine AWq.block ?_ | refine AWq.skip ?_ | refine AWq.ret ?_ | refine AWq.exit ?_ | refine AWq.loop ?_ | (refine Both.mk ?_ ?_ <;> intro hc <;> (first | exact Bool.noConfusion hc | exact absurd (by with_reducible rfl) hc | exact (hc : False).elim | exact absurd (by assumption) hc | exact absurd hc (by assumption) | (exfalso; omega) | exact absurd hc (by decide) | skip)) | (intro c hc; (try (simp only [AH.none_iff] at hc; repeat (have hn := hc.1; replace hc := hc.2))); (first | (have hc2 := Eq.trans hc (by with_reducible assumption); clear hc; subst hc2) | (refine i64_k hc ?_ ?_ ?_ ; omega; omega; (clear hc; intro hc; subst hc)) | (refine u64_k hc ?_ ?_ ?_ ; omega; omega; (clear hc; intro hc; subst hc)) | (refine u8_k hc ?_ ?_ ?_ ; omega; omega; (clear hc; intro hc; subst hc)) | subst hc | skip)) | (apply Exists.intro; apply And.intro; (focus (repeat (first | assumption | exact AH.set_same _ _ _ | ((first | refine AH.get_ne ?_ ?_ | refine AH.getd_ne ?_ ?_); (first | assumption | omega | exact Ne.symm (by assumption) | exact AH.ne_none (by assumption) (by assumption) | exact AH.none_ne (by assumption) (by assumption) | exact (AH.none_set (by assumption)).1 | exact Ne.symm (AH.none_set (by assumption)).1)))); done)) | (apply Exists.intro; apply And.intro; first | (with_reducible assumption) | ((try simp only [List.getElem?_drop, Nat.mul_one, Nat.add_zero, Nat.zero_add]); first | (with_reducible assumption) | (refine u8s_get ?_; omega) | (refine iS_get ?_; omega) | assumption | rfl)) | (apply And.intro; (first | rfl | (with_reducible assumption) | exact Nat.le_of_ble_eq_true rfl | omega | (exact Int.ofNat_lt.2 (Nat.lt_of_lt_of_eq (by with_reducible assumption) (by decide +kernel))) | assumption | (simp <;> fail) | (simp <;> omega) | (focus (repeat' (first | exact one_u8s _ | exact one_iS _ _ | rfl | apply one_take | apply one_drop | apply one_append)); done))))) <;> (try (conv => whnf))
      exact ⟨AVle.err, hle⟩
  · have he : encS n many sy cx = ([], 1) := by
      unfold encS; rw [if_neg (fun h => hz h.1)]
    rw [he]
    have hb := alphabet_bad n many hn hm hz
    refine ACall_of tt_ok (dok _) Try.func15 rfl (by decide) rfl ?_
    (repeat' ((conv => whnf); first | refine Then.mk ?_ | left | refine OpsA.cons ?_ | refine OpsA.nil ?_ | refine AWq.seq ?_ | refine AWq.region ?_ | refine AWq.cond ?_ | refine AWq.block ?_ | refine AWq.skip ?_ | refine AWq.ret ?_ | refine AWq.exit ?_ | refine AWq.loop ?_ | (refine ACall.to (hb _) ?_) | (refine Both.mk ?_ ?_ <;> intro hc <;> (first | exact Bool.noConfusion hc | exact absurd (by with_reducible rfl) hc | exact (hc : False).elim | exact absurd (by assumption) hc | exact absurd hc (by assumption) | (exfalso; omega) | exact absurd hc (by decide) | skip)) | (intro c hc; (try (simp only [AH.none_iff] at hc; repeat (have hn := hc.1; replace hc := hc.2))); (first | (have hc2 := Eq.trans hc (by with_reducible assumption); clear hc; subst hc2) | (refine i64_k hc ?_ ?_ ?_ ; omega; omega; (clear hc; intro hc; subst hc)) | (refine u64_k hc ?_ ?_ ?_ ; omega; omega; (clear hc; intro hc; subst hc)) | (refine u8_k hc ?_ ?_ ?_ ; omega; omega; (clear hc; intro hc; subst hc)) | subst hc | skip)) | (apply Exists.intro; apply And.intro; (focus (repeat (first | assumption | exact AH.set_same _ _ _ | ((first | refine AH.get_ne ?_ ?_ | refine AH.getd_ne ?_ ?_); (first | assumption | omega | exact Ne.symm (by assumption) | exact AH.ne_none (by assumption) (by assumption) | exact AH.none_ne (by assumption) (by assumption) | exact (AH.none_set (by assumption)).1 | exact Ne.symm (AH.none_set (by assumption)).1)))); done)) | (apply Exists.intro; apply And.intro; first | (with_reducible assumption) | ((try simp only [List.getElem?_drop, Nat.mul_one, Nat.add_zero, Nat.zero_add]); first | (with_reducible assumption) | (refine u8s_get ?_; omega) | (refine iS_get ?_; omega) | assumption | rfl)) | (apply And.intro; (first | rfl | (with_reducible assumption) | exact Nat.le_of_ble_eq_true rfl | omega | (exact Int.ofNat_lt.2 (Nat.lt_of_lt_of_eq (by with_reducible assumption) (by decide +kernel))) | assumption | (simp <;> fail) | (simp <;> omega) | (focus (repeat' (first | exact one_u8s _ | exact one_iS _ _ | rfl | apply one_take | apply one_drop | apply one_append)); done))))) <;> (try (conv => whnf))
    exact ⟨AVle.err, HLe.refl _⟩
end Go.Proofs.Ytgmooalikccbiaa
/- The walks of the coder: integers folded, their lengths. -/
namespace Go.Proofs.Ytgmooalikccbiaa
open Go.Fw Go
set_option linter.unusedVariables false
set_option linter.unusedSimpArgs false

theorem fold_zz (x : Int) : fold x = zz x := by
  unfold fold zz
  split <;> split <;> omega
set_option maxRecDepth 8000 in
theorem fold_c (x : Int) (h : -9223372036854775808 ≤ x ∧ x ≤ 9223372036854775807) (H : AH) :
    ACall Try.prog 47 [.int .i64 x] H (fun y H' => y = .int .u64 (fold x : Nat) ∧ H' = H) := by
  have e := zz_wire h.1 h.2
  rw [← fold_zz] at e
  refine ACall_of tt_ok (dok _) Try.func47 rfl (by decide) rfl ?_
  (repeat' ((conv => whnf); first | refine Then.mk ?_ | left | refine OpsA.cons ?_ | refine OpsA.nil ?_ | refine AWq.seq ?_ | refine AWq.region ?_ | refine AWq.cond ?_ | refine AWq.skip ?_ | refine AWq.ret ?_ | (refine Both.mk ?_ ?_ <;> intro hc <;> (first | exact Bool.noConfusion hc | exact absurd (by with_reducible rfl) hc | exact (hc : False).elim | exact absurd (by assumption) hc | exact absurd hc (by assumption) | (exfalso; omega) | exact absurd hc (by decide) | skip)) | (intro c hc; (try (simp only [AH.none_iff] at hc; repeat (have hn := hc.1; replace hc := hc.2))); (first | (have hc2 := Eq.trans hc (by with_reducible assumption); clear hc; subst hc2) | (refine i64_k hc ?_ ?_ ?_ ; omega; omega; (clear hc; intro hc; subst hc)) | (refine u64_k hc ?_ ?_ ?_ ; omega; omega; (clear hc; intro hc; subst hc)) | (refine u8_k hc ?_ ?_ ?_ ; omega; omega; (clear hc; intro hc; subst hc)) | subst hc | skip)) | (apply Exists.intro; apply And.intro; (focus (repeat (first | assumption | exact AH.set_same _ _ _ | ((first | refine AH.get_ne ?_ ?_ | refine AH.getd_ne ?_ ?_); (first | assumption | omega | exact Ne.symm (by assumption) | exact AH.ne_none (by assumption) (by assumption) | exact AH.none_ne (by assumption) (by assumption) | exact (AH.none_set (by assumption)).1 | exact Ne.symm (AH.none_set (by assumption)).1)))); done)) | (apply Exists.intro; apply And.intro; first | (with_reducible assumption) | ((try simp only [List.getElem?_drop, Nat.mul_one, Nat.add_zero, Nat.zero_add]); first | (with_reducible assumption) | (refine u8s_get ?_; omega) | (refine iS_get ?_; omega) | assumption | rfl)) | (apply And.intro; (first | rfl | (with_reducible assumption) | exact Nat.le_of_ble_eq_true rfl | omega | (exact Int.ofNat_lt.2 (Nat.lt_of_lt_of_eq (by with_reducible assumption) (by decide +kernel))) | assumption | (simp <;> fail) | (simp <;> omega) | (focus (repeat' (first | exact one_u8s _ | exact one_iS _ _ | rfl | apply one_take | apply one_drop | apply one_append)); done))))) <;> (try (conv => whnf))
  exact ⟨congrArg (AV.int .u64) e, rfl⟩

theorem lenB_up {u k : Nat} (h1 : 2 ^ k ≤ u) : lenB u = k + lenB (u / 2 ^ k) := by
  have hp : 0 < 2 ^ k := Nat.pow_pos (by decide)
  have h0 : u ≠ 0 := by omega
  have hd : u / 2 ^ k ≠ 0 := by
    have := Nat.div_pos h1 hp; omega
  unfold lenB
  rw [if_neg h0, if_neg hd]
  have a := (Nat.le_log2 hd (k := (u / 2 ^ k).log2)).1 (Nat.le_refl _)
  have b := (Nat.log2_lt hd (k := (u / 2 ^ k).log2 + 1)).1 (Nat.lt_succ_self _)
  generalize (u / 2 ^ k).log2 = t at a b ⊢
  have c1 : k + t ≤ u.log2 := (Nat.le_log2 h0).2 (by
    rw [Nat.pow_add, Nat.mul_comm]
    exact (Nat.le_div_iff_mul_le hp).1 a)
  have c2 : u.log2 < k + (t + 1) := (Nat.log2_lt h0).2 (by
    rw [Nat.pow_add, Nat.mul_comm]
    exact (Nat.div_lt_iff_lt_mul hp).1 b)
  omega

/-- The lengths of bytes. -/
def lenT (u : Nat) : Nat := if u < 1 then 0 else if u < 2 then 1 else if u < 4 then 2 else if u < 8 then 3 else if u < 16 then 4 else if u < 32 then 5 else if u < 64 then 6 else if u < 128 then 7 else 8
theorem lenT_ok : ∀ u, u < 256 → lenT u = lenB u := by decide +kernel

theorem lenB_two {u k : Nat} : ∃ x d : Nat, (2 ^ k ≤ u ∧ x = u / 2 ^ k ∧ d = k ∨ u < 2 ^ k ∧ x = u ∧ d = 0) ∧ lenB u = d + lenB x := by
  by_cases h : 2 ^ k ≤ u
  · exact ⟨_, _, .inl ⟨h, rfl, rfl⟩, lenB_up h⟩
  · exact ⟨_, _, .inr ⟨by omega, rfl, rfl⟩, by omega⟩
theorem sh32 (u : Nat) : (u : Int).fdiv (2 ^ min (Int.toNat 32) IntKind.u64.bits) = (u / 4294967296 : Nat) := by
  rw [show (2 : Int) ^ min (Int.toNat 32) IntKind.u64.bits = 4294967296 by decide, Int.fdiv_eq_ediv_of_nonneg _ (by omega)]; omega
theorem sh16 (u : Nat) : (u : Int).fdiv (2 ^ min (Int.toNat 16) IntKind.u64.bits) = (u / 65536 : Nat) := by
  rw [show (2 : Int) ^ min (Int.toNat 16) IntKind.u64.bits = 65536 by decide, Int.fdiv_eq_ediv_of_nonneg _ (by omega)]; omega
theorem sh8 (u : Nat) : (u : Int).fdiv (2 ^ min (Int.toNat 8) IntKind.u64.bits) = (u / 256 : Nat) := by
  rw [show (2 : Int) ^ min (Int.toNat 8) IntKind.u64.bits = 256 by decide, Int.fdiv_eq_ediv_of_nonneg _ (by omega)]; omega
def tab8 : List UInt8 := (List.range 256).map fun x => UInt8.ofNat (lenT x)
theorem tab8_at {l : List UInt8} (h : l = tab8) {x : Nat} (hx : x < 256) : (l.getD (x : Int).toNat 0).toNat = lenT x := by
  rw [h, Int.toNat_natCast]
  revert x
  decide +kernel
set_option maxRecDepth 8000 in
theorem len64_c (u : Nat) (h : u < 18446744073709551616) (H : AH) :
    ACall Try.prog 48 [.int .u64 u] H (fun y H' => y = .int .i64 (lenB u : Nat) ∧ H' = H) := by
  obtain ⟨x1, d1, h1, l1⟩ := lenB_two (u := u) (k := 32)
  obtain ⟨x2, d2, h2, l2⟩ := lenB_two (u := x1) (k := 16)
  obtain ⟨x3, d3, h3, l3⟩ := lenB_two (u := x2) (k := 8)
  have e1 := sh32 u
  have e2 := sh16 x1
  have e3 := sh8 x2
  simp only [show (2 : Nat) ^ 32 = 4294967296 by decide, show (2 : Nat) ^ 16 = 65536 by decide, show (2 : Nat) ^ 8 = 256 by decide] at h1 h2 h3
  have hx3 : x3 < 256 := by omega
  have hl := lenT_ok x3 hx3
  have hf : lenB u = d1 + d2 + d3 + lenB x3 := by omega
  have hb : lenB x3 ≤ 8 := by
    rw [← hl]; unfold lenT
    repeat' split
    all_goals omega
  rw [hf]
  obtain ⟨L, hL⟩ : ∃ L, L = lenB x3 := ⟨_, rfl⟩
  rw [← hL] at hb hl ⊢
  clear hf hL l1 l2 l3
  have hfin : ∀ l : List UInt8, l = tab8 → ∀ d : Nat, d ≤ 56 → ∀ e : Int, e = d → AV.int .i64 (IntKind.i64.wrap (e + IntKind.i64.wrap (l.getD (x3 : Int).toNat 0).toNat)) = AV.int .i64 (d + L : Nat) ∧ H = H := fun l hl2 d hd e he => by
    refine ⟨congrArg (AV.int .i64) ?_, rfl⟩
    rw [tab8_at hl2 hx3, hl, IntKind.wrap_i64, IntKind.wrap_i64, he]
    clear h e1 e2 e3 h1 h2 h3
    omega
  rcases h1 with ⟨a1, a2, a3⟩ | ⟨a1, a2, a3⟩ <;> subst a2 a3 <;> rcases h2 with ⟨b1, b2, b3⟩ | ⟨b1, b2, b3⟩ <;> subst b2 b3 <;> rcases h3 with ⟨c1, c2, c3⟩ | ⟨c1, c2, c3⟩ <;> subst c2 c3
  all_goals
    refine ACall_of tt_ok (dok _) Try.func48 rfl (by decide) rfl ?_
    (repeat' ((conv => whnf); first | refine Then.mk ?_ | left | refine OpsA.cons ?_ | refine OpsA.nil ?_ | refine AWq.seq ?_ | refine AWq.region ?_ | refine AWq.cond ?_ | refine AWq.skip ?_ | refine AWq.ret ?_ | (refine Both.mk ?_ ?_ <;> intro hc <;> (first | exact Bool.noConfusion hc | exact absurd (by with_reducible rfl) hc | exact (hc : False).elim | exact absurd (by assumption) hc | exact absurd hc (by assumption) | (exfalso; omega) | exact absurd hc (by decide) | skip)) | (intro c hc; (try (simp only [AH.none_iff] at hc; repeat (have hn := hc.1; replace hc := hc.2))); (first | (have hc2 := Eq.trans hc (by with_reducible assumption); clear hc; subst hc2) | (refine i64_k hc ?_ ?_ ?_ ; omega; omega; (clear hc; intro hc; subst hc)) | (refine u64_k hc ?_ ?_ ?_ ; omega; omega; (clear hc; intro hc; subst hc)) | (refine u8_k hc ?_ ?_ ?_ ; omega; omega; (clear hc; intro hc; subst hc)) | subst hc | skip)) | (apply Exists.intro; apply And.intro; (focus (repeat (first | assumption | exact AH.set_same _ _ _ | ((first | refine AH.get_ne ?_ ?_ | refine AH.getd_ne ?_ ?_); (first | assumption | omega | exact Ne.symm (by assumption) | exact AH.ne_none (by assumption) (by assumption) | exact AH.none_ne (by assumption) (by assumption) | exact (AH.none_set (by assumption)).1 | exact Ne.symm (AH.none_set (by assumption)).1)))); done)) | (apply Exists.intro; apply And.intro; first | (with_reducible assumption) | ((try simp only [List.getElem?_drop, Nat.mul_one, Nat.add_zero, Nat.zero_add]); first | (with_reducible assumption) | (refine u8s_get ?_; omega) | (refine iS_get ?_; omega) | assumption | rfl)) | (apply And.intro; (first | rfl | (with_reducible assumption) | exact Nat.le_of_ble_eq_true rfl | omega | (exact Int.ofNat_lt.2 (Nat.lt_of_lt_of_eq (by with_reducible assumption) (by decide +kernel))) | assumption | (simp <;> fail) | (simp <;> omega) | (focus (repeat' (first | exact one_u8s _ | exact one_iS _ _ | rfl | apply one_take | apply one_drop | apply one_append)); done))))) <;> (try (conv => whnf))
    exact hfin _ (by decide +kernel) _ (by decide) _ (by decide)
end Go.Proofs.Ytgmooalikccbiaa
/- The walks of the coder: Ints. -/
namespace Go.Proofs.Ytgmooalikccbiaa
open Go.Fw Go
set_option linter.unusedVariables false
set_option linter.unusedSimpArgs false

theorem shr_at (u k : Nat) (h : k ≤ 63) : (u : Int).fdiv (2 ^ min (Int.toNat (k : Int)) IntKind.u64.bits) = (u / 2 ^ k : Nat) := by
  rw [show min (Int.toNat (k : Int)) IntKind.u64.bits = k by show min k 64 = k; omega, Int.fdiv_eq_ediv_of_nonneg _ (Int.le_of_lt (Int.pow_pos (by decide)))]
  rw [Int.natCast_ediv, Int.natCast_pow]; rfl
theorem and_one (x : Nat) (h : x < 18446744073709551616) : bitsA .and .u64 (x : Nat) 1 = (x % 2 : Nat) := by
  show IntKind.u64.wrap ((BitVec.ofInt 64 (x : Int) &&& BitVec.ofInt 64 1).toNat : Int) = _
  have ha : (BitVec.ofInt 64 (x : Int)).toNat = x := by rw [BitVec.toNat_ofInt]; omega
  have hb : (BitVec.ofInt 64 1).toNat = 2 ^ 1 - 1 := by decide
  rw [BitVec.toNat_and, ha, hb, Nat.and_two_pow_sub_one_eq_mod, wrap_u64']
  omega
theorem bitsE_L {u : Nat} : ∀ (k : Nat) {σ : Cs}, CsOk σ → (bitsE u k σ).L ≤ σ.L + 2 * k
  | 0, _, _ => Nat.le_refl _
  | k + 1, σ, h => by
    have h1 := bitsE_L (u := u) k (bitE_ok h u k)
    have h2 : (bitE σ u k).L ≤ σ.L + 2 := stp_L h (bit_st u k)
    show (bitsE u k (bitE σ u k)).L ≤ _
    omega
theorem intI_L {I : Is} (h : IsOk I) {u : Nat} (hu : u < 2 ^ 64) : (intI I u).E.σ.L ≤ I.E.σ.L + 130 := by
  have hl := lenB_le hu
  have h1 := stp_L h.es.cs (h.es.st I.b (s := lenB u) (by omega))
  have h2 := bitsE_L (u := u) (lenB u - 1) (h.es.sym I.b (s := lenB u) (by omega)).cs
  have h3 : (symE 65 I.E I.b (lenB u)).σ.L ≤ I.E.σ.L + 2 := h1
  show (bitsE u (lenB u - 1) (symE 65 I.E I.b (lenB u)).σ).L ≤ _
  omega
theorem intsI_L : ∀ (us : List Nat) {I : Is}, (∀ u ∈ us, u < 2 ^ 64) → IsOk I → (intsI us I).E.σ.L ≤ I.E.σ.L + 130 * us.length
  | [], _, _, _ => Nat.le_refl _
  | u :: us, I, hu, h => by
    have h1 := intI_L h (hu u (by simp))
    have h2 := intsI_L us (I := intI I u) (fun v hv => hu v (by simp [hv])) (h.step (hu u (by simp)))
    show (intsI us (intI I u)).E.σ.L ≤ _
    rw [List.length_cons]
    omega
theorem fold_all {l : List Int} (h : I64L l) : ∀ u ∈ l.map fold, u < 2 ^ 64 := fun u hu => by
  obtain ⟨x, hx, rfl⟩ := List.mem_map.1 hu
  exact fold_lt (h x hx)
theorem I64L.take {l : List Int} (h : I64L l) (n : Nat) : I64L (l.take n) := fun x hx => h x (List.mem_of_mem_take hx)

set_option maxRecDepth 8000 in
theorem cInts_c (l : List Int) (hl : I64L l) (hlen : l.length ≤ 1000000) (H : AH) :
    ACall Try.prog 21 [.cs (iS .i64 l) l.length] H (fun y H' => y = k_resV (intsS l) ∧ H' = H) := by
  refine ACall.fin ?_
  have hsl : (iS .i64 l).length = l.length * 1 := by simp
  by_cases hlim : l.length ≤ 65536
  · have he : intsS l = (codeS (intsI (l.map fold) is0).E.σ, 0) := if_pos hlim
    rw [he]
    refine ACall_of tt_ok (dok _) Try.func21 rfl (by decide) rfl ?_
    (repeat' ((conv => whnf); first | refine Then.mk ?_ | left | refine OpsA.cons ?_ | refine OpsA.nil ?_ | refine AWq.seq ?_ | refine AWq.region ?_ | refine AWq.cond ?_ | refine AWq.block ?_ | refine AWq.skip ?_ | refine AWq.ret ?_ | refine AWq.exit ?_ | refine AWq.loop ?_ | (refine Both.mk ?_ ?_ <;> intro hc <;> (first | exact Bool.noConfusion hc | exact absurd (by with_reducible rfl) hc | exact (hc : False).elim | exact absurd (by assumption) hc | exact absurd hc (by assumption) | (exfalso; omega) | exact absurd hc (by decide) | skip)) | (intro c hc; (try (simp only [AH.none_iff] at hc; repeat (have hn := hc.1; replace hc := hc.2))); (first | (have hc2 := Eq.trans hc (by with_reducible assumption); clear hc; subst hc2) | (refine i64_k hc ?_ ?_ ?_ ; omega; omega; (clear hc; intro hc; subst hc)) | (refine u64_k hc ?_ ?_ ?_ ; omega; omega; (clear hc; intro hc; subst hc)) | (refine u8_k hc ?_ ?_ ?_ ; omega; omega; (clear hc; intro hc; subst hc)) | subst hc | skip)) | (apply Exists.intro; apply And.intro; (focus (repeat (first | assumption | exact AH.set_same _ _ _ | ((first | refine AH.get_ne ?_ ?_ | refine AH.getd_ne ?_ ?_); (first | assumption | omega | exact Ne.symm (by assumption) | exact AH.ne_none (by assumption) (by assumption) | exact AH.none_ne (by assumption) (by assumption) | exact (AH.none_set (by assumption)).1 | exact Ne.symm (AH.none_set (by assumption)).1)))); done)) | (apply Exists.intro; apply And.intro; first | (with_reducible assumption) | ((try simp only [List.getElem?_drop, Nat.mul_one, Nat.add_zero, Nat.zero_add]); first | (with_reducible assumption) | (refine u8s_get ?_; omega) | (refine iS_get ?_; omega) | assumption | rfl)) | (apply And.intro; (first | rfl | (with_reducible assumption) | exact Nat.le_of_ble_eq_true rfl | omega | (exact Int.ofNat_lt.2 (Nat.lt_of_lt_of_eq (by with_reducible assumption) (by decide +kernel))) | assumption | (simp <;> fail) | (simp <;> omega) | (focus (repeat' (first | exact one_u8s _ | exact one_iS _ _ | rfl | apply one_take | apply one_drop | apply one_append)); done))))) <;> (try (conv => whnf))
    refine (alphabet_c 65 65 (by omega) (by omega) (by omega) (by omega) _).mono ?_
    rintro y H' ⟨P, Q, rfl, hmods, hle, hnew⟩
    have hpl : (psL P 65).length = 65 := psL_len _ _
    (repeat' ((conv => whnf); first | refine Then.mk ?_ | left | refine OpsA.cons ?_ | refine OpsA.nil ?_ | refine AWq.seq ?_ | refine AWq.region ?_ | refine AWq.cond ?_ | refine AWq.block ?_ | refine AWq.skip ?_ | refine AWq.ret ?_ | refine AWq.exit ?_ | refine AWq.loop ?_ | (refine Both.mk ?_ ?_ <;> intro hc <;> (first | exact Bool.noConfusion hc | exact absurd (by with_reducible rfl) hc | exact (hc : False).elim | exact absurd (by assumption) hc | exact absurd hc (by assumption) | (exfalso; omega) | exact absurd hc (by decide) | skip)) | (intro c hc; (try (simp only [AH.none_iff] at hc; repeat (have hn := hc.1; replace hc := hc.2))); (first | (have hc2 := Eq.trans hc (by with_reducible assumption); clear hc; subst hc2) | (refine i64_k hc ?_ ?_ ?_ ; omega; omega; (clear hc; intro hc; subst hc)) | (refine u64_k hc ?_ ?_ ?_ ; omega; omega; (clear hc; intro hc; subst hc)) | (refine u8_k hc ?_ ?_ ?_ ; omega; omega; (clear hc; intro hc; subst hc)) | subst hc | skip)) | (apply Exists.intro; apply And.intro; (focus (repeat (first | assumption | exact AH.set_same _ _ _ | ((first | refine AH.get_ne ?_ ?_ | refine AH.getd_ne ?_ ?_); (first | assumption | omega | exact Ne.symm (by assumption) | exact AH.ne_none (by assumption) (by assumption) | exact AH.none_ne (by assumption) (by assumption) | exact (AH.none_set (by assumption)).1 | exact Ne.symm (AH.none_set (by assumption)).1)))); done)) | (apply Exists.intro; apply And.intro; first | (with_reducible assumption) | ((try simp only [List.getElem?_drop, Nat.mul_one, Nat.add_zero, Nat.zero_add]); first | (with_reducible assumption) | (refine u8s_get ?_; omega) | (refine iS_get ?_; omega) | assumption | rfl)) | (apply And.intro; (first | rfl | (with_reducible assumption) | exact Nat.le_of_ble_eq_true rfl | omega | (exact Int.ofNat_lt.2 (Nat.lt_of_lt_of_eq (by with_reducible assumption) (by decide +kernel))) | assumption | (simp <;> fail) | (simp <;> omega) | (focus (repeat' (first | exact one_u8s _ | exact one_iS _ _ | rfl | apply one_take | apply one_drop | apply one_append)); done))))) <;> (try (conv => whnf))
    refine (writer_c _).mono ?_
    rintro y G ⟨w, r, hw, hr, hwr, rfl, rfl⟩
    have hcd : CdAt H (wcH H' w r cs0) P Q w r 65 65 es0 := by
      have hd : ∀ k, k < 65 → P k ≠ w ∧ P k ≠ r ∧ Q k ≠ w ∧ Q k ≠ r := fun k hk => ⟨(hmods.fresh hw hk).1, (hmods.fresh hr hk).1, (hmods.fresh hw hk).2, (hmods.fresh hr hk).2⟩
      exact ⟨hmods.same fun k hk => ⟨wcH_ne (hd k hk).1 (hd k hk).2.1, wcH_ne (hd k hk).2.2.1 (hd k hk).2.2.2⟩, WrAt.set hwr, hd, le_wcH hle (HLe.none hle hw) (HLe.none hle hr), hnew, HLe.none hle hw, HLe.none hle hr⟩
    generalize wcH H' w r cs0 = G0 at hcd ⊢
    (repeat' ((conv => whnf); first | refine Then.mk ?_ | left | refine OpsA.cons ?_ | refine OpsA.nil ?_ | refine AWq.seq ?_ | refine AWq.region ?_ | refine AWq.cond ?_ | refine AWq.block ?_ | refine AWq.skip ?_ | refine AWq.ret ?_ | refine AWq.exit ?_ | refine AWq.loop ?_ | (refine Both.mk ?_ ?_ <;> intro hc <;> (first | exact Bool.noConfusion hc | exact absurd (by with_reducible rfl) hc | exact (hc : False).elim | exact absurd (by assumption) hc | exact absurd hc (by assumption) | (exfalso; omega) | exact absurd hc (by decide) | skip)) | (intro c hc; (try (simp only [AH.none_iff] at hc; repeat (have hn := hc.1; replace hc := hc.2))); (first | (have hc2 := Eq.trans hc (by with_reducible assumption); clear hc; subst hc2) | (refine i64_k hc ?_ ?_ ?_ ; omega; omega; (clear hc; intro hc; subst hc)) | (refine u64_k hc ?_ ?_ ?_ ; omega; omega; (clear hc; intro hc; subst hc)) | (refine u8_k hc ?_ ?_ ?_ ; omega; omega; (clear hc; intro hc; subst hc)) | subst hc | skip)) | (apply Exists.intro; apply And.intro; (focus (repeat (first | assumption | exact AH.set_same _ _ _ | ((first | refine AH.get_ne ?_ ?_ | refine AH.getd_ne ?_ ?_); (first | assumption | omega | exact Ne.symm (by assumption) | exact AH.ne_none (by assumption) (by assumption) | exact AH.none_ne (by assumption) (by assumption) | exact (AH.none_set (by assumption)).1 | exact Ne.symm (AH.none_set (by assumption)).1)))); done)) | (apply Exists.intro; apply And.intro; first | (with_reducible assumption) | ((try simp only [List.getElem?_drop, Nat.mul_one, Nat.add_zero, Nat.zero_add]); first | (with_reducible assumption) | (refine u8s_get ?_; omega) | (refine iS_get ?_; omega) | assumption | rfl)) | (apply And.intro; (first | rfl | (with_reducible assumption) | exact Nat.le_of_ble_eq_true rfl | omega | (exact Int.ofNat_lt.2 (Nat.lt_of_lt_of_eq (by with_reducible assumption) (by decide +kernel))) | assumption | (simp <;> fail) | (simp <;> omega) | (focus (repeat' (first | exact one_u8s _ | exact one_iS _ _ | rfl | apply one_take | apply one_drop | apply one_append)); done))))) <;> (try (conv => whnf))
    refine AWp_loop (σ := AH × Nat × Is) (7 :: 9 :: 10 :: 11 :: 12 :: 23 :: 24 :: 25 :: 26 :: 27 :: 28 :: 29 :: 30 :: 31 :: 32 :: 33 :: 34 :: 35 :: 36 :: 37 :: 38 :: 39 :: 40 :: 41 :: 42 :: 43 :: 44 :: 45 :: 46 :: 47 :: 48 :: 49 :: 50 :: 51 :: 52 :: []) (fun (G, i, I) => [(7, .int .i64 I.b), (23, .int .i64 i)]) (fun (G, i, I) => G) (fun (G, i, I) => i ≤ l.length ∧ intsI ((l.take i).map fold) is0 = I ∧ CdAt H G P Q w r 65 65 I.E) (fun (G, i, I) => l.length - i) (G0, 0, is0) rfl ?_ ?_ (HLe.refl _) ?_
    · exact ⟨Nat.zero_le _, rfl, hcd⟩
    · exact ⟨rfl, rfl, trivial⟩
    · rintro ⟨G, i, I⟩ ⟨hi, hI, hcd⟩
      dsimp only at hi hI hcd ⊢
      refine AWp.of tt_ok (dok _) rfl ?_
      have hok : IsOk I := by rw [← hI]; exact intsI_ok (fold_all (hl.take i)) is0_ok
      have hL : I.E.σ.L ≤ 130 * 65536 := by
        have := intsI_L ((l.take i).map fold) (I := is0) (fold_all (hl.take i)) is0_ok
        rw [hI] at this
        have h0 : is0.E.σ.L = 0 := rfl
        rw [h0, List.length_map, List.length_take] at this
        omega
      have hb := hok.b
      by_cases hil : i < l.length
      · have hga : (iS .i64 l)[(i : Int).toNat]? = some (.int .i64 (l.getD i 0)) := iS_get hil
        have ha := hl.at i
        have hn : intsI ((l.take (i + 1)).map fold) is0 = intI I (fold (l.getD i 0)) := by
          rw [List.take_add_one, List.getElem?_eq_getElem hil, List.map_append]
          have : l.getD i 0 = l[i] := by rw [List.getD_eq_getElem?_getD, List.getElem?_eq_getElem hil]; rfl
          rw [this]
          show intsI (_ ++ [fold l[i]]) is0 = _
          rw [intsI_snoc, hI]
        generalize l.getD i 0 = a at *
        have hfold := fun H => fold_c a ha H
        have hu := fold_lt ha
        generalize fold a = u at *
        have hlen64 := fun H => len64_c u (by simpa using hu) H
        have hlb := lenB_le hu
        have hsm := hcd.symbol hok.es.cs (by omega) (k := I.b) (s := lenB u) (by omega) (by omega)
        have hcd2 := hcd.sym (k := I.b) (s := lenB u) (by omega) (by omega)
        have hok2 := hok.es.sym I.b (s := lenB u) (by omega)
        have hL2 : (symE 65 I.E I.b (lenB u)).σ.L ≤ I.E.σ.L + 2 := stp_L hok.es.cs (hok.es.st I.b (s := lenB u) (by omega))
        have hgp : (psL P 65)[(I.b : Int).toNat]? = some (.ptr (P I.b) 0 0) := psL_get (by omega)
        have hfin : intI I u = ⟨⟨(symE 65 I.E I.b (lenB u)).M, bitsE u (lenB u - 1) (symE 65 I.E I.b (lenB u)).σ⟩, lenB u⟩ := rfl
        generalize symE 65 I.E I.b (lenB u) = E2 at *
        obtain ⟨C, hC⟩ : ∃ C, C = lenB u := ⟨_, rfl⟩
        rw [← hC] at hlb hfin hlen64 hsm hcd2
        (repeat' ((conv => whnf); first | refine Then.mk ?_ | left | refine OpsA.cons ?_ | refine OpsA.nil ?_ | refine AWq.seq ?_ | refine AWq.region ?_ | refine AWq.cond ?_ | refine AWq.block ?_ | refine AWq.skip ?_ | refine AWq.ret ?_ | refine AWq.exit ?_ | refine AWq.loop ?_ | (refine ACall.to (hfold _) ?_) | (refine ACall.to (hlen64 _) ?_) | (refine ACall.to (hsm) ?_) | (refine Both.mk ?_ ?_ <;> intro hc <;> (first | exact Bool.noConfusion hc | exact absurd (by with_reducible rfl) hc | exact (hc : False).elim | exact absurd (by assumption) hc | exact absurd hc (by assumption) | (exfalso; omega) | exact absurd hc (by decide) | skip)) | (intro c hc; (try (simp only [AH.none_iff] at hc; repeat (have hn := hc.1; replace hc := hc.2))); (first | (have hc2 := Eq.trans hc (by with_reducible assumption); clear hc; subst hc2) | (refine i64_k hc ?_ ?_ ?_ ; omega; omega; (clear hc; intro hc; subst hc)) | (refine u64_k hc ?_ ?_ ?_ ; omega; omega; (clear hc; intro hc; subst hc)) | (refine u8_k hc ?_ ?_ ?_ ; omega; omega; (clear hc; intro hc; subst hc)) | subst hc | skip)) | (apply Exists.intro; apply And.intro; (focus (repeat (first | assumption | exact AH.set_same _ _ _ | ((first | refine AH.get_ne ?_ ?_ | refine AH.getd_ne ?_ ?_); (first | assumption | omega | exact Ne.symm (by assumption) | exact AH.ne_none (by assumption) (by assumption) | exact AH.none_ne (by assumption) (by assumption) | exact (AH.none_set (by assumption)).1 | exact Ne.symm (AH.none_set (by assumption)).1)))); done)) | (apply Exists.intro; apply And.intro; first | (with_reducible assumption) | ((try simp only [List.getElem?_drop, Nat.mul_one, Nat.add_zero, Nat.zero_add]); first | (with_reducible assumption) | (refine u8s_get ?_; omega) | (refine iS_get ?_; omega) | assumption | rfl)) | (apply And.intro; (first | rfl | (with_reducible assumption) | exact Nat.le_of_ble_eq_true rfl | omega | (exact Int.ofNat_lt.2 (Nat.lt_of_lt_of_eq (by with_reducible assumption) (by decide +kernel))) | assumption | (simp <;> fail) | (simp <;> omega) | (focus (repeat' (first | exact one_u8s _ | exact one_iS _ _ | rfl | apply one_take | apply one_drop | apply one_append)); done))))) <;> (try (conv => whnf))
        generalize enG G P Q w r 65 I.E I.b C = G1 at hcd2 ⊢
        refine AWp_loop (σ := AH × Nat × Cs × Int) (12 :: 40 :: 41 :: 42 :: 43 :: 44 :: 45 :: 46 :: 47 :: 48 :: 49 :: 50 :: []) (fun (G, k, τ, j) => [(12, .int .i64 j)]) (fun (G, k, τ, j) => G) (fun (G, k, τ, j) => (j = (k : Int) - 1 ∨ k = 0 ∧ j = -2) ∧ bitsE u k τ = bitsE u (C - 1) E2.σ ∧ CsOk τ ∧ τ.L + 2 * k ≤ 20000000 ∧ k ≤ 63 ∧ CdAt H G P Q w r 65 65 ⟨E2.M, τ⟩) (fun (G, k, τ, j) => k) (G1, C - 1, E2.σ, (C : Int) - 2) rfl ?_ ?_ (HLe.refl _) ?_
        · exact ⟨by omega, rfl, hok2.cs, by omega, by omega, hcd2⟩
        · exact ⟨rfl, trivial⟩
        · rintro ⟨G2, k, τ, j⟩ ⟨k1, k2, k3, k4, k5, k6⟩
          dsimp only at k1 k2 k3 k4 k5 k6 ⊢
          refine AWp.of tt_ok (dok _) rfl ?_
          by_cases hk : k = 0
          · subst hk
            have hj : j < 0 := by omega
            have he2 : intI I u = ⟨⟨E2.M, τ⟩, C⟩ := by rw [hfin, ← k2]; rfl
            rw [he2] at hn
            (repeat' ((conv => whnf); first | refine Then.mk ?_ | left | refine OpsA.cons ?_ | refine OpsA.nil ?_ | refine AWq.seq ?_ | refine AWq.region ?_ | refine AWq.cond ?_ | refine AWq.block ?_ | refine AWq.skip ?_ | refine AWq.ret ?_ | refine AWq.exit ?_ | refine AWq.loop ?_ | (refine Both.mk ?_ ?_ <;> intro hc <;> (first | exact Bool.noConfusion hc | exact absurd (by with_reducible rfl) hc | exact (hc : False).elim | exact absurd (by assumption) hc | exact absurd hc (by assumption) | (exfalso; omega) | exact absurd hc (by decide) | skip)) | (intro c hc; (try (simp only [AH.none_iff] at hc; repeat (have hn := hc.1; replace hc := hc.2))); (first | (have hc2 := Eq.trans hc (by with_reducible assumption); clear hc; subst hc2) | (refine i64_k hc ?_ ?_ ?_ ; omega; omega; (clear hc; intro hc; subst hc)) | (refine u64_k hc ?_ ?_ ?_ ; omega; omega; (clear hc; intro hc; subst hc)) | (refine u8_k hc ?_ ?_ ?_ ; omega; omega; (clear hc; intro hc; subst hc)) | subst hc | skip)) | (apply Exists.intro; apply And.intro; (focus (repeat (first | assumption | exact AH.set_same _ _ _ | ((first | refine AH.get_ne ?_ ?_ | refine AH.getd_ne ?_ ?_); (first | assumption | omega | exact Ne.symm (by assumption) | exact AH.ne_none (by assumption) (by assumption) | exact AH.none_ne (by assumption) (by assumption) | exact (AH.none_set (by assumption)).1 | exact Ne.symm (AH.none_set (by assumption)).1)))); done)) | (apply Exists.intro; apply And.intro; first | (with_reducible assumption) | ((try simp only [List.getElem?_drop, Nat.mul_one, Nat.add_zero, Nat.zero_add]); first | (with_reducible assumption) | (refine u8s_get ?_; omega) | (refine iS_get ?_; omega) | assumption | rfl)) | (apply And.intro; (first | rfl | (with_reducible assumption) | exact Nat.le_of_ble_eq_true rfl | omega | (exact Int.ofNat_lt.2 (Nat.lt_of_lt_of_eq (by with_reducible assumption) (by decide +kernel))) | assumption | (simp <;> fail) | (simp <;> omega) | (focus (repeat' (first | exact one_u8s _ | exact one_iS _ _ | rfl | apply one_take | apply one_drop | apply one_append)); done))))) <;> (try (conv => whnf))
            exact ⟨(G2, i + 1, ⟨⟨E2.M, τ⟩, C⟩), ⟨hil, hn, k6⟩, by show l.length - (i + 1) < l.length - i; omega, ⟨rfl, congrArg (AV.int .i64) (by show (i : Int) + 1 = (i + 1 : Nat); omega), trivial⟩, HLe.refl _⟩
          · obtain ⟨k, rfl⟩ : ∃ d, k = d + 1 := ⟨k - 1, by omega⟩
            obtain rfl : j = (k : Int) := by omega
            have f1 := shr_at u k (by omega)
            have hx : u / 2 ^ k < 18446744073709551616 := Nat.lt_of_le_of_lt (Nat.div_le_self _ _) (by simpa using hu)
            have hst := k_step_c k6.wr k3 (bit_st u k) (show τ.L ≤ _ by omega)
            have k6' := k6.step (bitE τ u k)
            have hok3 := bitE_ok k3 u k
            have hL3 : (bitE τ u k).L ≤ τ.L + 2 := stp_L k3 (bit_st u k)
            have hb2 : bitsE u (k + 1) τ = bitsE u k (bitE τ u k) := rfl
            have hst : ACall Try.prog 49 [.ptr w 0 0, .int .i64 (u / 2 ^ k % 2 : Nat), .int .i64 1, .int .i64 2] G2 (fun y H' => y = .tup [] ∧ H' = wcH G2 w r (bitE τ u k)) := hst
            rw [hb2] at k2
            generalize bitE τ u k = τ2 at *
            generalize u / 2 ^ k = x at *
            have f2 := and_one x hx
            have hx2 : x % 2 < 2 := Nat.mod_lt _ (by decide)
            generalize x % 2 = y at *
            (repeat' ((conv => whnf); first | refine Then.mk ?_ | left | refine OpsA.cons ?_ | refine OpsA.nil ?_ | refine AWq.seq ?_ | refine AWq.region ?_ | refine AWq.cond ?_ | refine AWq.block ?_ | refine AWq.skip ?_ | refine AWq.ret ?_ | refine AWq.exit ?_ | refine AWq.loop ?_ | (refine ACall.to (hst) ?_) | (refine Both.mk ?_ ?_ <;> intro hc <;> (first | exact Bool.noConfusion hc | exact absurd (by with_reducible rfl) hc | exact (hc : False).elim | exact absurd (by assumption) hc | exact absurd hc (by assumption) | (exfalso; omega) | exact absurd hc (by decide) | skip)) | (intro c hc; (try (simp only [AH.none_iff] at hc; repeat (have hn := hc.1; replace hc := hc.2))); (first | (have hc2 := Eq.trans hc (by with_reducible assumption); clear hc; subst hc2) | (refine i64_k hc ?_ ?_ ?_ ; omega; omega; (clear hc; intro hc; subst hc)) | (refine u64_k hc ?_ ?_ ?_ ; omega; omega; (clear hc; intro hc; subst hc)) | (refine u8_k hc ?_ ?_ ?_ ; omega; omega; (clear hc; intro hc; subst hc)) | subst hc | skip)) | (apply Exists.intro; apply And.intro; (focus (repeat (first | assumption | exact AH.set_same _ _ _ | ((first | refine AH.get_ne ?_ ?_ | refine AH.getd_ne ?_ ?_); (first | assumption | omega | exact Ne.symm (by assumption) | exact AH.ne_none (by assumption) (by assumption) | exact AH.none_ne (by assumption) (by assumption) | exact (AH.none_set (by assumption)).1 | exact Ne.symm (AH.none_set (by assumption)).1)))); done)) | (apply Exists.intro; apply And.intro; first | (with_reducible assumption) | ((try simp only [List.getElem?_drop, Nat.mul_one, Nat.add_zero, Nat.zero_add]); first | (with_reducible assumption) | (refine u8s_get ?_; omega) | (refine iS_get ?_; omega) | assumption | rfl)) | (apply And.intro; (first | rfl | (with_reducible assumption) | exact Nat.le_of_ble_eq_true rfl | omega | (exact Int.ofNat_lt.2 (Nat.lt_of_lt_of_eq (by with_reducible assumption) (by decide +kernel))) | assumption | (simp <;> fail) | (simp <;> omega) | (focus (repeat' (first | exact one_u8s _ | exact one_iS _ _ | rfl | apply one_take | apply one_drop | apply one_append)); done))))) <;> (try (conv => whnf))
            exact ⟨(_, k, τ2, (k : Int) - 1), ⟨.inl rfl, k2, hok3, by dsimp only; omega, by dsimp only; omega, k6'⟩, Nat.lt_succ_self _, ⟨rfl, trivial⟩, HLe.refl _⟩
      · have hie : i = l.length := by omega
        have hcode := code_c (H := G) (σ := I.E.σ) hcd.wr.ne (by omega)
        rw [hcd.wr.eq] at hcode
        rw [hie, List.take_length] at hI
        rw [hI]
        (repeat' ((conv => whnf); first | refine Then.mk ?_ | left | refine OpsA.cons ?_ | refine OpsA.nil ?_ | refine AWq.seq ?_ | refine AWq.region ?_ | refine AWq.cond ?_ | refine AWq.block ?_ | refine AWq.skip ?_ | refine AWq.ret ?_ | refine AWq.exit ?_ | refine AWq.loop ?_ | (refine ACall.to (hcode) ?_) | (refine Both.mk ?_ ?_ <;> intro hc <;> (first | exact Bool.noConfusion hc | exact absurd (by with_reducible rfl) hc | exact (hc : False).elim | exact absurd (by assumption) hc | exact absurd hc (by assumption) | (exfalso; omega) | exact absurd hc (by decide) | skip)) | (intro c hc; (try (simp only [AH.none_iff] at hc; repeat (have hn := hc.1; replace hc := hc.2))); (first | (have hc2 := Eq.trans hc (by with_reducible assumption); clear hc; subst hc2) | (refine i64_k hc ?_ ?_ ?_ ; omega; omega; (clear hc; intro hc; subst hc)) | (refine u64_k hc ?_ ?_ ?_ ; omega; omega; (clear hc; intro hc; subst hc)) | (refine u8_k hc ?_ ?_ ?_ ; omega; omega; (clear hc; intro hc; subst hc)) | subst hc | skip)) | (apply Exists.intro; apply And.intro; (focus (repeat (first | assumption | exact AH.set_same _ _ _ | ((first | refine AH.get_ne ?_ ?_ | refine AH.getd_ne ?_ ?_); (first | assumption | omega | exact Ne.symm (by assumption) | exact AH.ne_none (by assumption) (by assumption) | exact AH.none_ne (by assumption) (by assumption) | exact (AH.none_set (by assumption)).1 | exact Ne.symm (AH.none_set (by assumption)).1)))); done)) | (apply Exists.intro; apply And.intro; first | (with_reducible assumption) | ((try simp only [List.getElem?_drop, Nat.mul_one, Nat.add_zero, Nat.zero_add]); first | (with_reducible assumption) | (refine u8s_get ?_; omega) | (refine iS_get ?_; omega) | assumption | rfl)) | (apply And.intro; (first | rfl | (with_reducible assumption) | exact Nat.le_of_ble_eq_true rfl | omega | (exact Int.ofNat_lt.2 (Nat.lt_of_lt_of_eq (by with_reducible assumption) (by decide +kernel))) | assumption | (simp <;> fail) | (simp <;> omega) | (focus (repeat' (first | exact one_u8s _ | exact one_iS _ _ | rfl | apply one_take | apply one_drop | apply one_append)); done))))) <;> (try (conv => whnf))
        exact ⟨AVle.refl _, HLe.del _ hcd.le hcd.hr⟩
  · have he : intsS l = ([], 4) := if_neg hlim
    rw [he]
    refine ACall_of tt_ok (dok _) Try.func21 rfl (by decide) rfl ?_
    (repeat' ((conv => whnf); first | refine Then.mk ?_ | left | refine OpsA.cons ?_ | refine OpsA.nil ?_ | refine AWq.seq ?_ | refine AWq.region ?_ | refine AWq.cond ?_ | refine AWq.block ?_ | refine AWq.skip ?_ | refine AWq.ret ?_ | refine AWq.exit ?_ | refine AWq.loop ?_ | (refine Both.mk ?_ ?_ <;> intro hc <;> (first | exact Bool.noConfusion hc | exact absurd (by with_reducible rfl) hc | exact (hc : False).elim | exact absurd (by assumption) hc | exact absurd hc (by assumption) | (exfalso; omega) | exact absurd hc (by decide) | skip)) | (intro c hc; (try (simp only [AH.none_iff] at hc; repeat (have hn := hc.1; replace hc := hc.2))); (first | (have hc2 := Eq.trans hc (by with_reducible assumption); clear hc; subst hc2) | (refine i64_k hc ?_ ?_ ?_ ; omega; omega; (clear hc; intro hc; subst hc)) | (refine u64_k hc ?_ ?_ ?_ ; omega; omega; (clear hc; intro hc; subst hc)) | (refine u8_k hc ?_ ?_ ?_ ; omega; omega; (clear hc; intro hc; subst hc)) | subst hc | skip)) | (apply Exists.intro; apply And.intro; (focus (repeat (first | assumption | exact AH.set_same _ _ _ | ((first | refine AH.get_ne ?_ ?_ | refine AH.getd_ne ?_ ?_); (first | assumption | omega | exact Ne.symm (by assumption) | exact AH.ne_none (by assumption) (by assumption) | exact AH.none_ne (by assumption) (by assumption) | exact (AH.none_set (by assumption)).1 | exact Ne.symm (AH.none_set (by assumption)).1)))); done)) | (apply Exists.intro; apply And.intro; first | (with_reducible assumption) | ((try simp only [List.getElem?_drop, Nat.mul_one, Nat.add_zero, Nat.zero_add]); first | (with_reducible assumption) | (refine u8s_get ?_; omega) | (refine iS_get ?_; omega) | assumption | rfl)) | (apply And.intro; (first | rfl | (with_reducible assumption) | exact Nat.le_of_ble_eq_true rfl | omega | (exact Int.ofNat_lt.2 (Nat.lt_of_lt_of_eq (by with_reducible assumption) (by decide +kernel))) | assumption | (simp <;> fail) | (simp <;> omega) | (focus (repeat' (first | exact one_u8s _ | exact one_iS _ _ | rfl | apply one_take | apply one_drop | apply one_append)); done))))) <;> (try (conv => whnf))
    exact ⟨AVle.err, HLe.refl _⟩
end Go.Proofs.Ytgmooalikccbiaa
/- The walks of the coder's reader: bytes, where the code lies, steps. -/
namespace Go.Proofs.Ytgmooalikccbiaa
open Go.Fw Go
set_option linter.unusedVariables false
set_option linter.unusedSimpArgs false

set_option maxRecDepth 8000 in
theorem k_next_c {G : AH} {ic bc i : Nat} {b : List UInt8} (hi : G ic = some (.row [.int .i64 i] 0)) (hb : G bc = some (.row [.cs (u8s b) b.length] 0)) (hne : ic ≠ bc) (hil : i ≤ 1000000000000) (hbl : b.length ≤ 1000000000000) :
    ACall Try.prog 67 [.ptr ic 0 0, .ptr bc 0 0] G (fun y H' => y = .int .u64 (b.getD i 0).toNat ∧ H' = G.set ic (.row [.int .i64 (i + 1 : Nat)] 0)) := by
  have hbi : bc ≠ ic := Ne.symm hne
  have e1 : IntKind.i64.wrap ((i : Int) + 1) = (i + 1 : Nat) := by rw [IntKind.wrap_i64]; omega
  by_cases h : i < b.length
  · have hg : (u8s b)[((i + 1 : Nat) - 1 : Int).toNat]? = some (.int .u8 (b.getD i 0).toNat) := by
      rw [show ((i + 1 : Nat) - 1 : Int).toNat = i by omega]; exact u8s_get h
    have hr := u8_range (b.getD i 0)
    obtain ⟨B, hB⟩ : ∃ B : Int, B = ((b.getD i 0).toNat : Int) := ⟨_, rfl⟩
    rw [← hB] at hg hr ⊢
    have e2 : IntKind.u64.wrap B = B := by rw [wrap_u64']; omega
    have hul : (u8s b).length = b.length := by simp
    refine ACall_of tt_ok (dok _) Try.func67 rfl (by decide) rfl ?_
    (repeat' ((conv => whnf); first | refine Then.mk ?_ | left | refine OpsA.cons ?_ | refine OpsA.nil ?_ | refine AWq.seq ?_ | refine AWq.region ?_ | refine AWq.cond ?_ | refine AWq.skip ?_ | refine AWq.ret ?_ | (refine Both.mk ?_ ?_ <;> intro hc <;> (first | exact Bool.noConfusion hc | exact absurd (by with_reducible rfl) hc | exact (hc : False).elim | exact absurd (by assumption) hc | exact absurd hc (by assumption) | (exfalso; omega) | exact absurd hc (by decide) | skip)) | (intro c hc; (try (simp only [AH.none_iff] at hc; repeat (have hn := hc.1; replace hc := hc.2))); (first | (have hc2 := Eq.trans hc (by with_reducible assumption); clear hc; subst hc2) | (refine i64_k hc ?_ ?_ ?_ ; omega; omega; (clear hc; intro hc; subst hc)) | (refine u64_k hc ?_ ?_ ?_ ; omega; omega; (clear hc; intro hc; subst hc)) | (refine u8_k hc ?_ ?_ ?_ ; omega; omega; (clear hc; intro hc; subst hc)) | subst hc | skip)) | (apply Exists.intro; apply And.intro; (focus (repeat (first | assumption | exact AH.set_same _ _ _ | ((first | refine AH.get_ne ?_ ?_ | refine AH.getd_ne ?_ ?_); (first | assumption | omega | exact Ne.symm (by assumption) | exact AH.ne_none (by assumption) (by assumption) | exact AH.none_ne (by assumption) (by assumption) | exact (AH.none_set (by assumption)).1 | exact Ne.symm (AH.none_set (by assumption)).1)))); done)) | (apply Exists.intro; apply And.intro; first | (with_reducible assumption) | ((try simp only [List.getElem?_drop, Nat.mul_one, Nat.add_zero, Nat.zero_add]); first | (with_reducible assumption) | (refine u8s_get ?_; omega) | (refine iS_get ?_; omega) | assumption | rfl)) | (apply And.intro; (first | rfl | (with_reducible assumption) | exact Nat.le_of_ble_eq_true rfl | omega | (exact Int.ofNat_lt.2 (Nat.lt_of_lt_of_eq (by with_reducible assumption) (by decide +kernel))) | assumption | (simp <;> fail) | (simp <;> omega) | (focus (repeat' (first | exact one_u8s _ | exact one_iS _ _ | rfl | apply one_take | apply one_drop | apply one_append)); done))))) <;> (try (conv => whnf))
    rfl
  · have h0 : (b.getD i 0) = 0 := by rw [List.getD_eq_getElem?_getD, List.getElem?_eq_none (by omega)]; rfl
    rw [h0]
    refine ACall_of tt_ok (dok _) Try.func67 rfl (by decide) rfl ?_
    (repeat' ((conv => whnf); first | refine Then.mk ?_ | left | refine OpsA.cons ?_ | refine OpsA.nil ?_ | refine AWq.seq ?_ | refine AWq.region ?_ | refine AWq.cond ?_ | refine AWq.skip ?_ | refine AWq.ret ?_ | (refine Both.mk ?_ ?_ <;> intro hc <;> (first | exact Bool.noConfusion hc | exact absurd (by with_reducible rfl) hc | exact (hc : False).elim | exact absurd (by assumption) hc | exact absurd hc (by assumption) | (exfalso; omega) | exact absurd hc (by decide) | skip)) | (intro c hc; (try (simp only [AH.none_iff] at hc; repeat (have hn := hc.1; replace hc := hc.2))); (first | (have hc2 := Eq.trans hc (by with_reducible assumption); clear hc; subst hc2) | (refine i64_k hc ?_ ?_ ?_ ; omega; omega; (clear hc; intro hc; subst hc)) | (refine u64_k hc ?_ ?_ ?_ ; omega; omega; (clear hc; intro hc; subst hc)) | (refine u8_k hc ?_ ?_ ?_ ; omega; omega; (clear hc; intro hc; subst hc)) | subst hc | skip)) | (apply Exists.intro; apply And.intro; (focus (repeat (first | assumption | exact AH.set_same _ _ _ | ((first | refine AH.get_ne ?_ ?_ | refine AH.getd_ne ?_ ?_); (first | assumption | omega | exact Ne.symm (by assumption) | exact AH.ne_none (by assumption) (by assumption) | exact AH.none_ne (by assumption) (by assumption) | exact (AH.none_set (by assumption)).1 | exact Ne.symm (AH.none_set (by assumption)).1)))); done)) | (apply Exists.intro; apply And.intro; first | (with_reducible assumption) | ((try simp only [List.getElem?_drop, Nat.mul_one, Nat.add_zero, Nat.zero_add]); first | (with_reducible assumption) | (refine u8s_get ?_; omega) | (refine iS_get ?_; omega) | assumption | rfl)) | (apply And.intro; (first | rfl | (with_reducible assumption) | exact Nat.le_of_ble_eq_true rfl | omega | (exact Int.ofNat_lt.2 (Nat.lt_of_lt_of_eq (by with_reducible assumption) (by decide +kernel))) | assumption | (simp <;> fail) | (simp <;> omega) | (focus (repeat' (first | exact one_u8s _ | exact one_iS _ _ | rfl | apply one_take | apply one_drop | apply one_append)); done))))) <;> (try (conv => whnf))
    rfl

def rdRow (low W ic bc : Nat) : AO := .row [.int .u64 low, .int .u64 W, .fn (.func 67) [] [.ptr ic 0 0, .ptr bc 0 0]] 0
/-- A reader stands here. -/
structure RdAt (G : AH) (d ic bc : Nat) (b : List UInt8) (σ : Cs) : Prop where
  hd : G d = some (rdRow (k_lowR b σ) σ.W ic bc)
  hi : G ic = some (.row [.int .i64 (σ.L + 4 : Nat)] 0)
  hb : G bc = some (.row [.cs (u8s b) b.length] 0)
  n1 : d ≠ ic
  n2 : d ≠ bc
  n3 : ic ≠ bc
def rdG (H : AH) (d ic bc : Nat) (b : List UInt8) (σ : Cs) : AH := (H.set ic (.row [.int .i64 (σ.L + 4 : Nat)] 0)).set d (rdRow (k_lowR b σ) σ.W ic bc)
theorem RdAt.set {G : AH} {d ic bc : Nat} {b : List UInt8} {σ : Cs} (h : RdAt G d ic bc b σ) (τ : Cs) : RdAt (rdG G d ic bc b τ) d ic bc b τ := by
  refine ⟨AH.set_same _ _ _, ?_, ?_, h.n1, h.n2, h.n3⟩
  · unfold rdG; rw [AH.set_ne _ _ (Ne.symm h.n1), AH.set_same]
  · unfold rdG; rw [AH.set_ne _ _ (Ne.symm h.n2), AH.set_ne _ _ (Ne.symm h.n3)]; exact h.hb
theorem rdG_ne {H : AH} {d ic bc a : Nat} {b : List UInt8} {σ : Cs} (h1 : a ≠ d) (h2 : a ≠ ic) : rdG H d ic bc b σ a = H a := by
  unfold rdG
  rw [AH.set_ne _ _ h1, AH.set_ne _ _ h2]
theorem rdG_set {H : AH} {d ic bc : Nat} {b : List UInt8} {σ τ : Cs} (h : d ≠ ic) : rdG (rdG H d ic bc b σ) d ic bc b τ = rdG H d ic bc b τ := by
  unfold rdG
  rw [AH.set_back _ (Ne.symm h), AH.set_set]

set_option maxRecDepth 8000 in
theorem at_c {G : AH} {d ic bc : Nat} {b : List UInt8} {σ : Cs} (h : RdAt G d ic bc b σ) (hr : RdOk b σ) (hc : CsOk σ) (t : Nat) (ht1 : 1 ≤ t) (ht2 : t ≤ 32768) :
    ACall Try.prog 52 [.ptr d 0 0, .int .i64 t] G (fun y H' => y = .tup [.int .i64 (min (atR b σ t) t : Nat), .bool (decide (atR b σ t < t))] ∧ H' = G) := by
  obtain ⟨r1, r2, r3⟩ := nrw_r hc ht1 ht2
  have hlow := hr.low
  have hhi := hc.hi
  have hd := h.hd
  have hat : atR b σ t = k_lowR b σ / (σ.W / t) := rfl
  have ha2 : atR b σ t ≤ 4294967296 := by rw [hat]; exact Nat.le_trans (Nat.div_le_self _ _) (by omega)
  generalize k_lowR b σ = low at *
  have e1 : (σ.W : Int).tdiv (t : Int) = (σ.W / t : Nat) := (Int.ofNat_tdiv _ _).symm
  generalize σ.W / t = r at *
  have e2 : (low : Int).tdiv (r : Int) = (atR b σ t : Nat) := by rw [hat]; exact (Int.ofNat_tdiv _ _).symm
  generalize atR b σ t = a at *
  have e3 : IntKind.u64.wrap (t : Int) = t := by rw [wrap_u64']; omega
  have e4 : IntKind.u64.wrap (r : Int) = r := by rw [wrap_u64']; omega
  have e5 : IntKind.u64.wrap ((σ.W : Int).tdiv (t : Int)) = r := by rw [e1, e4]
  have e6 : IntKind.u64.wrap ((low : Int).tdiv (r : Int)) = a := by rw [e2, wrap_u64']; omega
  have e7 : min (a : Int) (t : Int) = (min a t : Nat) := by omega
  have e8 : IntKind.i64.wrap (min a t : Nat) = (min a t : Nat) := by rw [IntKind.wrap_i64]; omega
  unfold rdRow at hd
  clear hat e1 e2 r2
  by_cases hlt : a < t
  · rw [decide_eq_true hlt]
    refine ACall_of tt_ok (dok _) Try.func52 rfl (by decide) rfl ?_
    (repeat' ((conv => whnf); first | refine Then.mk ?_ | left | refine OpsA.cons ?_ | refine OpsA.nil ?_ | refine AWq.seq ?_ | refine AWq.region ?_ | refine AWq.cond ?_ | refine AWq.skip ?_ | refine AWq.ret ?_ | refine DrawA.consD ?_ | refine DrawA.nil ?_ | refine AWq.draw (by decide +kernel) ?_ | (refine Both.mk ?_ ?_ <;> intro hc <;> (first | exact Bool.noConfusion hc | exact absurd (by with_reducible rfl) hc | exact (hc : False).elim | exact absurd (by assumption) hc | exact absurd hc (by assumption) | (exfalso; omega) | exact absurd hc (by decide) | skip)) | (intro c hc; (try (simp only [AH.none_iff] at hc; repeat (have hn := hc.1; replace hc := hc.2))); (first | (have hc2 := Eq.trans hc (by with_reducible assumption); clear hc; subst hc2) | (refine i64_k hc ?_ ?_ ?_ ; omega; omega; (clear hc; intro hc; subst hc)) | (refine u64_k hc ?_ ?_ ?_ ; omega; omega; (clear hc; intro hc; subst hc)) | (refine u8_k hc ?_ ?_ ?_ ; omega; omega; (clear hc; intro hc; subst hc)) | subst hc | skip)) | (apply Exists.intro; apply And.intro; (focus (repeat (first | assumption | exact AH.set_same _ _ _ | ((first | refine AH.get_ne ?_ ?_ | refine AH.getd_ne ?_ ?_); (first | assumption | omega | exact Ne.symm (by assumption) | exact AH.ne_none (by assumption) (by assumption) | exact AH.none_ne (by assumption) (by assumption) | exact (AH.none_set (by assumption)).1 | exact Ne.symm (AH.none_set (by assumption)).1)))); done)) | (apply Exists.intro; apply And.intro; first | (with_reducible assumption) | ((try simp only [List.getElem?_drop, Nat.mul_one, Nat.add_zero, Nat.zero_add]); first | (with_reducible assumption) | (refine u8s_get ?_; omega) | (refine iS_get ?_; omega) | assumption | rfl)) | (apply And.intro; (first | rfl | (with_reducible assumption) | exact Nat.le_of_ble_eq_true rfl | omega | (exact Int.ofNat_lt.2 (Nat.lt_of_lt_of_eq (by with_reducible assumption) (by decide +kernel))) | assumption | (simp <;> fail) | (simp <;> omega) | (focus (repeat' (first | exact one_u8s _ | exact one_iS _ _ | rfl | apply one_take | apply one_drop | apply one_append)); done))))) <;> (try (conv => whnf))
  · rw [decide_eq_false hlt]
    refine ACall_of tt_ok (dok _) Try.func52 rfl (by decide) rfl ?_
    (repeat' ((conv => whnf); first | refine Then.mk ?_ | left | refine OpsA.cons ?_ | refine OpsA.nil ?_ | refine AWq.seq ?_ | refine AWq.region ?_ | refine AWq.cond ?_ | refine AWq.skip ?_ | refine AWq.ret ?_ | refine DrawA.consD ?_ | refine DrawA.nil ?_ | refine AWq.draw (by decide +kernel) ?_ | (refine Both.mk ?_ ?_ <;> intro hc <;> (first | exact Bool.noConfusion hc | exact absurd (by with_reducible rfl) hc | exact (hc : False).elim | exact absurd (by assumption) hc | exact absurd hc (by assumption) | (exfalso; omega) | exact absurd hc (by decide) | skip)) | (intro c hc; (try (simp only [AH.none_iff] at hc; repeat (have hn := hc.1; replace hc := hc.2))); (first | (have hc2 := Eq.trans hc (by with_reducible assumption); clear hc; subst hc2) | (refine i64_k hc ?_ ?_ ?_ ; omega; omega; (clear hc; intro hc; subst hc)) | (refine u64_k hc ?_ ?_ ?_ ; omega; omega; (clear hc; intro hc; subst hc)) | (refine u8_k hc ?_ ?_ ?_ ; omega; omega; (clear hc; intro hc; subst hc)) | subst hc | skip)) | (apply Exists.intro; apply And.intro; (focus (repeat (first | assumption | exact AH.set_same _ _ _ | ((first | refine AH.get_ne ?_ ?_ | refine AH.getd_ne ?_ ?_); (first | assumption | omega | exact Ne.symm (by assumption) | exact AH.ne_none (by assumption) (by assumption) | exact AH.none_ne (by assumption) (by assumption) | exact (AH.none_set (by assumption)).1 | exact Ne.symm (AH.none_set (by assumption)).1)))); done)) | (apply Exists.intro; apply And.intro; first | (with_reducible assumption) | ((try simp only [List.getElem?_drop, Nat.mul_one, Nat.add_zero, Nat.zero_add]); first | (with_reducible assumption) | (refine u8s_get ?_; omega) | (refine iS_get ?_; omega) | assumption | rfl)) | (apply And.intro; (first | rfl | (with_reducible assumption) | exact Nat.le_of_ble_eq_true rfl | omega | (exact Int.ofNat_lt.2 (Nat.lt_of_lt_of_eq (by with_reducible assumption) (by decide +kernel))) | assumption | (simp <;> fail) | (simp <;> omega) | (focus (repeat' (first | exact one_u8s _ | exact one_iS _ _ | rfl | apply one_take | apply one_drop | apply one_append)); done))))) <;> (try (conv => whnf))

theorem lowR_nrw {b : List UInt8} {σ : Cs} {p c t : Nat} : k_lowR b (nrw σ p c t) = k_lowR b σ - σ.W / t * p := by
  show bv b (σ.L + 4) - (σ.V + σ.W / t * p) = bv b (σ.L + 4) - σ.V - σ.W / t * p
  omega
theorem lowR_shf {b : List UInt8} {σ : Cs} (h : σ.V ≤ bv b (σ.L + 4)) : k_lowR b ⟨σ.V * 256, σ.W * 256, σ.L + 1⟩ = k_lowR b σ * 256 + (b.getD (σ.L + 4) 0).toNat := by
  show bv b (σ.L + 4) * 256 + (b.getD (σ.L + 4) 0).toNat - σ.V * 256 = (bv b (σ.L + 4) - σ.V) * 256 + (b.getD (σ.L + 4) 0).toNat
  omega

set_option maxHeartbeats 4000000 in
set_option maxRecDepth 8000 in
theorem k_rstep_c {H : AH} {d ic bc : Nat} {b : List UInt8} {σ : Cs} {p c t : Nat} (h : RdAt H d ic bc b σ) (hr : RdOk b σ) (hc : CsOk σ) (hs : StOk p c t) (h1 : p ≤ atR b σ t) (h2 : atR b σ t < p + c) (hL : σ.L ≤ 1000000000) (hbl : b.length ≤ 1000000000000) :
    ACall Try.prog 53 [.ptr d 0 0, .int .i64 p, .int .i64 c, .int .i64 t] H (fun y H' => y = .tup [] ∧ H' = rdG H d ic bc b (stp σ p c t)) := by
  have hd := h.hd
  have hb := h.hb
  have hi := h.hi
  have n1 := h.n1
  have n2 := h.n2
  have n3 := h.n3
  have n1' := Ne.symm n1
  unfold rdRow at hd
  have hn := narrow_c hd hs hc.hi
  obtain ⟨s1, s2, s3⟩ := hr.step hc hs h1 h2
  have hlow := hr.low
  have hhi := hc.hi
  have q1 : k_lowR b (nrw σ p c t) = k_lowR b σ - σ.W / t * p := lowR_nrw
  obtain ⟨k1, k2, k3, k4⟩ := nrw_ok hc hs
  have hrn : RdOk b (nrw σ p c t) := by
    have := hr.le
    refine ⟨?_, ?_⟩
    · show σ.V + σ.W / t * p ≤ bv b (σ.L + 4)
      unfold k_lowR at s2; omega
    · show bv b (σ.L + 4) < σ.V + σ.W / t * p + σ.W / t * c
      unfold k_lowR at s3; omega
  have hst : stp σ p c t = shf 3 (nrw σ p c t) := rfl
  have hLn : (nrw σ p c t).L = σ.L := rfl
  have hWn : (nrw σ p c t).W = σ.W / t * c := rfl
  rw [hst]
  rw [← hWn] at hn
  generalize nrw σ p c t = τ at *
  generalize σ.W / t * p = X at *
  generalize k_lowR b σ = low at *
  have e1 : IntKind.u64.wrap ((low : Int) - X) = (low - X : Nat) := by rw [wrap_u64']; omega
  refine ACall_of tt_ok (dok _) Try.func53 rfl (by decide) rfl ?_
  refine AWq.seq ?_
  refine AWq.drawF mo ([19], [12]) (fun G => ∃ W', G d = some (.row [.int .u64 low, W', .fn (.func 67) [] [.ptr ic 0 0, .ptr bc 0 0]] 0)) ⟨_, hd⟩ (by decide +kernel) ?_
  (repeat' ((conv => whnf); first | refine Then.mk ?_ | left | refine OpsA.cons ?_ | refine OpsA.nil ?_ | refine AWq.seq ?_ | refine AWq.region ?_ | refine AWq.cond ?_ | refine AWq.block ?_ | refine AWq.skip ?_ | refine AWq.ret ?_ | refine AWq.exit ?_ | refine AWq.loop ?_ | refine DrawA.consD ?_ | refine DrawA.nil ?_ | refine DrawF.consD ?_ | refine DrawF.nil ?_ | refine AWq.draw (by decide +kernel) ?_ | (refine ACall.to (hn) ?_) | (apply Exists.intro; apply And.intro; exact hn) | (apply Exists.intro; apply Exists.intro; apply And.intro; exact hn) | (refine Both.mk ?_ ?_ <;> intro hc <;> (first | exact Bool.noConfusion hc | exact absurd (by with_reducible rfl) hc | exact (hc : False).elim | exact absurd (by assumption) hc | exact absurd hc (by assumption) | (exfalso; omega) | exact absurd hc (by decide) | skip)) | (intro c hc; (try (simp only [AH.none_iff] at hc; repeat (have hn := hc.1; replace hc := hc.2))); (first | (have hc2 := Eq.trans hc (by with_reducible assumption); clear hc; subst hc2) | (refine i64_k hc ?_ ?_ ?_ ; omega; omega; (clear hc; intro hc; subst hc)) | (refine u64_k hc ?_ ?_ ?_ ; omega; omega; (clear hc; intro hc; subst hc)) | (refine u8_k hc ?_ ?_ ?_ ; omega; omega; (clear hc; intro hc; subst hc)) | subst hc | skip)) | (apply Exists.intro; apply And.intro; (focus (repeat (first | assumption | exact AH.set_same _ _ _ | ((first | refine AH.get_ne ?_ ?_ | refine AH.getd_ne ?_ ?_); (first | assumption | omega | exact Ne.symm (by assumption) | exact AH.ne_none (by assumption) (by assumption) | exact AH.none_ne (by assumption) (by assumption) | exact (AH.none_set (by assumption)).1 | exact Ne.symm (AH.none_set (by assumption)).1)))); done)) | (apply Exists.intro; apply And.intro; first | (with_reducible assumption) | ((try simp only [List.getElem?_drop, Nat.mul_one, Nat.add_zero, Nat.zero_add]); first | (with_reducible assumption) | (refine u8s_get ?_; omega) | (refine iS_get ?_; omega) | assumption | rfl)) | (apply And.intro; (first | rfl | (with_reducible assumption) | exact Nat.le_of_ble_eq_true rfl | omega | (exact Int.ofNat_lt.2 (Nat.lt_of_lt_of_eq (by with_reducible assumption) (by decide +kernel))) | assumption | (simp <;> fail) | (simp <;> omega) | (focus (repeat' (first | exact one_u8s _ | exact one_iS _ _ | rfl | apply one_take | apply one_drop | apply one_append)); done))))) <;> (try (conv => whnf))
  refine ⟨.int .u64 low, ?_, ?_, ?_⟩
  · (repeat' ((conv => whnf); first | refine Then.mk ?_ | left | refine OpsA.cons ?_ | refine OpsA.nil ?_ | refine AWq.seq ?_ | refine AWq.region ?_ | refine AWq.cond ?_ | refine AWq.block ?_ | refine AWq.skip ?_ | refine AWq.ret ?_ | refine AWq.exit ?_ | refine AWq.loop ?_ | refine DrawA.consD ?_ | refine DrawA.nil ?_ | refine DrawF.consD ?_ | refine DrawF.nil ?_ | refine AWq.draw (by decide +kernel) ?_ | (refine Both.mk ?_ ?_ <;> intro hc <;> (first | exact Bool.noConfusion hc | exact absurd (by with_reducible rfl) hc | exact (hc : False).elim | exact absurd (by assumption) hc | exact absurd hc (by assumption) | (exfalso; omega) | exact absurd hc (by decide) | skip)) | (intro c hc; (try (simp only [AH.none_iff] at hc; repeat (have hn := hc.1; replace hc := hc.2))); (first | (have hc2 := Eq.trans hc (by with_reducible assumption); clear hc; subst hc2) | (refine i64_k hc ?_ ?_ ?_ ; omega; omega; (clear hc; intro hc; subst hc)) | (refine u64_k hc ?_ ?_ ?_ ; omega; omega; (clear hc; intro hc; subst hc)) | (refine u8_k hc ?_ ?_ ?_ ; omega; omega; (clear hc; intro hc; subst hc)) | subst hc | skip)) | (apply Exists.intro; apply And.intro; (focus (repeat (first | assumption | exact AH.set_same _ _ _ | ((first | refine AH.get_ne ?_ ?_ | refine AH.getd_ne ?_ ?_); (first | assumption | omega | exact Ne.symm (by assumption) | exact AH.ne_none (by assumption) (by assumption) | exact AH.none_ne (by assumption) (by assumption) | exact (AH.none_set (by assumption)).1 | exact Ne.symm (AH.none_set (by assumption)).1)))); done)) | (apply Exists.intro; apply And.intro; first | (with_reducible assumption) | ((try simp only [List.getElem?_drop, Nat.mul_one, Nat.add_zero, Nat.zero_add]); first | (with_reducible assumption) | (refine u8s_get ?_; omega) | (refine iS_get ?_; omega) | assumption | rfl)) | (apply And.intro; (first | rfl | (with_reducible assumption) | exact Nat.le_of_ble_eq_true rfl | omega | (exact Int.ofNat_lt.2 (Nat.lt_of_lt_of_eq (by with_reducible assumption) (by decide +kernel))) | assumption | (simp <;> fail) | (simp <;> omega) | (focus (repeat' (first | exact one_u8s _ | exact one_iS _ _ | rfl | apply one_take | apply one_drop | apply one_append)); done))))) <;> (try (conv => whnf))
  · intro G hG
    obtain ⟨W', hG⟩ : ∃ W', G d = some (.row [.int .u64 low, W', .fn (.func 67) [] [.ptr ic 0 0, .ptr bc 0 0]] 0) := hG
    (repeat' ((conv => whnf); first | refine Then.mk ?_ | left | refine OpsA.cons ?_ | refine OpsA.nil ?_ | refine AWq.seq ?_ | refine AWq.region ?_ | refine AWq.cond ?_ | refine AWq.block ?_ | refine AWq.skip ?_ | refine AWq.ret ?_ | refine AWq.exit ?_ | refine AWq.loop ?_ | refine DrawA.consD ?_ | refine DrawA.nil ?_ | refine DrawF.consD ?_ | refine DrawF.nil ?_ | refine AWq.draw (by decide +kernel) ?_ | (refine Both.mk ?_ ?_ <;> intro hc <;> (first | exact Bool.noConfusion hc | exact absurd (by with_reducible rfl) hc | exact (hc : False).elim | exact absurd (by assumption) hc | exact absurd hc (by assumption) | (exfalso; omega) | exact absurd hc (by decide) | skip)) | (intro c hc; (try (simp only [AH.none_iff] at hc; repeat (have hn := hc.1; replace hc := hc.2))); (first | (have hc2 := Eq.trans hc (by with_reducible assumption); clear hc; subst hc2) | (refine i64_k hc ?_ ?_ ?_ ; omega; omega; (clear hc; intro hc; subst hc)) | (refine u64_k hc ?_ ?_ ?_ ; omega; omega; (clear hc; intro hc; subst hc)) | (refine u8_k hc ?_ ?_ ?_ ; omega; omega; (clear hc; intro hc; subst hc)) | subst hc | skip)) | (apply Exists.intro; apply And.intro; (focus (repeat (first | assumption | exact AH.set_same _ _ _ | ((first | refine AH.get_ne ?_ ?_ | refine AH.getd_ne ?_ ?_); (first | assumption | omega | exact Ne.symm (by assumption) | exact AH.ne_none (by assumption) (by assumption) | exact AH.none_ne (by assumption) (by assumption) | exact (AH.none_set (by assumption)).1 | exact Ne.symm (AH.none_set (by assumption)).1)))); done)) | (apply Exists.intro; apply And.intro; first | (with_reducible assumption) | ((try simp only [List.getElem?_drop, Nat.mul_one, Nat.add_zero, Nat.zero_add]); first | (with_reducible assumption) | (refine u8s_get ?_; omega) | (refine iS_get ?_; omega) | assumption | rfl)) | (apply And.intro; (first | rfl | (with_reducible assumption) | exact Nat.le_of_ble_eq_true rfl | omega | (exact Int.ofNat_lt.2 (Nat.lt_of_lt_of_eq (by with_reducible assumption) (by decide +kernel))) | assumption | (simp <;> fail) | (simp <;> omega) | (focus (repeat' (first | exact one_u8s _ | exact one_iS _ _ | rfl | apply one_take | apply one_drop | apply one_append)); done))))) <;> (try (conv => whnf))
  (repeat' ((conv => whnf); first | refine Then.mk ?_ | left | refine OpsA.cons ?_ | refine OpsA.nil ?_ | refine AWq.seq ?_ | refine AWq.region ?_ | refine AWq.cond ?_ | refine AWq.block ?_ | refine AWq.skip ?_ | refine AWq.ret ?_ | refine AWq.exit ?_ | refine AWq.loop ?_ | refine DrawA.consD ?_ | refine DrawA.nil ?_ | refine DrawF.consD ?_ | refine DrawF.nil ?_ | refine AWq.draw (by decide +kernel) ?_ | (refine ACall.to (hn) ?_) | (apply Exists.intro; apply And.intro; exact hn) | (apply Exists.intro; apply Exists.intro; apply And.intro; exact hn) | (refine Both.mk ?_ ?_ <;> intro hc <;> (first | exact Bool.noConfusion hc | exact absurd (by with_reducible rfl) hc | exact (hc : False).elim | exact absurd (by assumption) hc | exact absurd hc (by assumption) | (exfalso; omega) | exact absurd hc (by decide) | skip)) | (intro c hc; (try (simp only [AH.none_iff] at hc; repeat (have hn := hc.1; replace hc := hc.2))); (first | (have hc2 := Eq.trans hc (by with_reducible assumption); clear hc; subst hc2) | (refine i64_k hc ?_ ?_ ?_ ; omega; omega; (clear hc; intro hc; subst hc)) | (refine u64_k hc ?_ ?_ ?_ ; omega; omega; (clear hc; intro hc; subst hc)) | (refine u8_k hc ?_ ?_ ?_ ; omega; omega; (clear hc; intro hc; subst hc)) | subst hc | skip)) | (apply Exists.intro; apply And.intro; (focus (repeat (first | assumption | exact AH.set_same _ _ _ | ((first | refine AH.get_ne ?_ ?_ | refine AH.getd_ne ?_ ?_); (first | assumption | omega | exact Ne.symm (by assumption) | exact AH.ne_none (by assumption) (by assumption) | exact AH.none_ne (by assumption) (by assumption) | exact (AH.none_set (by assumption)).1 | exact Ne.symm (AH.none_set (by assumption)).1)))); done)) | (apply Exists.intro; apply And.intro; first | (with_reducible assumption) | ((try simp only [List.getElem?_drop, Nat.mul_one, Nat.add_zero, Nat.zero_add]); first | (with_reducible assumption) | (refine u8s_get ?_; omega) | (refine iS_get ?_; omega) | assumption | rfl)) | (apply And.intro; (first | rfl | (with_reducible assumption) | exact Nat.le_of_ble_eq_true rfl | omega | (exact Int.ofNat_lt.2 (Nat.lt_of_lt_of_eq (by with_reducible assumption) (by decide +kernel))) | assumption | (simp <;> fail) | (simp <;> omega) | (focus (repeat' (first | exact one_u8s _ | exact one_iS _ _ | rfl | apply one_take | apply one_drop | apply one_append)); done))))) <;> (try (conv => whnf))
  refine And.intro (show ∃ W', _ = _ from ⟨_, AH.set_same _ _ _⟩) ?_
  (repeat' ((conv => whnf); first | refine Then.mk ?_ | left | refine OpsA.cons ?_ | refine OpsA.nil ?_ | refine AWq.seq ?_ | refine AWq.region ?_ | refine AWq.cond ?_ | refine AWq.block ?_ | refine AWq.skip ?_ | refine AWq.ret ?_ | refine AWq.exit ?_ | refine AWq.loop ?_ | refine DrawA.consD ?_ | refine DrawA.nil ?_ | refine DrawF.consD ?_ | refine DrawF.nil ?_ | refine AWq.draw (by decide +kernel) ?_ | (refine Both.mk ?_ ?_ <;> intro hc <;> (first | exact Bool.noConfusion hc | exact absurd (by with_reducible rfl) hc | exact (hc : False).elim | exact absurd (by assumption) hc | exact absurd hc (by assumption) | (exfalso; omega) | exact absurd hc (by decide) | skip)) | (intro c hc; (try (simp only [AH.none_iff] at hc; repeat (have hn := hc.1; replace hc := hc.2))); (first | (have hc2 := Eq.trans hc (by with_reducible assumption); clear hc; subst hc2) | (refine i64_k hc ?_ ?_ ?_ ; omega; omega; (clear hc; intro hc; subst hc)) | (refine u64_k hc ?_ ?_ ?_ ; omega; omega; (clear hc; intro hc; subst hc)) | (refine u8_k hc ?_ ?_ ?_ ; omega; omega; (clear hc; intro hc; subst hc)) | subst hc | skip)) | (apply Exists.intro; apply And.intro; (focus (repeat (first | assumption | exact AH.set_same _ _ _ | ((first | refine AH.get_ne ?_ ?_ | refine AH.getd_ne ?_ ?_); (first | assumption | omega | exact Ne.symm (by assumption) | exact AH.ne_none (by assumption) (by assumption) | exact AH.none_ne (by assumption) (by assumption) | exact (AH.none_set (by assumption)).1 | exact Ne.symm (AH.none_set (by assumption)).1)))); done)) | (apply Exists.intro; apply And.intro; first | (with_reducible assumption) | ((try simp only [List.getElem?_drop, Nat.mul_one, Nat.add_zero, Nat.zero_add]); first | (with_reducible assumption) | (refine u8s_get ?_; omega) | (refine iS_get ?_; omega) | assumption | rfl)) | (apply And.intro; (first | rfl | (with_reducible assumption) | exact Nat.le_of_ble_eq_true rfl | omega | (exact Int.ofNat_lt.2 (Nat.lt_of_lt_of_eq (by with_reducible assumption) (by decide +kernel))) | assumption | (simp <;> fail) | (simp <;> omega) | (focus (repeat' (first | exact one_u8s _ | exact one_iS _ _ | rfl | apply one_take | apply one_drop | apply one_append)); done))))) <;> (try (conv => whnf))
  have hH0 : rdG H d ic bc b τ = H.set d (rdRow (low - X) τ.W ic bc) := by
    unfold rdG; rw [hLn, AH.set_id hi, q1]
  refine AWp_loop (σ := Nat × Cs) (24 :: 25 :: 26 :: 27 :: 28 :: 29 :: 30 :: 31 :: 32 :: 33 :: 34 :: 35 :: 36 :: 37 :: 38 :: 39 :: 40 :: 41 :: 42 :: 43 :: 44 :: 45 :: 46 :: 47 :: 48 :: 49 :: 50 :: 51 :: 52 :: 53 :: 54 :: []) (fun (f, τ) => []) (fun (f, τ) => rdG H d ic bc b τ) (fun (f, υ) => shf f υ = shf 3 τ ∧ 16777216 ≤ υ.W * 256 ^ f ∧ υ.W ≤ 4294967296 ∧ υ.L + f ≤ σ.L + 3 ∧ RdOk b υ) (fun (f, τ) => f) (3, τ) rfl ?_ trivial ?_ ?_
  · refine ⟨rfl, ?_, by show τ.W ≤ _; omega, by show τ.L + 3 ≤ _; omega, hrn⟩
    show 16777216 ≤ τ.W * 256 ^ 3
    rw [show (256 : Nat) ^ 3 = 16777216 by decide]; omega
  · refine HLe.of_eq ?_
    dsimp only
    rw [hH0]
    exact Eq.symm (AH.set_set _ _ _ _)
  · rintro ⟨f, υ⟩ ⟨g1, g2, g3, g4, g5⟩
    dsimp only at g1 g2 g3 g4 g5 ⊢
    refine AWp.of tt_ok (dok _) rfl ?_
    have hat := h.set υ
    have hud := hat.hd
    have hui := hat.hi
    have hub := hat.hb
    have hset : ∀ υ', rdG (rdG H d ic bc b υ) d ic bc b υ' = rdG H d ic bc b υ' := fun _ => rdG_set n1
    have hsm := lowR_shf (b := b) g5.le
    have hlw := g5.low
    by_cases hw : υ.W < 16777216
    · have hf : f ≠ 0 := fun e => by subst e; simp at g2; omega
      have hnx := k_next_c hui hub n3 (by omega) hbl
      have hsf : shf f υ = shf (f - 1) ⟨υ.V * 256, υ.W * 256, υ.L + 1⟩ := by
        obtain ⟨g, rfl⟩ : ∃ g, f = g + 1 := ⟨f - 1, by omega⟩
        exact if_pos hw
      have g5' : RdOk b ⟨υ.V * 256, υ.W * 256, υ.L + 1⟩ := by
        have hle := g5.le
        have hlt := g5.lt
        have hy : (b.getD (υ.L + 4) 0).toNat < 256 := (b.getD (υ.L + 4) 0).toNat_lt
        refine ⟨?_, ?_⟩
        · show υ.V * 256 ≤ bv b (υ.L + 4) * 256 + (b.getD (υ.L + 4) 0).toNat
          omega
        · show bv b (υ.L + 4) * 256 + (b.getD (υ.L + 4) 0).toNat < υ.V * 256 + υ.W * 256
          omega
      have hy : (b.getD (υ.L + 4) 0).toNat < 256 := (b.getD (υ.L + 4) 0).toNat_lt
      unfold rdRow at hud
      generalize k_lowR b υ = lw at *
      generalize (b.getD (υ.L + 4) 0).toNat = y at *
      have s3 : IntKind.u64.wrap ((lw : Int) * 2 ^ min (Int.toNat 8) IntKind.u64.bits) = (lw * 256 : Nat) := by
        rw [show (2 : Int) ^ min (Int.toNat 8) IntKind.u64.bits = 256 by decide, wrap_u64']; omega
      have s4 : IntKind.u64.wrap (((lw * 256 : Nat) : Int) + y) = (lw * 256 + y : Nat) := by rw [wrap_u64']; omega
      have s5 : IntKind.u64.wrap ((υ.W : Int) * 2 ^ min (Int.toNat 8) IntKind.u64.bits) = (υ.W * 256 : Nat) := by
        rw [show (2 : Int) ^ min (Int.toNat 8) IntKind.u64.bits = 256 by decide, wrap_u64']; omega
      generalize hG : rdG H d ic bc b υ = G at *
      (repeat' ((conv => whnf); first | refine Then.mk ?_ | left | refine OpsA.cons ?_ | refine OpsA.nil ?_ | refine AWq.seq ?_ | refine AWq.region ?_ | refine AWq.cond ?_ | refine AWq.block ?_ | refine AWq.skip ?_ | refine AWq.ret ?_ | refine AWq.exit ?_ | refine AWq.loop ?_ | refine DrawA.consD ?_ | refine DrawA.nil ?_ | refine DrawF.consD ?_ | refine DrawF.nil ?_ | (refine Both.mk ?_ ?_ <;> intro hc <;> (first | exact Bool.noConfusion hc | exact absurd (by with_reducible rfl) hc | exact (hc : False).elim | exact absurd (by assumption) hc | exact absurd hc (by assumption) | (exfalso; omega) | exact absurd hc (by decide) | skip)) | (intro c hc; (try (simp only [AH.none_iff] at hc; repeat (have hn := hc.1; replace hc := hc.2))); (first | (have hc2 := Eq.trans hc (by with_reducible assumption); clear hc; subst hc2) | (refine i64_k hc ?_ ?_ ?_ ; omega; omega; (clear hc; intro hc; subst hc)) | (refine u64_k hc ?_ ?_ ?_ ; omega; omega; (clear hc; intro hc; subst hc)) | (refine u8_k hc ?_ ?_ ?_ ; omega; omega; (clear hc; intro hc; subst hc)) | subst hc | skip)) | (apply Exists.intro; apply And.intro; (focus (repeat (first | assumption | exact AH.set_same _ _ _ | ((first | refine AH.get_ne ?_ ?_ | refine AH.getd_ne ?_ ?_); (first | assumption | omega | exact Ne.symm (by assumption) | exact AH.ne_none (by assumption) (by assumption) | exact AH.none_ne (by assumption) (by assumption) | exact (AH.none_set (by assumption)).1 | exact Ne.symm (AH.none_set (by assumption)).1)))); done)) | (apply Exists.intro; apply And.intro; first | (with_reducible assumption) | ((try simp only [List.getElem?_drop, Nat.mul_one, Nat.add_zero, Nat.zero_add]); first | (with_reducible assumption) | (refine u8s_get ?_; omega) | (refine iS_get ?_; omega) | assumption | rfl)) | (apply And.intro; (first | rfl | (with_reducible assumption) | exact Nat.le_of_ble_eq_true rfl | omega | (exact Int.ofNat_lt.2 (Nat.lt_of_lt_of_eq (by with_reducible assumption) (by decide +kernel))) | assumption | (simp <;> fail) | (simp <;> omega) | (focus (repeat' (first | exact one_u8s _ | exact one_iS _ _ | rfl | apply one_take | apply one_drop | apply one_append)); done))))) <;> (try (conv => whnf))
      refine AWq.drawF mo ([41], [35]) (fun G' => G' d = some (.row [.int .u64 lw, .int .u64 υ.W, .fn (.func 67) [] [.ptr ic 0 0, .ptr bc 0 0]] 0)) hud (by decide +kernel) ?_
      (repeat' ((conv => whnf); first | refine Then.mk ?_ | left | refine OpsA.cons ?_ | refine OpsA.nil ?_ | refine AWq.seq ?_ | refine AWq.region ?_ | refine AWq.cond ?_ | refine AWq.block ?_ | refine AWq.skip ?_ | refine AWq.ret ?_ | refine AWq.exit ?_ | refine AWq.loop ?_ | refine DrawA.consD ?_ | refine DrawA.nil ?_ | refine DrawF.consD ?_ | refine DrawF.nil ?_ | refine AWq.draw (by decide +kernel) ?_ | (refine ACall.to (hnx) ?_) | (apply Exists.intro; apply And.intro; exact hnx) | (apply Exists.intro; apply Exists.intro; apply And.intro; exact hnx) | (refine Both.mk ?_ ?_ <;> intro hc <;> (first | exact Bool.noConfusion hc | exact absurd (by with_reducible rfl) hc | exact (hc : False).elim | exact absurd (by assumption) hc | exact absurd hc (by assumption) | (exfalso; omega) | exact absurd hc (by decide) | skip)) | (intro c hc; (try (simp only [AH.none_iff] at hc; repeat (have hn := hc.1; replace hc := hc.2))); (first | (have hc2 := Eq.trans hc (by with_reducible assumption); clear hc; subst hc2) | (refine i64_k hc ?_ ?_ ?_ ; omega; omega; (clear hc; intro hc; subst hc)) | (refine u64_k hc ?_ ?_ ?_ ; omega; omega; (clear hc; intro hc; subst hc)) | (refine u8_k hc ?_ ?_ ?_ ; omega; omega; (clear hc; intro hc; subst hc)) | subst hc | skip)) | (apply Exists.intro; apply And.intro; (focus (repeat (first | assumption | exact AH.set_same _ _ _ | ((first | refine AH.get_ne ?_ ?_ | refine AH.getd_ne ?_ ?_); (first | assumption | omega | exact Ne.symm (by assumption) | exact AH.ne_none (by assumption) (by assumption) | exact AH.none_ne (by assumption) (by assumption) | exact (AH.none_set (by assumption)).1 | exact Ne.symm (AH.none_set (by assumption)).1)))); done)) | (apply Exists.intro; apply And.intro; first | (with_reducible assumption) | ((try simp only [List.getElem?_drop, Nat.mul_one, Nat.add_zero, Nat.zero_add]); first | (with_reducible assumption) | (refine u8s_get ?_; omega) | (refine iS_get ?_; omega) | assumption | rfl)) | (apply And.intro; (first | rfl | (with_reducible assumption) | exact Nat.le_of_ble_eq_true rfl | omega | (exact Int.ofNat_lt.2 (Nat.lt_of_lt_of_eq (by with_reducible assumption) (by decide +kernel))) | assumption | (simp <;> fail) | (simp <;> omega) | (focus (repeat' (first | exact one_u8s _ | exact one_iS _ _ | rfl | apply one_take | apply one_drop | apply one_append)); done))))) <;> (try (conv => whnf))
      refine ⟨.int .u64 lw, ?_, ?_, ?_⟩
      · (repeat' ((conv => whnf); first | refine Then.mk ?_ | left | refine OpsA.cons ?_ | refine OpsA.nil ?_ | refine AWq.seq ?_ | refine AWq.region ?_ | refine AWq.cond ?_ | refine AWq.block ?_ | refine AWq.skip ?_ | refine AWq.ret ?_ | refine AWq.exit ?_ | refine AWq.loop ?_ | refine DrawA.consD ?_ | refine DrawA.nil ?_ | refine DrawF.consD ?_ | refine DrawF.nil ?_ | refine AWq.draw (by decide +kernel) ?_ | (refine Both.mk ?_ ?_ <;> intro hc <;> (first | exact Bool.noConfusion hc | exact absurd (by with_reducible rfl) hc | exact (hc : False).elim | exact absurd (by assumption) hc | exact absurd hc (by assumption) | (exfalso; omega) | exact absurd hc (by decide) | skip)) | (intro c hc; (try (simp only [AH.none_iff] at hc; repeat (have hn := hc.1; replace hc := hc.2))); (first | (have hc2 := Eq.trans hc (by with_reducible assumption); clear hc; subst hc2) | (refine i64_k hc ?_ ?_ ?_ ; omega; omega; (clear hc; intro hc; subst hc)) | (refine u64_k hc ?_ ?_ ?_ ; omega; omega; (clear hc; intro hc; subst hc)) | (refine u8_k hc ?_ ?_ ?_ ; omega; omega; (clear hc; intro hc; subst hc)) | subst hc | skip)) | (apply Exists.intro; apply And.intro; (focus (repeat (first | assumption | exact AH.set_same _ _ _ | ((first | refine AH.get_ne ?_ ?_ | refine AH.getd_ne ?_ ?_); (first | assumption | omega | exact Ne.symm (by assumption) | exact AH.ne_none (by assumption) (by assumption) | exact AH.none_ne (by assumption) (by assumption) | exact (AH.none_set (by assumption)).1 | exact Ne.symm (AH.none_set (by assumption)).1)))); done)) | (apply Exists.intro; apply And.intro; first | (with_reducible assumption) | ((try simp only [List.getElem?_drop, Nat.mul_one, Nat.add_zero, Nat.zero_add]); first | (with_reducible assumption) | (refine u8s_get ?_; omega) | (refine iS_get ?_; omega) | assumption | rfl)) | (apply And.intro; (first | rfl | (with_reducible assumption) | exact Nat.le_of_ble_eq_true rfl | omega | (exact Int.ofNat_lt.2 (Nat.lt_of_lt_of_eq (by with_reducible assumption) (by decide +kernel))) | assumption | (simp <;> fail) | (simp <;> omega) | (focus (repeat' (first | exact one_u8s _ | exact one_iS _ _ | rfl | apply one_take | apply one_drop | apply one_append)); done))))) <;> (try (conv => whnf))
      · intro G' hG'
        have hG' : G' d = some (.row [.int .u64 lw, .int .u64 υ.W, .fn (.func 67) [] [.ptr ic 0 0, .ptr bc 0 0]] 0) := hG'
        (repeat' ((conv => whnf); first | refine Then.mk ?_ | left | refine OpsA.cons ?_ | refine OpsA.nil ?_ | refine AWq.seq ?_ | refine AWq.region ?_ | refine AWq.cond ?_ | refine AWq.block ?_ | refine AWq.skip ?_ | refine AWq.ret ?_ | refine AWq.exit ?_ | refine AWq.loop ?_ | refine DrawA.consD ?_ | refine DrawA.nil ?_ | refine DrawF.consD ?_ | refine DrawF.nil ?_ | refine AWq.draw (by decide +kernel) ?_ | (refine Both.mk ?_ ?_ <;> intro hc <;> (first | exact Bool.noConfusion hc | exact absurd (by with_reducible rfl) hc | exact (hc : False).elim | exact absurd (by assumption) hc | exact absurd hc (by assumption) | (exfalso; omega) | exact absurd hc (by decide) | skip)) | (intro c hc; (try (simp only [AH.none_iff] at hc; repeat (have hn := hc.1; replace hc := hc.2))); (first | (have hc2 := Eq.trans hc (by with_reducible assumption); clear hc; subst hc2) | (refine i64_k hc ?_ ?_ ?_ ; omega; omega; (clear hc; intro hc; subst hc)) | (refine u64_k hc ?_ ?_ ?_ ; omega; omega; (clear hc; intro hc; subst hc)) | (refine u8_k hc ?_ ?_ ?_ ; omega; omega; (clear hc; intro hc; subst hc)) | subst hc | skip)) | (apply Exists.intro; apply And.intro; (focus (repeat (first | assumption | exact AH.set_same _ _ _ | ((first | refine AH.get_ne ?_ ?_ | refine AH.getd_ne ?_ ?_); (first | assumption | omega | exact Ne.symm (by assumption) | exact AH.ne_none (by assumption) (by assumption) | exact AH.none_ne (by assumption) (by assumption) | exact (AH.none_set (by assumption)).1 | exact Ne.symm (AH.none_set (by assumption)).1)))); done)) | (apply Exists.intro; apply And.intro; first | (with_reducible assumption) | ((try simp only [List.getElem?_drop, Nat.mul_one, Nat.add_zero, Nat.zero_add]); first | (with_reducible assumption) | (refine u8s_get ?_; omega) | (refine iS_get ?_; omega) | assumption | rfl)) | (apply And.intro; (first | rfl | (with_reducible assumption) | exact Nat.le_of_ble_eq_true rfl | omega | (exact Int.ofNat_lt.2 (Nat.lt_of_lt_of_eq (by with_reducible assumption) (by decide +kernel))) | assumption | (simp <;> fail) | (simp <;> omega) | (focus (repeat' (first | exact one_u8s _ | exact one_iS _ _ | rfl | apply one_take | apply one_drop | apply one_append)); done))))) <;> (try (conv => whnf))
      (repeat' ((conv => whnf); first | refine Then.mk ?_ | left | refine OpsA.cons ?_ | refine OpsA.nil ?_ | refine AWq.seq ?_ | refine AWq.region ?_ | refine AWq.cond ?_ | refine AWq.block ?_ | refine AWq.skip ?_ | refine AWq.ret ?_ | refine AWq.exit ?_ | refine AWq.loop ?_ | refine DrawA.consD ?_ | refine DrawA.nil ?_ | refine DrawF.consD ?_ | refine DrawF.nil ?_ | refine AWq.draw (by decide +kernel) ?_ | (refine ACall.to (hnx) ?_) | (apply Exists.intro; apply And.intro; exact hnx) | (apply Exists.intro; apply Exists.intro; apply And.intro; exact hnx) | (refine Both.mk ?_ ?_ <;> intro hc <;> (first | exact Bool.noConfusion hc | exact absurd (by with_reducible rfl) hc | exact (hc : False).elim | exact absurd (by assumption) hc | exact absurd hc (by assumption) | (exfalso; omega) | exact absurd hc (by decide) | skip)) | (intro c hc; (try (simp only [AH.none_iff] at hc; repeat (have hn := hc.1; replace hc := hc.2))); (first | (have hc2 := Eq.trans hc (by with_reducible assumption); clear hc; subst hc2) | (refine i64_k hc ?_ ?_ ?_ ; omega; omega; (clear hc; intro hc; subst hc)) | (refine u64_k hc ?_ ?_ ?_ ; omega; omega; (clear hc; intro hc; subst hc)) | (refine u8_k hc ?_ ?_ ?_ ; omega; omega; (clear hc; intro hc; subst hc)) | subst hc | skip)) | (apply Exists.intro; apply And.intro; (focus (repeat (first | assumption | exact AH.set_same _ _ _ | ((first | refine AH.get_ne ?_ ?_ | refine AH.getd_ne ?_ ?_); (first | assumption | omega | exact Ne.symm (by assumption) | exact AH.ne_none (by assumption) (by assumption) | exact AH.none_ne (by assumption) (by assumption) | exact (AH.none_set (by assumption)).1 | exact Ne.symm (AH.none_set (by assumption)).1)))); done)) | (apply Exists.intro; apply And.intro; first | (with_reducible assumption) | ((try simp only [List.getElem?_drop, Nat.mul_one, Nat.add_zero, Nat.zero_add]); first | (with_reducible assumption) | (refine u8s_get ?_; omega) | (refine iS_get ?_; omega) | assumption | rfl)) | (apply And.intro; (first | rfl | (with_reducible assumption) | exact Nat.le_of_ble_eq_true rfl | omega | (exact Int.ofNat_lt.2 (Nat.lt_of_lt_of_eq (by with_reducible assumption) (by decide +kernel))) | assumption | (simp <;> fail) | (simp <;> omega) | (focus (repeat' (first | exact one_u8s _ | exact one_iS _ _ | rfl | apply one_take | apply one_drop | apply one_append)); done))))) <;> (try (conv => whnf))
      refine And.intro (show _ = _ from ?_) ?_
      · rw [AH.set_ne _ _ n1]; exact hud
      (repeat' ((conv => whnf); first | refine Then.mk ?_ | left | refine OpsA.cons ?_ | refine OpsA.nil ?_ | refine AWq.seq ?_ | refine AWq.region ?_ | refine AWq.cond ?_ | refine AWq.block ?_ | refine AWq.skip ?_ | refine AWq.ret ?_ | refine AWq.exit ?_ | refine AWq.loop ?_ | refine DrawA.consD ?_ | refine DrawA.nil ?_ | refine DrawF.consD ?_ | refine DrawF.nil ?_ | refine AWq.draw (by decide +kernel) ?_ | (refine Both.mk ?_ ?_ <;> intro hc <;> (first | exact Bool.noConfusion hc | exact absurd (by with_reducible rfl) hc | exact (hc : False).elim | exact absurd (by assumption) hc | exact absurd hc (by assumption) | (exfalso; omega) | exact absurd hc (by decide) | skip)) | (intro c hc; (try (simp only [AH.none_iff] at hc; repeat (have hn := hc.1; replace hc := hc.2))); (first | (have hc2 := Eq.trans hc (by with_reducible assumption); clear hc; subst hc2) | (refine i64_k hc ?_ ?_ ?_ ; omega; omega; (clear hc; intro hc; subst hc)) | (refine u64_k hc ?_ ?_ ?_ ; omega; omega; (clear hc; intro hc; subst hc)) | (refine u8_k hc ?_ ?_ ?_ ; omega; omega; (clear hc; intro hc; subst hc)) | subst hc | skip)) | (apply Exists.intro; apply And.intro; (focus (repeat (first | assumption | exact AH.set_same _ _ _ | ((first | refine AH.get_ne ?_ ?_ | refine AH.getd_ne ?_ ?_); (first | assumption | omega | exact Ne.symm (by assumption) | exact AH.ne_none (by assumption) (by assumption) | exact AH.none_ne (by assumption) (by assumption) | exact (AH.none_set (by assumption)).1 | exact Ne.symm (AH.none_set (by assumption)).1)))); done)) | (apply Exists.intro; apply And.intro; first | (with_reducible assumption) | ((try simp only [List.getElem?_drop, Nat.mul_one, Nat.add_zero, Nat.zero_add]); first | (with_reducible assumption) | (refine u8s_get ?_; omega) | (refine iS_get ?_; omega) | assumption | rfl)) | (apply And.intro; (first | rfl | (with_reducible assumption) | exact Nat.le_of_ble_eq_true rfl | omega | (exact Int.ofNat_lt.2 (Nat.lt_of_lt_of_eq (by with_reducible assumption) (by decide +kernel))) | assumption | (simp <;> fail) | (simp <;> omega) | (focus (repeat' (first | exact one_u8s _ | exact one_iS _ _ | rfl | apply one_take | apply one_drop | apply one_append)); done))))) <;> (try (conv => whnf))
      refine ⟨(f - 1, ⟨υ.V * 256, υ.W * 256, υ.L + 1⟩), ⟨?_, ?_, ?_, ?_, g5'⟩, ?_, trivial, HLe.of_eq ?_⟩
      · dsimp only; rw [← hsf]; exact g1
      · show 16777216 ≤ υ.W * 256 * 256 ^ (f - 1)
        rw [Nat.mul_assoc, ← Nat.pow_succ', show (f - 1).succ = f by omega]; exact g2
      · show υ.W * 256 ≤ 4294967296
        omega
      · show υ.L + 1 + (f - 1) ≤ _
        omega
      · show f - 1 < f
        omega
      · refine (hset _).symm.trans ?_
        unfold rdG
        rw [hsm]
        exact (AH.set_set _ _ _ _).symm
    · rw [← g1, shf_done (by omega)]
      unfold rdRow at hud
      generalize hG : rdG H d ic bc b υ = G at *
      (repeat' ((conv => whnf); first | refine Then.mk ?_ | left | refine OpsA.cons ?_ | refine OpsA.nil ?_ | refine AWq.seq ?_ | refine AWq.region ?_ | refine AWq.cond ?_ | refine AWq.block ?_ | refine AWq.skip ?_ | refine AWq.ret ?_ | refine AWq.exit ?_ | refine AWq.loop ?_ | refine DrawA.consD ?_ | refine DrawA.nil ?_ | refine DrawF.consD ?_ | refine DrawF.nil ?_ | refine AWq.draw (by decide +kernel) ?_ | (refine Both.mk ?_ ?_ <;> intro hc <;> (first | exact Bool.noConfusion hc | exact absurd (by with_reducible rfl) hc | exact (hc : False).elim | exact absurd (by assumption) hc | exact absurd hc (by assumption) | (exfalso; omega) | exact absurd hc (by decide) | skip)) | (intro c hc; (try (simp only [AH.none_iff] at hc; repeat (have hn := hc.1; replace hc := hc.2))); (first | (have hc2 := Eq.trans hc (by with_reducible assumption); clear hc; subst hc2) | (refine i64_k hc ?_ ?_ ?_ ; omega; omega; (clear hc; intro hc; subst hc)) | (refine u64_k hc ?_ ?_ ?_ ; omega; omega; (clear hc; intro hc; subst hc)) | (refine u8_k hc ?_ ?_ ?_ ; omega; omega; (clear hc; intro hc; subst hc)) | subst hc | skip)) | (apply Exists.intro; apply And.intro; (focus (repeat (first | assumption | exact AH.set_same _ _ _ | ((first | refine AH.get_ne ?_ ?_ | refine AH.getd_ne ?_ ?_); (first | assumption | omega | exact Ne.symm (by assumption) | exact AH.ne_none (by assumption) (by assumption) | exact AH.none_ne (by assumption) (by assumption) | exact (AH.none_set (by assumption)).1 | exact Ne.symm (AH.none_set (by assumption)).1)))); done)) | (apply Exists.intro; apply And.intro; first | (with_reducible assumption) | ((try simp only [List.getElem?_drop, Nat.mul_one, Nat.add_zero, Nat.zero_add]); first | (with_reducible assumption) | (refine u8s_get ?_; omega) | (refine iS_get ?_; omega) | assumption | rfl)) | (apply And.intro; (first | rfl | (with_reducible assumption) | exact Nat.le_of_ble_eq_true rfl | omega | (exact Int.ofNat_lt.2 (Nat.lt_of_lt_of_eq (by with_reducible assumption) (by decide +kernel))) | assumption | (simp <;> fail) | (simp <;> omega) | (focus (repeat' (first | exact one_u8s _ | exact one_iS _ _ | rfl | apply one_take | apply one_drop | apply one_append)); done))))) <;> (try (conv => whnf))
end Go.Proofs.Ytgmooalikccbiaa
/- The walks of the coder's reader: its beginning, symbols. -/
namespace Go.Proofs.Ytgmooalikccbiaa
open Go.Fw Go
set_option linter.unusedVariables false
set_option linter.unusedSimpArgs false

set_option maxRecDepth 8000 in
theorem k_read_c (b : List UInt8) (hbl : b.length ≤ 1000000000000) (H : AH) :
    ACall Try.prog 50 [.cs (u8s b) b.length] H (fun y H' => ∃ d ic bc, H d = none ∧ H ic = none ∧ H bc = none ∧ y = .ptr d 0 0 ∧ RdAt H' d ic bc b cs0 ∧ HLe H H') := by
  refine ACall_of tt_ok (dok _) Try.func50 rfl (by decide) rfl ?_
  (repeat' ((conv => whnf); first | refine Then.mk ?_ | left | refine OpsA.cons ?_ | refine OpsA.nil ?_ | refine AWq.seq ?_ | refine AWq.region ?_ | refine AWq.cond ?_ | refine AWq.block ?_ | refine AWq.skip ?_ | refine AWq.ret ?_ | refine AWq.exit ?_ | refine AWq.loop ?_ | refine DrawA.consD ?_ | refine DrawA.nil ?_ | refine DrawF.consD ?_ | refine DrawF.nil ?_ | refine AWq.draw (by decide +kernel) ?_ | (refine Both.mk ?_ ?_ <;> intro hc <;> (first | exact Bool.noConfusion hc | exact absurd (by with_reducible rfl) hc | exact (hc : False).elim | exact absurd (by assumption) hc | exact absurd hc (by assumption) | (exfalso; omega) | exact absurd hc (by decide) | skip)) | (intro c hc; (try (simp only [AH.none_iff] at hc; repeat (have hn := hc.1; replace hc := hc.2))); (first | (have hc2 := Eq.trans hc (by with_reducible assumption); clear hc; subst hc2) | (refine i64_k hc ?_ ?_ ?_ ; omega; omega; (clear hc; intro hc; subst hc)) | (refine u64_k hc ?_ ?_ ?_ ; omega; omega; (clear hc; intro hc; subst hc)) | (refine u8_k hc ?_ ?_ ?_ ; omega; omega; (clear hc; intro hc; subst hc)) | subst hc | skip)) | (apply Exists.intro; apply And.intro; (focus (repeat (first | assumption | exact AH.set_same _ _ _ | ((first | refine AH.get_ne ?_ ?_ | refine AH.getd_ne ?_ ?_); (first | assumption | omega | exact Ne.symm (by assumption) | exact AH.ne_none (by assumption) (by assumption) | exact AH.none_ne (by assumption) (by assumption) | exact (AH.none_set (by assumption)).1 | exact Ne.symm (AH.none_set (by assumption)).1)))); done)) | (apply Exists.intro; apply And.intro; first | (with_reducible assumption) | ((try simp only [List.getElem?_drop, Nat.mul_one, Nat.add_zero, Nat.zero_add]); first | (with_reducible assumption) | (refine u8s_get ?_; omega) | (refine iS_get ?_; omega) | assumption | rfl)) | (apply And.intro; (first | rfl | (with_reducible assumption) | exact Nat.le_of_ble_eq_true rfl | omega | (exact Int.ofNat_lt.2 (Nat.lt_of_lt_of_eq (by with_reducible assumption) (by decide +kernel))) | assumption | (simp <;> fail) | (simp <;> omega) | (focus (repeat' (first | exact one_u8s _ | exact one_iS _ _ | rfl | apply one_take | apply one_drop | apply one_append)); done))))) <;> (try (conv => whnf))
  rename_i bc hbc ic nib hic ndi ndi2
  have hdi : c ≠ ic := by assumption
  have hdb : c ≠ bc := by assumption
  have hid := Ne.symm hdi
  have hbd := Ne.symm hdb
  have hbi := Ne.symm nib
  have hrd : ∀ k, RdAt ((AH.set (AH.set H bc (.row [.cs (u8s b) b.length] 0)) ic (.row [.int .i64 (k : Nat)] 0)).set c (rdRow (bv b k) 4294967296 ic bc)) c ic bc b ⟨0, 4294967296, 0⟩ ∨ k ≠ 4 := fun k => by
    by_cases hk : k = 4
    · subst hk
      left
      refine ⟨AH.set_same _ _ _, ?_, ?_, hdi, hdb, nib⟩
      · rw [AH.set_ne _ _ hid, AH.set_same]
      · rw [AH.set_ne _ _ hbd, AH.set_ne _ _ hbi, AH.set_same]
    · right; exact hk
  refine AWp_loop (σ := Nat) (12 :: 13 :: 14 :: 15 :: 16 :: 17 :: 18 :: 19 :: 20 :: 21 :: 22 :: 23 :: 24 :: 25 :: 26 :: 27 :: 28 :: 29 :: 30 :: []) (fun k => [(12, .int .i64 k)]) (fun k => ((AH.set (AH.set H bc (.row [.cs (u8s b) b.length] 0)) ic (.row [.int .i64 (k : Nat)] 0)).set c (rdRow (bv b k) 4294967296 ic bc))) (fun k => k ≤ 4) (fun k => 4 - k) 0 rfl (by decide) ⟨rfl, trivial⟩ ?_ ?_
  · refine HLe.of_eq ?_
    refine Eq.symm ((AH.set_set _ _ _ _).trans ?_)
    exact congrArg (fun G => AH.set G c _) (AH.set_set _ _ _ _)
  · intro k hk
    refine AWp.of tt_ok (dok _) rfl ?_
    have hui : ((AH.set (AH.set H bc (.row [.cs (u8s b) b.length] 0)) ic (.row [.int .i64 (k : Nat)] 0)).set c (rdRow (bv b k) 4294967296 ic bc)) ic = some (.row [.int .i64 k] 0) := by rw [AH.set_ne _ _ hid, AH.set_same]
    have hub : ((AH.set (AH.set H bc (.row [.cs (u8s b) b.length] 0)) ic (.row [.int .i64 (k : Nat)] 0)).set c (rdRow (bv b k) 4294967296 ic bc)) bc = some (.row [.cs (u8s b) b.length] 0) := by rw [AH.set_ne _ _ hbd, AH.set_ne _ _ hbi, AH.set_same]
    have hud : ((AH.set (AH.set H bc (.row [.cs (u8s b) b.length] 0)) ic (.row [.int .i64 (k : Nat)] 0)).set c (rdRow (bv b k) 4294967296 ic bc)) c = some (rdRow (bv b k) 4294967296 ic bc) := AH.set_same _ _ _
    by_cases hk4 : k < 4
    · have hnx := k_next_c hui hub nib (by omega) hbl
      have hbb : bv b k < 16777216 := Nat.lt_of_lt_of_le (bv_lt b k) (by
        have : 256 ^ k ≤ 256 ^ 3 := Nat.pow_le_pow_right (by decide) (by omega)
        exact this)
      have hbs : bv b (k + 1) = bv b k * 256 + (b.getD k 0).toNat := rfl
      have hy : (b.getD k 0).toNat < 256 := (b.getD k 0).toNat_lt
      have hset : ∀ low, (((((AH.set (AH.set H bc (.row [.cs (u8s b) b.length] 0)) ic (.row [.int .i64 (k : Nat)] 0)).set c (rdRow (bv b k) 4294967296 ic bc))).set ic (.row [.int .i64 (k + 1 : Nat)] 0)).set c (rdRow low 4294967296 ic bc)) = ((AH.set (AH.set H bc (.row [.cs (u8s b) b.length] 0)) ic (.row [.int .i64 (k + 1 : Nat)] 0)).set c (rdRow low 4294967296 ic bc)) := fun low => by
        rw [AH.set_back _ hid, AH.set_set]
      generalize ((AH.set (AH.set H bc (.row [.cs (u8s b) b.length] 0)) ic (.row [.int .i64 (k : Nat)] 0)).set c (rdRow (bv b k) 4294967296 ic bc)) = G at *
      unfold rdRow at hud
      generalize (b.getD k 0).toNat = y at *
      generalize bv b k = lw at *
      have s3 : IntKind.u64.wrap ((lw : Int) * 2 ^ min (Int.toNat 8) IntKind.u64.bits) = (lw * 256 : Nat) := by
        rw [show (2 : Int) ^ min (Int.toNat 8) IntKind.u64.bits = 256 by decide, wrap_u64']; omega
      have s4 : IntKind.u64.wrap (((lw * 256 : Nat) : Int) + y) = (lw * 256 + y : Nat) := by rw [wrap_u64']; omega
      (repeat' ((conv => whnf); first | refine Then.mk ?_ | left | refine OpsA.cons ?_ | refine OpsA.nil ?_ | refine AWq.seq ?_ | refine AWq.region ?_ | refine AWq.cond ?_ | refine AWq.block ?_ | refine AWq.skip ?_ | refine AWq.ret ?_ | refine AWq.exit ?_ | refine AWq.loop ?_ | refine DrawA.consD ?_ | refine DrawA.nil ?_ | refine DrawF.consD ?_ | refine DrawF.nil ?_ | (refine Both.mk ?_ ?_ <;> intro hc <;> (first | exact Bool.noConfusion hc | exact absurd (by with_reducible rfl) hc | exact (hc : False).elim | exact absurd (by assumption) hc | exact absurd hc (by assumption) | (exfalso; omega) | exact absurd hc (by decide) | skip)) | (intro c hc; (try (simp only [AH.none_iff] at hc; repeat (have hn := hc.1; replace hc := hc.2))); (first | (have hc2 := Eq.trans hc (by with_reducible assumption); clear hc; subst hc2) | (refine i64_k hc ?_ ?_ ?_ ; omega; omega; (clear hc; intro hc; subst hc)) | (refine u64_k hc ?_ ?_ ?_ ; omega; omega; (clear hc; intro hc; subst hc)) | (refine u8_k hc ?_ ?_ ?_ ; omega; omega; (clear hc; intro hc; subst hc)) | subst hc | skip)) | (apply Exists.intro; apply And.intro; (focus (repeat (first | assumption | exact AH.set_same _ _ _ | ((first | refine AH.get_ne ?_ ?_ | refine AH.getd_ne ?_ ?_); (first | assumption | omega | exact Ne.symm (by assumption) | exact AH.ne_none (by assumption) (by assumption) | exact AH.none_ne (by assumption) (by assumption) | exact (AH.none_set (by assumption)).1 | exact Ne.symm (AH.none_set (by assumption)).1)))); done)) | (apply Exists.intro; apply And.intro; first | (with_reducible assumption) | ((try simp only [List.getElem?_drop, Nat.mul_one, Nat.add_zero, Nat.zero_add]); first | (with_reducible assumption) | (refine u8s_get ?_; omega) | (refine iS_get ?_; omega) | assumption | rfl)) | (apply And.intro; (first | rfl | (with_reducible assumption) | exact Nat.le_of_ble_eq_true rfl | omega | (exact Int.ofNat_lt.2 (Nat.lt_of_lt_of_eq (by with_reducible assumption) (by decide +kernel))) | assumption | (simp <;> fail) | (simp <;> omega) | (focus (repeat' (first | exact one_u8s _ | exact one_iS _ _ | rfl | apply one_take | apply one_drop | apply one_append)); done))))) <;> (try (conv => whnf))
      refine AWq.drawF mo ([25], [19]) (fun G' => G' c = some (.row [.int .u64 lw, .int .u64 4294967296, .fn (.func 67) [] [.ptr ic 0 0, .ptr bc 0 0]] 0)) hud (by decide +kernel) ?_
      (repeat' ((conv => whnf); first | refine Then.mk ?_ | left | refine OpsA.cons ?_ | refine OpsA.nil ?_ | refine AWq.seq ?_ | refine AWq.region ?_ | refine AWq.cond ?_ | refine AWq.block ?_ | refine AWq.skip ?_ | refine AWq.ret ?_ | refine AWq.exit ?_ | refine AWq.loop ?_ | refine DrawA.consD ?_ | refine DrawA.nil ?_ | refine DrawF.consD ?_ | refine DrawF.nil ?_ | refine AWq.draw (by decide +kernel) ?_ | (refine ACall.to (hnx) ?_) | (apply Exists.intro; apply And.intro; exact hnx) | (apply Exists.intro; apply Exists.intro; apply And.intro; exact hnx) | (refine Both.mk ?_ ?_ <;> intro hc <;> (first | exact Bool.noConfusion hc | exact absurd (by with_reducible rfl) hc | exact (hc : False).elim | exact absurd (by assumption) hc | exact absurd hc (by assumption) | (exfalso; omega) | exact absurd hc (by decide) | skip)) | (intro c hc; (try (simp only [AH.none_iff] at hc; repeat (have hn := hc.1; replace hc := hc.2))); (first | (have hc2 := Eq.trans hc (by with_reducible assumption); clear hc; subst hc2) | (refine i64_k hc ?_ ?_ ?_ ; omega; omega; (clear hc; intro hc; subst hc)) | (refine u64_k hc ?_ ?_ ?_ ; omega; omega; (clear hc; intro hc; subst hc)) | (refine u8_k hc ?_ ?_ ?_ ; omega; omega; (clear hc; intro hc; subst hc)) | subst hc | skip)) | (apply Exists.intro; apply And.intro; (focus (repeat (first | assumption | exact AH.set_same _ _ _ | ((first | refine AH.get_ne ?_ ?_ | refine AH.getd_ne ?_ ?_); (first | assumption | omega | exact Ne.symm (by assumption) | exact AH.ne_none (by assumption) (by assumption) | exact AH.none_ne (by assumption) (by assumption) | exact (AH.none_set (by assumption)).1 | exact Ne.symm (AH.none_set (by assumption)).1)))); done)) | (apply Exists.intro; apply And.intro; first | (with_reducible assumption) | ((try simp only [List.getElem?_drop, Nat.mul_one, Nat.add_zero, Nat.zero_add]); first | (with_reducible assumption) | (refine u8s_get ?_; omega) | (refine iS_get ?_; omega) | assumption | rfl)) | (apply And.intro; (first | rfl | (with_reducible assumption) | exact Nat.le_of_ble_eq_true rfl | omega | (exact Int.ofNat_lt.2 (Nat.lt_of_lt_of_eq (by with_reducible assumption) (by decide +kernel))) | assumption | (simp <;> fail) | (simp <;> omega) | (focus (repeat' (first | exact one_u8s _ | exact one_iS _ _ | rfl | apply one_take | apply one_drop | apply one_append)); done))))) <;> (try (conv => whnf))
      refine ⟨.int .u64 lw, ?_, ?_, ?_⟩
      · (repeat' ((conv => whnf); first | refine Then.mk ?_ | left | refine OpsA.cons ?_ | refine OpsA.nil ?_ | refine AWq.seq ?_ | refine AWq.region ?_ | refine AWq.cond ?_ | refine AWq.block ?_ | refine AWq.skip ?_ | refine AWq.ret ?_ | refine AWq.exit ?_ | refine AWq.loop ?_ | refine DrawA.consD ?_ | refine DrawA.nil ?_ | refine DrawF.consD ?_ | refine DrawF.nil ?_ | refine AWq.draw (by decide +kernel) ?_ | (refine Both.mk ?_ ?_ <;> intro hc <;> (first | exact Bool.noConfusion hc | exact absurd (by with_reducible rfl) hc | exact (hc : False).elim | exact absurd (by assumption) hc | exact absurd hc (by assumption) | (exfalso; omega) | exact absurd hc (by decide) | skip)) | (intro c hc; (try (simp only [AH.none_iff] at hc; repeat (have hn := hc.1; replace hc := hc.2))); (first | (have hc2 := Eq.trans hc (by with_reducible assumption); clear hc; subst hc2) | (refine i64_k hc ?_ ?_ ?_ ; omega; omega; (clear hc; intro hc; subst hc)) | (refine u64_k hc ?_ ?_ ?_ ; omega; omega; (clear hc; intro hc; subst hc)) | (refine u8_k hc ?_ ?_ ?_ ; omega; omega; (clear hc; intro hc; subst hc)) | subst hc | skip)) | (apply Exists.intro; apply And.intro; (focus (repeat (first | assumption | exact AH.set_same _ _ _ | ((first | refine AH.get_ne ?_ ?_ | refine AH.getd_ne ?_ ?_); (first | assumption | omega | exact Ne.symm (by assumption) | exact AH.ne_none (by assumption) (by assumption) | exact AH.none_ne (by assumption) (by assumption) | exact (AH.none_set (by assumption)).1 | exact Ne.symm (AH.none_set (by assumption)).1)))); done)) | (apply Exists.intro; apply And.intro; first | (with_reducible assumption) | ((try simp only [List.getElem?_drop, Nat.mul_one, Nat.add_zero, Nat.zero_add]); first | (with_reducible assumption) | (refine u8s_get ?_; omega) | (refine iS_get ?_; omega) | assumption | rfl)) | (apply And.intro; (first | rfl | (with_reducible assumption) | exact Nat.le_of_ble_eq_true rfl | omega | (exact Int.ofNat_lt.2 (Nat.lt_of_lt_of_eq (by with_reducible assumption) (by decide +kernel))) | assumption | (simp <;> fail) | (simp <;> omega) | (focus (repeat' (first | exact one_u8s _ | exact one_iS _ _ | rfl | apply one_take | apply one_drop | apply one_append)); done))))) <;> (try (conv => whnf))
      · intro G' hG'
        have hG' : G' c = some (.row [.int .u64 lw, .int .u64 4294967296, .fn (.func 67) [] [.ptr ic 0 0, .ptr bc 0 0]] 0) := hG'
        (repeat' ((conv => whnf); first | refine Then.mk ?_ | left | refine OpsA.cons ?_ | refine OpsA.nil ?_ | refine AWq.seq ?_ | refine AWq.region ?_ | refine AWq.cond ?_ | refine AWq.block ?_ | refine AWq.skip ?_ | refine AWq.ret ?_ | refine AWq.exit ?_ | refine AWq.loop ?_ | refine DrawA.consD ?_ | refine DrawA.nil ?_ | refine DrawF.consD ?_ | refine DrawF.nil ?_ | refine AWq.draw (by decide +kernel) ?_ | (refine Both.mk ?_ ?_ <;> intro hc <;> (first | exact Bool.noConfusion hc | exact absurd (by with_reducible rfl) hc | exact (hc : False).elim | exact absurd (by assumption) hc | exact absurd hc (by assumption) | (exfalso; omega) | exact absurd hc (by decide) | skip)) | (intro c hc; (try (simp only [AH.none_iff] at hc; repeat (have hn := hc.1; replace hc := hc.2))); (first | (have hc2 := Eq.trans hc (by with_reducible assumption); clear hc; subst hc2) | (refine i64_k hc ?_ ?_ ?_ ; omega; omega; (clear hc; intro hc; subst hc)) | (refine u64_k hc ?_ ?_ ?_ ; omega; omega; (clear hc; intro hc; subst hc)) | (refine u8_k hc ?_ ?_ ?_ ; omega; omega; (clear hc; intro hc; subst hc)) | subst hc | skip)) | (apply Exists.intro; apply And.intro; (focus (repeat (first | assumption | exact AH.set_same _ _ _ | ((first | refine AH.get_ne ?_ ?_ | refine AH.getd_ne ?_ ?_); (first | assumption | omega | exact Ne.symm (by assumption) | exact AH.ne_none (by assumption) (by assumption) | exact AH.none_ne (by assumption) (by assumption) | exact (AH.none_set (by assumption)).1 | exact Ne.symm (AH.none_set (by assumption)).1)))); done)) | (apply Exists.intro; apply And.intro; first | (with_reducible assumption) | ((try simp only [List.getElem?_drop, Nat.mul_one, Nat.add_zero, Nat.zero_add]); first | (with_reducible assumption) | (refine u8s_get ?_; omega) | (refine iS_get ?_; omega) | assumption | rfl)) | (apply And.intro; (first | rfl | (with_reducible assumption) | exact Nat.le_of_ble_eq_true rfl | omega | (exact Int.ofNat_lt.2 (Nat.lt_of_lt_of_eq (by with_reducible assumption) (by decide +kernel))) | assumption | (simp <;> fail) | (simp <;> omega) | (focus (repeat' (first | exact one_u8s _ | exact one_iS _ _ | rfl | apply one_take | apply one_drop | apply one_append)); done))))) <;> (try (conv => whnf))
      (repeat' ((conv => whnf); first | refine Then.mk ?_ | left | refine OpsA.cons ?_ | refine OpsA.nil ?_ | refine AWq.seq ?_ | refine AWq.region ?_ | refine AWq.cond ?_ | refine AWq.block ?_ | refine AWq.skip ?_ | refine AWq.ret ?_ | refine AWq.exit ?_ | refine AWq.loop ?_ | refine DrawA.consD ?_ | refine DrawA.nil ?_ | refine DrawF.consD ?_ | refine DrawF.nil ?_ | refine AWq.draw (by decide +kernel) ?_ | (refine ACall.to (hnx) ?_) | (apply Exists.intro; apply And.intro; exact hnx) | (apply Exists.intro; apply Exists.intro; apply And.intro; exact hnx) | (refine Both.mk ?_ ?_ <;> intro hc <;> (first | exact Bool.noConfusion hc | exact absurd (by with_reducible rfl) hc | exact (hc : False).elim | exact absurd (by assumption) hc | exact absurd hc (by assumption) | (exfalso; omega) | exact absurd hc (by decide) | skip)) | (intro c hc; (try (simp only [AH.none_iff] at hc; repeat (have hn := hc.1; replace hc := hc.2))); (first | (have hc2 := Eq.trans hc (by with_reducible assumption); clear hc; subst hc2) | (refine i64_k hc ?_ ?_ ?_ ; omega; omega; (clear hc; intro hc; subst hc)) | (refine u64_k hc ?_ ?_ ?_ ; omega; omega; (clear hc; intro hc; subst hc)) | (refine u8_k hc ?_ ?_ ?_ ; omega; omega; (clear hc; intro hc; subst hc)) | subst hc | skip)) | (apply Exists.intro; apply And.intro; (focus (repeat (first | assumption | exact AH.set_same _ _ _ | ((first | refine AH.get_ne ?_ ?_ | refine AH.getd_ne ?_ ?_); (first | assumption | omega | exact Ne.symm (by assumption) | exact AH.ne_none (by assumption) (by assumption) | exact AH.none_ne (by assumption) (by assumption) | exact (AH.none_set (by assumption)).1 | exact Ne.symm (AH.none_set (by assumption)).1)))); done)) | (apply Exists.intro; apply And.intro; first | (with_reducible assumption) | ((try simp only [List.getElem?_drop, Nat.mul_one, Nat.add_zero, Nat.zero_add]); first | (with_reducible assumption) | (refine u8s_get ?_; omega) | (refine iS_get ?_; omega) | assumption | rfl)) | (apply And.intro; (first | rfl | (with_reducible assumption) | exact Nat.le_of_ble_eq_true rfl | omega | (exact Int.ofNat_lt.2 (Nat.lt_of_lt_of_eq (by with_reducible assumption) (by decide +kernel))) | assumption | (simp <;> fail) | (simp <;> omega) | (focus (repeat' (first | exact one_u8s _ | exact one_iS _ _ | rfl | apply one_take | apply one_drop | apply one_append)); done))))) <;> (try (conv => whnf))
      refine And.intro (show _ = _ from ?_) ?_
      · rw [AH.set_ne _ _ hdi]; exact hud
      (repeat' ((conv => whnf); first | refine Then.mk ?_ | left | refine OpsA.cons ?_ | refine OpsA.nil ?_ | refine AWq.seq ?_ | refine AWq.region ?_ | refine AWq.cond ?_ | refine AWq.block ?_ | refine AWq.skip ?_ | refine AWq.ret ?_ | refine AWq.exit ?_ | refine AWq.loop ?_ | refine DrawA.consD ?_ | refine DrawA.nil ?_ | refine DrawF.consD ?_ | refine DrawF.nil ?_ | refine AWq.draw (by decide +kernel) ?_ | (refine Both.mk ?_ ?_ <;> intro hc <;> (first | exact Bool.noConfusion hc | exact absurd (by with_reducible rfl) hc | exact (hc : False).elim | exact absurd (by assumption) hc | exact absurd hc (by assumption) | (exfalso; omega) | exact absurd hc (by decide) | skip)) | (intro c hc; (try (simp only [AH.none_iff] at hc; repeat (have hn := hc.1; replace hc := hc.2))); (first | (have hc2 := Eq.trans hc (by with_reducible assumption); clear hc; subst hc2) | (refine i64_k hc ?_ ?_ ?_ ; omega; omega; (clear hc; intro hc; subst hc)) | (refine u64_k hc ?_ ?_ ?_ ; omega; omega; (clear hc; intro hc; subst hc)) | (refine u8_k hc ?_ ?_ ?_ ; omega; omega; (clear hc; intro hc; subst hc)) | subst hc | skip)) | (apply Exists.intro; apply And.intro; (focus (repeat (first | assumption | exact AH.set_same _ _ _ | ((first | refine AH.get_ne ?_ ?_ | refine AH.getd_ne ?_ ?_); (first | assumption | omega | exact Ne.symm (by assumption) | exact AH.ne_none (by assumption) (by assumption) | exact AH.none_ne (by assumption) (by assumption) | exact (AH.none_set (by assumption)).1 | exact Ne.symm (AH.none_set (by assumption)).1)))); done)) | (apply Exists.intro; apply And.intro; first | (with_reducible assumption) | ((try simp only [List.getElem?_drop, Nat.mul_one, Nat.add_zero, Nat.zero_add]); first | (with_reducible assumption) | (refine u8s_get ?_; omega) | (refine iS_get ?_; omega) | assumption | rfl)) | (apply And.intro; (first | rfl | (with_reducible assumption) | exact Nat.le_of_ble_eq_true rfl | omega | (exact Int.ofNat_lt.2 (Nat.lt_of_lt_of_eq (by with_reducible assumption) (by decide +kernel))) | assumption | (simp <;> fail) | (simp <;> omega) | (focus (repeat' (first | exact one_u8s _ | exact one_iS _ _ | rfl | apply one_take | apply one_drop | apply one_append)); done))))) <;> (try (conv => whnf))
      refine ⟨k + 1, by omega, by omega, ⟨congrArg (AV.int .i64) (by omega), trivial⟩, HLe.of_eq ?_⟩
      dsimp only
      rw [hbs, ← hset]
      rfl
    · have hk4 : k = 4 := by omega
      subst hk4
      have hrd4 := (hrd 4).resolve_right (by simp)
      generalize hG : ((AH.set (AH.set H bc (.row [.cs (u8s b) b.length] 0)) ic (.row [.int .i64 (4 : Nat)] 0)).set c (rdRow (bv b 4) 4294967296 ic bc)) = G at *
      (repeat' ((conv => whnf); first | refine Then.mk ?_ | left | refine OpsA.cons ?_ | refine OpsA.nil ?_ | refine AWq.seq ?_ | refine AWq.region ?_ | refine AWq.cond ?_ | refine AWq.block ?_ | refine AWq.skip ?_ | refine AWq.ret ?_ | refine AWq.exit ?_ | refine AWq.loop ?_ | refine DrawA.consD ?_ | refine DrawA.nil ?_ | refine DrawF.consD ?_ | refine DrawF.nil ?_ | refine AWq.draw (by decide +kernel) ?_ | (refine Both.mk ?_ ?_ <;> intro hc <;> (first | exact Bool.noConfusion hc | exact absurd (by with_reducible rfl) hc | exact (hc : False).elim | exact absurd (by assumption) hc | exact absurd hc (by assumption) | (exfalso; omega) | exact absurd hc (by decide) | skip)) | (intro c hc; (try (simp only [AH.none_iff] at hc; repeat (have hn := hc.1; replace hc := hc.2))); (first | (have hc2 := Eq.trans hc (by with_reducible assumption); clear hc; subst hc2) | (refine i64_k hc ?_ ?_ ?_ ; omega; omega; (clear hc; intro hc; subst hc)) | (refine u64_k hc ?_ ?_ ?_ ; omega; omega; (clear hc; intro hc; subst hc)) | (refine u8_k hc ?_ ?_ ?_ ; omega; omega; (clear hc; intro hc; subst hc)) | subst hc | skip)) | (apply Exists.intro; apply And.intro; (focus (repeat (first | assumption | exact AH.set_same _ _ _ | ((first | refine AH.get_ne ?_ ?_ | refine AH.getd_ne ?_ ?_); (first | assumption | omega | exact Ne.symm (by assumption) | exact AH.ne_none (by assumption) (by assumption) | exact AH.none_ne (by assumption) (by assumption) | exact (AH.none_set (by assumption)).1 | exact Ne.symm (AH.none_set (by assumption)).1)))); done)) | (apply Exists.intro; apply And.intro; first | (with_reducible assumption) | ((try simp only [List.getElem?_drop, Nat.mul_one, Nat.add_zero, Nat.zero_add]); first | (with_reducible assumption) | (refine u8s_get ?_; omega) | (refine iS_get ?_; omega) | assumption | rfl)) | (apply And.intro; (first | rfl | (with_reducible assumption) | exact Nat.le_of_ble_eq_true rfl | omega | (exact Int.ofNat_lt.2 (Nat.lt_of_lt_of_eq (by with_reducible assumption) (by decide +kernel))) | assumption | (simp <;> fail) | (simp <;> omega) | (focus (repeat' (first | exact one_u8s _ | exact one_iS _ _ | rfl | apply one_take | apply one_drop | apply one_append)); done))))) <;> (try (conv => whnf))
      refine ⟨c, ic, bc, by assumption, hic, hbc, rfl, hrd4, ?_⟩
      rw [← hG]
      exact HLe.set_of _ _ (HLe.set_of _ _ (HLe.fresh _ hbc) hic) (by assumption)

set_option maxRecDepth 8000 in
theorem rsymbol_c {G : AH} {d ic bc p q n : Nat} {b : List UInt8} {σ : Cs} {c : Nat → Nat} (h : RdAt G d ic bc b σ) (hm : MdAt G p q n c) (hr : RdOk b σ) (hc : CsOk σ) (hL : σ.L ≤ 1000000000) (hbl : b.length ≤ 1000000000000)
    (h1 : p ≠ d) (h2 : p ≠ ic) (h3 : q ≠ d) (h4 : q ≠ ic) (hat : atR b σ (plc c n) < plc c n) {s : Nat} (hs : s = fnd c (atR b σ (plc c n)) n) :
    ACall Try.prog 51 [.ptr d 0 0, .ptr p 0 0] G (fun y H' => y = .tup [.int .i64 s, .bool true] ∧ H' = mdH (rdG G d ic bc b (stp σ (plc c s) (c s) (plc c n))) p q n (seeM n c s)) := by
  have hn : 1 ≤ n := by
    cases n with
    | zero => simp [plc] at hat
    | succ n => omega
  obtain ⟨f1, f2, f3⟩ := fnd_ok hat
  rw [← hs] at f1 f2 f3
  have ht := hm.ok.tot f1
  have hts := hm.ok.sum
  have hac := at_c h hr hc (plc c n) ht hts
  rw [decide_eq_true hat, Nat.min_eq_left (Nat.le_of_lt hat)] at hac
  have hst : StOk (plc c s) (c s) (plc c n) := ⟨hm.ok.pos s f1, plc_one f1, hts⟩
  have hstep := k_rstep_c h hr hc hst f2 f3 hL hbl
  have hsee := see_c (hm.same (G := rdG G d ic bc b (stp σ (plc c s) (c s) (plc c n))) (rdG_ne h1 h2) (rdG_ne h3 h4)) s f1
  have hmp := hm.hp
  have hmq := hm.hq
  have hle := fun k hk => hm.ok.le (k := k) hk
  have hcell := fun k (hk : k < n) => iL_gi (fun k => (c k : Int)) hk
  have hlen : (iL n fun k => (c k : Int)).length = n := iL_len _ _
  generalize (iL n fun k => (c k : Int)) = cells at *
  have hpls : ∀ k, k ≤ n → plc c k ≤ plc c n := fun k hk => plc_le hk
  obtain ⟨A, hA⟩ : ∃ A, A = atR b σ (plc c n) := ⟨_, rfl⟩
  rw [← hA] at hac hat f2 f3
  obtain ⟨T, hT⟩ : ∃ T, T = plc c n := ⟨_, rfl⟩
  rw [← hT] at hmp hstep hsee hts hac ht hat hpls hst ⊢
  have hmn := hm.ok.hn
  refine ACall_of tt_ok (dok _) Try.func51 rfl (by decide) rfl ?_
  (repeat' ((conv => whnf); first | refine Then.mk ?_ | left | refine OpsA.cons ?_ | refine OpsA.nil ?_ | refine AWq.seq ?_ | refine AWq.region ?_ | refine AWq.cond ?_ | refine AWq.block ?_ | refine AWq.skip ?_ | refine AWq.scope ?_ | refine AWq.label ?_ | refine AWq.ret ?_ | refine AWq.exit ?_ | refine AWq.loop ?_ | refine DrawA.consD ?_ | refine DrawA.nil ?_ | refine DrawF.consD ?_ | refine DrawF.nil ?_ | refine AWq.draw (by decide +kernel) ?_ | (refine ACall.to (hac) ?_) | (apply Exists.intro; apply And.intro; exact hac) | (apply Exists.intro; apply Exists.intro; apply And.intro; exact hac) | (refine Both.mk ?_ ?_ <;> intro hc <;> (first | exact Bool.noConfusion hc | exact absurd (by with_reducible rfl) hc | exact (hc : False).elim | exact absurd (by assumption) hc | exact absurd hc (by assumption) | (exfalso; omega) | exact absurd hc (by decide) | skip)) | (intro c hc; (try (simp only [AH.none_iff] at hc; repeat (have hn := hc.1; replace hc := hc.2))); (first | (have hc2 := Eq.trans hc (by with_reducible assumption); clear hc; subst hc2) | (refine i64_k hc ?_ ?_ ?_ ; omega; omega; (clear hc; intro hc; subst hc)) | (refine u64_k hc ?_ ?_ ?_ ; omega; omega; (clear hc; intro hc; subst hc)) | (refine u8_k hc ?_ ?_ ?_ ; omega; omega; (clear hc; intro hc; subst hc)) | subst hc | skip)) | (apply Exists.intro; apply And.intro; (focus (repeat (first | assumption | exact AH.set_same _ _ _ | ((first | refine AH.get_ne ?_ ?_ | refine AH.getd_ne ?_ ?_); (first | assumption | omega | exact Ne.symm (by assumption) | exact AH.ne_none (by assumption) (by assumption) | exact AH.none_ne (by assumption) (by assumption) | exact (AH.none_set (by assumption)).1 | exact Ne.symm (AH.none_set (by assumption)).1)))); done)) | (apply Exists.intro; apply And.intro; first | (with_reducible assumption) | ((try simp only [List.getElem?_drop, Nat.mul_one, Nat.add_zero, Nat.zero_add]); first | (with_reducible assumption) | (refine u8s_get ?_; omega) | (refine iS_get ?_; omega) | assumption | rfl)) | (apply And.intro; (first | rfl | (with_reducible assumption) | exact Nat.le_of_ble_eq_true rfl | omega | (exact Int.ofNat_lt.2 (Nat.lt_of_lt_of_eq (by with_reducible assumption) (by decide +kernel))) | assumption | (simp <;> fail) | (simp <;> omega) | (focus (repeat' (first | exact one_u8s _ | exact one_iS _ _ | rfl | apply one_take | apply one_drop | apply one_append)); done))))) <;> (try (conv => whnf))
  refine AWp_loop (σ := Nat) (8 :: 9 :: 10 :: 11 :: 28 :: 29 :: 30 :: 31 :: 32 :: 33 :: 34 :: 35 :: 36 :: 37 :: 38 :: 39 :: 40 :: 41 :: 42 :: []) (fun i => [(28, .int .i64 i), (8, .int .i64 (plc c i : Nat)), (9, .int .i64 0)]) (fun i => G) (fun i => i ≤ s) (fun i => s - i) 0 rfl (Nat.zero_le _) ⟨rfl, rfl, rfl, trivial⟩ (HLe.refl _) ?_
  intro i hi
  refine AWp.of tt_ok (dok _) rfl ?_
  dsimp only at hi ⊢
  have hg := hcell i (by omega)
  have hci := hle i (by omega)
  have hpi := hpls i (by omega)
  have hps : plc c (i + 1) = plc c i + c i := rfl
  by_cases his : i = s
  · subst his
    rw [hps] at f3
    have hstep' := hstep
    generalize hp0 : plc c i = p0 at *
    generalize hc0 : c i = c0 at *
    (repeat' ((conv => whnf); first | refine AWq.drawM ([56], []) (by decide +kernel) ?_ | refine Then.mk ?_ | left | refine OpsA.cons ?_ | refine OpsA.nil ?_ | refine AWq.seq ?_ | refine AWq.region ?_ | refine AWq.cond ?_ | refine AWq.block ?_ | refine AWq.skip ?_ | refine AWq.scope ?_ | refine AWq.label ?_ | refine AWq.ret ?_ | refine AWq.exit ?_ | refine AWq.loop ?_ | refine DrawA.consD ?_ | refine DrawA.nil ?_ | refine DrawF.consD ?_ | refine DrawF.nil ?_ | refine AWq.draw (by decide +kernel) ?_ | (refine ACall.to (hstep) ?_) | (refine ACall.to (hsee) ?_) | (apply Exists.intro; apply And.intro; exact hstep) | (apply Exists.intro; apply And.intro; exact hsee) | (apply Exists.intro; apply Exists.intro; apply And.intro; exact hstep) | (apply Exists.intro; apply Exists.intro; apply And.intro; exact hsee) | (refine Both.mk ?_ ?_ <;> intro hc <;> (first | exact Bool.noConfusion hc | exact absurd (by with_reducible rfl) hc | exact (hc : False).elim | exact absurd (by assumption) hc | exact absurd hc (by assumption) | (exfalso; omega) | exact absurd hc (by decide) | skip)) | (intro c hc; (try (simp only [AH.none_iff] at hc; repeat (have hn := hc.1; replace hc := hc.2))); (first | (have hc2 := Eq.trans hc (by with_reducible assumption); clear hc; subst hc2) | (refine i64_k hc ?_ ?_ ?_ ; omega; omega; (clear hc; intro hc; subst hc)) | (refine u64_k hc ?_ ?_ ?_ ; omega; omega; (clear hc; intro hc; subst hc)) | (refine u8_k hc ?_ ?_ ?_ ; omega; omega; (clear hc; intro hc; subst hc)) | subst hc | skip)) | (apply Exists.intro; apply And.intro; (focus (repeat (first | assumption | exact AH.set_same _ _ _ | ((first | refine AH.get_ne ?_ ?_ | refine AH.getd_ne ?_ ?_); (first | assumption | omega | exact Ne.symm (by assumption) | exact AH.ne_none (by assumption) (by assumption) | exact AH.none_ne (by assumption) (by assumption) | exact (AH.none_set (by assumption)).1 | exact Ne.symm (AH.none_set (by assumption)).1)))); done)) | (apply Exists.intro; apply And.intro; first | (with_reducible assumption) | ((try simp only [List.getElem?_drop, Nat.mul_one, Nat.add_zero, Nat.zero_add]); first | (with_reducible assumption) | (refine u8s_get ?_; omega) | (refine iS_get ?_; omega) | assumption | rfl)) | (apply And.intro; (first | rfl | (with_reducible assumption) | exact Nat.le_of_ble_eq_true rfl | omega | (exact Int.ofNat_lt.2 (Nat.lt_of_lt_of_eq (by with_reducible assumption) (by decide +kernel))) | assumption | (simp <;> fail) | (simp <;> omega) | (focus (repeat' (first | exact one_u8s _ | exact one_iS _ _ | rfl | apply one_take | apply one_drop | apply one_append)); done))))) <;> (try (conv => whnf))
  · have hlt : plc c (i + 1) ≤ A := Nat.le_trans (plc_le (by omega)) f2
    have hA' : ¬ A < plc c i + c i := by rw [← hps]; omega
    generalize plc c i = p0 at *
    generalize c i = c0 at *
    (repeat' ((conv => whnf); first | refine Then.mk ?_ | left | refine OpsA.cons ?_ | refine OpsA.nil ?_ | refine AWq.seq ?_ | refine AWq.region ?_ | refine AWq.cond ?_ | refine AWq.block ?_ | refine AWq.skip ?_ | refine AWq.scope ?_ | refine AWq.label ?_ | refine AWq.ret ?_ | refine AWq.exit ?_ | refine AWq.loop ?_ | refine DrawA.consD ?_ | refine DrawA.nil ?_ | refine DrawF.consD ?_ | refine DrawF.nil ?_ | refine AWq.draw (by decide +kernel) ?_ | (refine Both.mk ?_ ?_ <;> intro hc <;> (first | exact Bool.noConfusion hc | exact absurd (by with_reducible rfl) hc | exact (hc : False).elim | exact absurd (by assumption) hc | exact absurd hc (by assumption) | (exfalso; omega) | exact absurd hc (by decide) | skip)) | (intro c hc; (try (simp only [AH.none_iff] at hc; repeat (have hn := hc.1; replace hc := hc.2))); (first | (have hc2 := Eq.trans hc (by with_reducible assumption); clear hc; subst hc2) | (refine i64_k hc ?_ ?_ ?_ ; omega; omega; (clear hc; intro hc; subst hc)) | (refine u64_k hc ?_ ?_ ?_ ; omega; omega; (clear hc; intro hc; subst hc)) | (refine u8_k hc ?_ ?_ ?_ ; omega; omega; (clear hc; intro hc; subst hc)) | subst hc | skip)) | (apply Exists.intro; apply And.intro; (focus (repeat (first | assumption | exact AH.set_same _ _ _ | ((first | refine AH.get_ne ?_ ?_ | refine AH.getd_ne ?_ ?_); (first | assumption | omega | exact Ne.symm (by assumption) | exact AH.ne_none (by assumption) (by assumption) | exact AH.none_ne (by assumption) (by assumption) | exact (AH.none_set (by assumption)).1 | exact Ne.symm (AH.none_set (by assumption)).1)))); done)) | (apply Exists.intro; apply And.intro; first | (with_reducible assumption) | ((try simp only [List.getElem?_drop, Nat.mul_one, Nat.add_zero, Nat.zero_add]); first | (with_reducible assumption) | (refine u8s_get ?_; omega) | (refine iS_get ?_; omega) | assumption | rfl)) | (apply And.intro; (first | rfl | (with_reducible assumption) | exact Nat.le_of_ble_eq_true rfl | omega | (exact Int.ofNat_lt.2 (Nat.lt_of_lt_of_eq (by with_reducible assumption) (by decide +kernel))) | assumption | (simp <;> fail) | (simp <;> omega) | (focus (repeat' (first | exact one_u8s _ | exact one_iS _ _ | rfl | apply one_take | apply one_drop | apply one_append)); done))))) <;> (try (conv => whnf))
    exact ⟨i + 1, by omega, by omega, ⟨congrArg (AV.int .i64) (by omega), congrArg (AV.int .i64) (by rw [hps]; omega), rfl, trivial⟩, HLe.refl _⟩
set_option maxRecDepth 8000 in
theorem rsymbol_bad {G : AH} {d ic bc p q n : Nat} {b : List UInt8} {σ : Cs} {c : Nat → Nat} (h : RdAt G d ic bc b σ) (hm : MdAt G p q n c) (hr : RdOk b σ) (hc : CsOk σ) (hn : 1 ≤ n) (hat : ¬ atR b σ (plc c n) < plc c n) :
    ACall Try.prog 51 [.ptr d 0 0, .ptr p 0 0] G (fun y H' => y = .tup [.int .i64 0, .bool false] ∧ H' = G) := by
  have ht := hm.ok.tot (s := 0) hn
  have hts := hm.ok.sum
  have hac := at_c h hr hc (plc c n) ht hts
  rw [decide_eq_false hat] at hac
  have hp := hm.hp
  refine ACall_of tt_ok (dok _) Try.func51 rfl (by decide) rfl ?_
  (repeat' ((conv => whnf); first | refine Then.mk ?_ | left | refine OpsA.cons ?_ | refine OpsA.nil ?_ | refine AWq.seq ?_ | refine AWq.region ?_ | refine AWq.cond ?_ | refine AWq.block ?_ | refine AWq.skip ?_ | refine AWq.scope ?_ | refine AWq.label ?_ | refine AWq.ret ?_ | refine AWq.exit ?_ | refine AWq.loop ?_ | refine DrawA.consD ?_ | refine DrawA.nil ?_ | refine AWq.draw (by decide +kernel) ?_ | (refine ACall.to (hac) ?_) | (apply Exists.intro; apply And.intro; exact hac) | (apply Exists.intro; apply Exists.intro; apply And.intro; exact hac) | (refine Both.mk ?_ ?_ <;> intro hc <;> (first | exact Bool.noConfusion hc | exact absurd (by with_reducible rfl) hc | exact (hc : False).elim | exact absurd (by assumption) hc | exact absurd hc (by assumption) | (exfalso; omega) | exact absurd hc (by decide) | skip)) | (intro c hc; (try (simp only [AH.none_iff] at hc; repeat (have hn := hc.1; replace hc := hc.2))); (first | (have hc2 := Eq.trans hc (by with_reducible assumption); clear hc; subst hc2) | (refine i64_k hc ?_ ?_ ?_ ; omega; omega; (clear hc; intro hc; subst hc)) | (refine u64_k hc ?_ ?_ ?_ ; omega; omega; (clear hc; intro hc; subst hc)) | (refine u8_k hc ?_ ?_ ?_ ; omega; omega; (clear hc; intro hc; subst hc)) | subst hc | skip)) | (apply Exists.intro; apply And.intro; (focus (repeat (first | assumption | exact AH.set_same _ _ _ | ((first | refine AH.get_ne ?_ ?_ | refine AH.getd_ne ?_ ?_); (first | assumption | omega | exact Ne.symm (by assumption) | exact AH.ne_none (by assumption) (by assumption) | exact AH.none_ne (by assumption) (by assumption) | exact (AH.none_set (by assumption)).1 | exact Ne.symm (AH.none_set (by assumption)).1)))); done)) | (apply Exists.intro; apply And.intro; first | (with_reducible assumption) | ((try simp only [List.getElem?_drop, Nat.mul_one, Nat.add_zero, Nat.zero_add]); first | (with_reducible assumption) | (refine u8s_get ?_; omega) | (refine iS_get ?_; omega) | assumption | rfl)) | (apply And.intro; (first | rfl | (with_reducible assumption) | exact Nat.le_of_ble_eq_true rfl | omega | (exact Int.ofNat_lt.2 (Nat.lt_of_lt_of_eq (by with_reducible assumption) (by decide +kernel))) | assumption | (simp <;> fail) | (simp <;> omega) | (focus (repeat' (first | exact one_u8s _ | exact one_iS _ _ | rfl | apply one_take | apply one_drop | apply one_append)); done))))) <;> (try (conv => whnf))
end Go.Proofs.Ytgmooalikccbiaa
