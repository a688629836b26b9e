/- For the law CoderInts, part 3 of 8: the frame of the walk, the walks of the functions, the plain law, the row. No conditions. -/
import Derived.Test.YtgmooalikccbiaaCoderIntsM2
import Derived.Test.YtgmooalikccbiaaProg
import Derived.KernelRfl
/- The types that the walks over this translation meet: a table, and that it tells of them what the translation tells. -/
namespace Go.Proofs.Ytgmooalikccbiaa
open Go.Fw
def tt : TT := [
  (3, ⟨.int .i64, 1, false, [.int .i64 0]⟩),
  (22, ⟨.slice 3 1 8 [.int .i64 0], 1, false, [.nils]⟩),
  (90, ⟨.struct [(0, 1, false), (1, 1, false)], 2, true, [.bool false, .nils]⟩),
  (78, ⟨.int .u64, 1, false, [.int .u64 0]⟩),
  (29, ⟨.slice 5 1 1 [.int .u8 0], 1, false, [.nils]⟩),
  (30, ⟨.int .i64, 1, false, [.int .i64 0]⟩),
  (4, ⟨.bool, 1, false, [.bool false]⟩),
  (27, ⟨.slice 22 1 24 [.nils], 1, false, [.nils]⟩),
  (98, ⟨.struct [(0, 1, false), (1, 1, false)], 2, true, [.int .u64 0, .int .u64 0]⟩),
  (5, ⟨.int .u8, 1, false, [.int .u8 0]⟩),
  (100, ⟨.struct [(0, 2, true), (2, 1, false)], 3, true, [.int .u64 0, .int .u64 0, .nils]⟩),
  (94, ⟨.struct [(0, 1, false), (1, 1, false)], 2, true, [.nils, .int .i64 0]⟩),
  (49, ⟨.ptr 94, 1, false, [.nilp]⟩),
  (109, ⟨.struct [(0, 2, true), (2, 1, false)], 3, true, [.int .u64 0, .int .u64 0, .nilf]⟩),
  (57, ⟨.struct [(0, 1, false)], 1, true, [.nils]⟩),
  (102, ⟨.struct [(0, 2, true), (2, 1, false), (3, 1, false)], 4, true, [.bool false, .nils, .int .i64 0, .int .i64 0]⟩),
  (28, ⟨.slice 27 1 24 [.nils], 1, false, [.nils]⟩),
  (44, ⟨.slice 29 1 24 [.nils], 1, false, [.nils]⟩),
  (87, ⟨.int .u64, 1, false, [.int .u64 0]⟩),
  (123, ⟨.int .u32, 1, false, [.int .u32 0]⟩),
  (52, ⟨.ptr 57, 1, false, [.nilp]⟩),
  (66, ⟨.slice 49 1 8 [.nilp], 1, false, [.nils]⟩),
  (61, ⟨.func, 1, false, [.nilf]⟩),
  (69, ⟨.ptr 100, 1, false, [.nilp]⟩),
  (75, ⟨.ptr 102, 1, false, [.nilp]⟩),
  (82, ⟨.ptr 109, 1, false, [.nilp]⟩),
  (73, ⟨.slice 52 1 8 [.nilp], 1, false, [.nils]⟩),
  (107, ⟨.func, 1, false, [.nilf]⟩),
  (9, ⟨.str, 1, false, [.str []]⟩)]
set_option maxRecDepth 100000 in
theorem tt_ok : TT.ok Try.prog tt = true := by kernel_rfl
theorem mo : Try.prog.follows .mixedOrders = true := by kernel_rfl
theorem dok (N : Nat) : DrawOk Try.prog tt N := drawOk_of tt_ok (by kernel_rfl) N
end Go.Proofs.Ytgmooalikccbiaa
/- The plain law of the wavelet: squares as functions. -/
namespace Go.Proofs.Ytgmooalikccbiaa
set_option linter.unusedVariables false
set_option linter.unusedSimpArgs false

abbrev Ln := Nat → Int
theorem place {s r c : Nat} (hr : r < s) (hc : c < s) : r * s + c < s * s ∧ (r * s + c) / s = r ∧ (r * s + c) % s = c := by
  have hs : 0 < s := by omega
  refine ⟨?_, ?_, ?_⟩
  · have : (r + 1) * s ≤ s * s := Nat.mul_le_mul_right _ hr
    rw [Nat.add_mul] at this; omega
  · rw [Nat.add_comm, Nat.add_mul_div_right _ _ hs, Nat.div_eq_of_lt hc]; omega
  · rw [Nat.add_comm, Nat.add_mul_mod_self_right, Nat.mod_eq_of_lt hc]
def lnL (n : Nat) (x : Ln) : List Int := (List.range n).map x
theorem lnL_len (n : Nat) (x : Ln) : (lnL n x).length = n := by simp [lnL]
theorem lnL_get {n c : Nat} (x : Ln) (h : c < n) : (lnL n x)[c]? = some (x c) := by simp [lnL, h]
theorem lnL_congr {n : Nat} {x y : Ln} (h : ∀ c, c < n → x c = y c) : lnL n x = lnL n y := List.map_congr_left fun c hc => h c (by simpa using hc)
theorem lnL_set {n c : Nat} (x : Ln) (h : c < n) (v : Int) : (lnL n x).set c v = lnL n (fun k => if k = c then v else x k) := by
  apply List.ext_getElem?
  intro p
  by_cases hp : p < n
  · rw [List.getElem?_set, lnL_get _ hp, lnL_get _ hp]
    by_cases e : c = p
    · subst e; simp [lnL_len, h]
    · rw [if_neg e, if_neg (fun h => e h.symm)]
  · rw [List.getElem?_eq_none (by rw [List.length_set, lnL_len]; omega), List.getElem?_eq_none (by rw [lnL_len]; omega)]

end Go.Proofs.Ytgmooalikccbiaa
/- The walks of package wavelet: lines. -/
namespace Go.Proofs.Ytgmooalikccbiaa
open Go.Fw Go
set_option linter.unusedVariables false
set_option linter.unusedSimpArgs false

def iL (n : Nat) (X : Ln) : List AV := iS .i64 (lnL n X)
@[simp] theorem iL_len (n : Nat) (X : Ln) : (iL n X).length = n := by simp [iL, lnL]
theorem iL_get {n i : Nat} (X : Ln) (h : i < n) : (iL n X)[i]? = some (.int .i64 (X i)) := by
  unfold iL iS
  rw [List.getElem?_map, lnL_get X h]; rfl
theorem iL_congr {n : Nat} {X Y : Ln} (h : ∀ c, c < n → X c = Y c) : iL n X = iL n Y := by unfold iL; rw [lnL_congr h]
theorem iL_zero (n : Nat) : (List.replicate n [AV.int .i64 0]).flatten = iL n (fun _ => 0) := by
  apply List.ext_getElem?
  intro i
  have : (List.replicate n [AV.int .i64 0]).flatten = List.replicate n (AV.int .i64 0) := by
    induction n with
    | zero => rfl
    | succ n ih => rw [List.replicate_succ, List.flatten_cons, ih, List.replicate_succ]; rfl
  rw [this]
  by_cases h : i < n
  · rw [iL_get _ h]; simp [h]
  · rw [List.getElem?_eq_none (by simp; omega), List.getElem?_eq_none (by rw [iL_len]; omega)]
theorem iS_wr {a : List Int} {k : Nat} {v : Int} (h : k < a.length) : wrA (iS .i64 a) k [.int .i64 v] = iS .i64 (a.set k v) := by
  unfold wrA
  rw [List.set_eq_take_append_cons_drop, if_pos h]
  simp [iS, List.map_take, List.map_drop]
theorem iL_wr {n c : Nat} (X : Ln) (h : c < n) (v : Int) : wrA (iL n X) c [.int .i64 v] = iL n (fun k => if k = c then v else X k) := by
  unfold iL
  rw [iS_wr (by rw [lnL_len]; exact h), lnL_set X h]

@[simp] theorem wrA_len (l : List AV) (k : Nat) (v : AV) : (wrA l k [v]).length = min k l.length + 1 + (l.length - (k + 1)) := by simp [wrA]; omega

end Go.Proofs.Ytgmooalikccbiaa
/- The walks of the reference's helpers: Around, Bound, Short, Few, Ints, SameInts, SameBytes; rows changed in one place. -/
namespace Go.Proofs.Ytgmooalikccbiaa
open Go.Fw Go
set_option linter.unusedVariables false
set_option linter.unusedSimpArgs false

set_option maxRecDepth 8000 in
theorem ints_c (l : List Int) (n : Nat) (h1 : n ≤ 1000000) (H : AH) : ACall Try.prog 19 [.cs (iS .i64 l) l.length, .int .i64 n] H (fun y H' => ∃ r, H r = none ∧ y = .sl r 0 1 0 (min l.length n) none ∧ H' = H.set r (.row (iS .i64 (l.take n)) 0)) := by
  refine ACall_of tt_ok (dok _) Try.func19 rfl (by decide) rfl ?_
  (repeat' ((conv => whnf); first | refine Then.mk ?_ | left | refine OpsA.cons ?_ | refine OpsA.nil ?_ | refine AWq.seq ?_ | refine AWq.region ?_ | refine AWq.cond ?_ | refine AWq.skip ?_ | refine AWq.ret ?_ | (refine Both.mk ?_ ?_ <;> intro hc <;> (first | exact Bool.noConfusion hc | exact absurd (by with_reducible rfl) hc | exact (hc : False).elim | exact absurd (by assumption) hc | exact absurd hc (by assumption) | (exfalso; omega) | exact absurd hc (by decide) | skip)) | (intro c hc; (try (simp only [AH.none_iff] at hc; repeat (have hn := hc.1; replace hc := hc.2))); (first | (have hc2 := Eq.trans hc (by with_reducible assumption); clear hc; subst hc2) | (refine i64_k hc ?_ ?_ ?_ ; omega; omega; (clear hc; intro hc; subst hc)) | (refine u64_k hc ?_ ?_ ?_ ; omega; omega; (clear hc; intro hc; subst hc)) | (refine u8_k hc ?_ ?_ ?_ ; omega; omega; (clear hc; intro hc; subst hc)) | subst hc | skip)) | (apply Exists.intro; apply And.intro; (focus (repeat (first | assumption | exact AH.set_same _ _ _ | ((first | refine AH.get_ne ?_ ?_ | refine AH.getd_ne ?_ ?_); (first | assumption | omega | exact Ne.symm (by assumption) | exact AH.ne_none (by assumption) (by assumption) | exact AH.none_ne (by assumption) (by assumption) | exact (AH.none_set (by assumption)).1 | exact Ne.symm (AH.none_set (by assumption)).1)))); done)) | (apply Exists.intro; apply And.intro; first | (with_reducible assumption) | ((try simp only [List.getElem?_drop, Nat.mul_one, Nat.add_zero, Nat.zero_add]); first | (with_reducible assumption) | (refine u8s_get ?_; omega) | (refine iS_get ?_; omega) | assumption | rfl)) | (apply And.intro; (first | rfl | (with_reducible assumption) | exact Nat.le_of_ble_eq_true rfl | omega | (exact Int.ofNat_lt.2 (Nat.lt_of_lt_of_eq (by with_reducible assumption) (by decide +kernel))) | assumption | (simp <;> fail) | (simp <;> omega) | (focus (repeat' (first | exact one_u8s _ | exact one_iS _ _ | rfl | apply one_take | apply one_drop | apply one_append)); done))))) <;> (try (conv => whnf))
  · rw [Nat.mul_one, iS_take, show (min (l.length : Int) n).toNat = min n l.length by omega, ← List.take_eq_take_min]

theorem ints_k (l : List Int) (n : Nat) (h1 : n ≤ 1000000) (H : AH) : ACall Try.prog 19 [.cs (iS .i64 l) l.length, .int .i64 n] H (fun y H' => y = .cs (iS .i64 (l.take n)) (l.take n).length ∧ H' = H) :=
  ACall.cold (es := 1) (by simp) ((ints_c l n h1 H).mono fun y H' ⟨r, hr, hy, hH⟩ => ⟨r, hr, 0, by rw [hy, List.length_take, Nat.min_comm], hH⟩)

set_option maxRecDepth 8000 in
theorem sameints_c (a b : List Int) (ha : a.length ≤ 1000000) (hb : b.length ≤ 1000000) (H : AH) :
    ACall Try.prog 24 [.cs (iS .i64 a) a.length, .cs (iS .i64 b) b.length] H (fun y H' => y = .bool (decide (a = b)) ∧ H' = H) := by
  refine ACall_of tt_ok (dok _) Try.func24 rfl (by decide) rfl ?_
  (repeat' ((conv => whnf); first | refine Then.mk ?_ | left | refine OpsA.cons ?_ | refine OpsA.nil ?_ | refine AWq.seq ?_ | refine AWq.region ?_ | refine AWq.cond ?_ | refine AWq.block ?_ | refine AWq.skip ?_ | refine AWq.ret ?_ | refine AWq.exit ?_ | refine AWq.loop ?_ | refine DrawA.consD ?_ | refine DrawA.nil ?_ | refine AWq.draw (by decide +kernel) ?_ | (refine Both.mk ?_ ?_ <;> intro hc <;> (first | exact Bool.noConfusion hc | exact absurd (by with_reducible rfl) hc | exact (hc : False).elim | exact absurd (by assumption) hc | exact absurd hc (by assumption) | (exfalso; omega) | exact absurd hc (by decide) | skip)) | (intro c hc; (try (simp only [AH.none_iff] at hc; repeat (have hn := hc.1; replace hc := hc.2))); (first | (have hc2 := Eq.trans hc (by with_reducible assumption); clear hc; subst hc2) | (refine i64_k hc ?_ ?_ ?_ ; omega; omega; (clear hc; intro hc; subst hc)) | (refine u64_k hc ?_ ?_ ?_ ; omega; omega; (clear hc; intro hc; subst hc)) | (refine u8_k hc ?_ ?_ ?_ ; omega; omega; (clear hc; intro hc; subst hc)) | subst hc | skip)) | (apply Exists.intro; apply And.intro; (focus (repeat (first | assumption | exact AH.set_same _ _ _ | ((first | refine AH.get_ne ?_ ?_ | refine AH.getd_ne ?_ ?_); (first | assumption | omega | exact Ne.symm (by assumption) | exact AH.ne_none (by assumption) (by assumption) | exact AH.none_ne (by assumption) (by assumption) | exact (AH.none_set (by assumption)).1 | exact Ne.symm (AH.none_set (by assumption)).1)))); done)) | (apply Exists.intro; apply And.intro; first | (with_reducible assumption) | ((try simp only [List.getElem?_drop, Nat.mul_one, Nat.add_zero, Nat.zero_add]); first | (with_reducible assumption) | (refine u8s_get ?_; omega) | (refine iS_get ?_; omega) | assumption | rfl)) | (apply And.intro; (first | rfl | (with_reducible assumption) | exact Nat.le_of_ble_eq_true rfl | omega | (exact Int.ofNat_lt.2 (Nat.lt_of_lt_of_eq (by with_reducible assumption) (by decide +kernel))) | assumption | (simp <;> fail) | (simp <;> omega) | (focus (repeat' (first | exact one_u8s _ | exact one_iS _ _ | rfl | apply one_take | apply one_drop | apply one_append)); done))))) <;> (try (conv => whnf))
  · rename_i hne
    have : a ≠ b := fun e => hne (by rw [e])
    exact ⟨by rw [decide_eq_false this], rfl⟩
  · rename_i hl
    refine AWp_loop (σ := Nat) (4 :: 5 :: 11 :: 12 :: 13 :: 14 :: 15 :: 16 :: 17 :: 18 :: 19 :: 20 :: 21 :: 22 :: 23 :: 24 :: 25 :: []) (fun j => [(5, .int .i64 j)]) (fun _ => H) (fun j => j ≤ a.length ∧ ∀ i, i < j → a.getD i 0 = b.getD i 0) (fun j => a.length - j) 0 rfl ?_ ?_ ?_ ?_
    · exact ⟨Nat.zero_le _, fun i hi => absurd hi (Nat.not_lt_zero _)⟩
    · exact ⟨rfl, trivial⟩
    · exact HLe.refl _
    · rintro j ⟨hj, hs⟩
      refine AWp.of tt_ok (dok _) rfl ?_
      (repeat' ((conv => whnf); first | refine Then.mk ?_ | left | refine OpsA.cons ?_ | refine OpsA.nil ?_ | refine AWq.seq ?_ | refine AWq.region ?_ | refine AWq.cond ?_ | refine AWq.block ?_ | refine AWq.skip ?_ | refine AWq.ret ?_ | refine AWq.exit ?_ | refine AWq.loop ?_ | refine DrawA.consD ?_ | refine DrawA.nil ?_ | refine AWq.draw (by decide +kernel) ?_ | (refine Both.mk ?_ ?_ <;> intro hc <;> (first | exact Bool.noConfusion hc | exact absurd (by with_reducible rfl) hc | exact (hc : False).elim | exact absurd (by assumption) hc | exact absurd hc (by assumption) | (exfalso; omega) | exact absurd hc (by decide) | skip)) | (intro c hc; (try (simp only [AH.none_iff] at hc; repeat (have hn := hc.1; replace hc := hc.2))); (first | (have hc2 := Eq.trans hc (by with_reducible assumption); clear hc; subst hc2) | (refine i64_k hc ?_ ?_ ?_ ; omega; omega; (clear hc; intro hc; subst hc)) | (refine u64_k hc ?_ ?_ ?_ ; omega; omega; (clear hc; intro hc; subst hc)) | (refine u8_k hc ?_ ?_ ?_ ; omega; omega; (clear hc; intro hc; subst hc)) | subst hc | skip)) | (apply Exists.intro; apply And.intro; (focus (repeat (first | assumption | exact AH.set_same _ _ _ | ((first | refine AH.get_ne ?_ ?_ | refine AH.getd_ne ?_ ?_); (first | assumption | omega | exact Ne.symm (by assumption) | exact AH.ne_none (by assumption) (by assumption) | exact AH.none_ne (by assumption) (by assumption) | exact (AH.none_set (by assumption)).1 | exact Ne.symm (AH.none_set (by assumption)).1)))); done)) | (apply Exists.intro; apply And.intro; first | (with_reducible assumption) | ((try simp only [List.getElem?_drop, Nat.mul_one, Nat.add_zero, Nat.zero_add]); first | (with_reducible assumption) | (refine u8s_get ?_; omega) | (refine iS_get ?_; omega) | assumption | rfl)) | (apply And.intro; (first | rfl | (with_reducible assumption) | exact Nat.le_of_ble_eq_true rfl | omega | (exact Int.ofNat_lt.2 (Nat.lt_of_lt_of_eq (by with_reducible assumption) (by decide +kernel))) | assumption | (simp <;> fail) | (simp <;> omega) | (focus (repeat' (first | exact one_u8s _ | exact one_iS _ _ | rfl | apply one_take | apply one_drop | apply one_append)); done))))) <;> (try (conv => whnf))
      · rename_i hd
        have : a ≠ b := fun e => hd (by rw [e])
        exact ⟨by rw [decide_eq_false this], rfl⟩
      · rename_i hd
        refine ⟨j + 1, ⟨by omega, fun i hi => ?_⟩, by omega, ⟨congrArg (AV.int .i64) (by omega), trivial⟩, HLe.refl _⟩
        by_cases h : i < j
        · exact hs i h
        · have : i = j := by omega
          rw [this]; simpa using hd
      · have : a = b := by
          apply List.ext_getElem (by omega)
          intro i h1 h2
          have := hs i (by omega)
          simpa [h1, h2] using this
        exact ⟨by rw [decide_eq_true this], rfl⟩

set_option maxRecDepth 8000 in
theorem samebytes_c (a b : List UInt8) (ha : a.length ≤ 1000000) (hb : b.length ≤ 1000000) (H : AH) :
    ACall Try.prog 17 [.cs (u8s a) a.length, .cs (u8s b) b.length] H (fun y H' => y = .bool (decide (a = b)) ∧ H' = H) := by
  refine ACall_of tt_ok (dok _) Try.func17 rfl (by decide) rfl ?_
  (repeat' ((conv => whnf); first | refine Then.mk ?_ | left | refine OpsA.cons ?_ | refine OpsA.nil ?_ | refine AWq.seq ?_ | refine AWq.region ?_ | refine AWq.cond ?_ | refine AWq.block ?_ | refine AWq.skip ?_ | refine AWq.ret ?_ | refine AWq.exit ?_ | refine AWq.loop ?_ | refine DrawA.consD ?_ | refine DrawA.nil ?_ | refine AWq.draw (by decide +kernel) ?_ | (refine Both.mk ?_ ?_ <;> intro hc <;> (first | exact Bool.noConfusion hc | exact absurd (by with_reducible rfl) hc | exact (hc : False).elim | exact absurd (by assumption) hc | exact absurd hc (by assumption) | (exfalso; omega) | exact absurd hc (by decide) | skip)) | (intro c hc; (try (simp only [AH.none_iff] at hc; repeat (have hn := hc.1; replace hc := hc.2))); (first | (have hc2 := Eq.trans hc (by with_reducible assumption); clear hc; subst hc2) | (refine i64_k hc ?_ ?_ ?_ ; omega; omega; (clear hc; intro hc; subst hc)) | (refine u64_k hc ?_ ?_ ?_ ; omega; omega; (clear hc; intro hc; subst hc)) | (refine u8_k hc ?_ ?_ ?_ ; omega; omega; (clear hc; intro hc; subst hc)) | subst hc | skip)) | (apply Exists.intro; apply And.intro; (focus (repeat (first | assumption | exact AH.set_same _ _ _ | ((first | refine AH.get_ne ?_ ?_ | refine AH.getd_ne ?_ ?_); (first | assumption | omega | exact Ne.symm (by assumption) | exact AH.ne_none (by assumption) (by assumption) | exact AH.none_ne (by assumption) (by assumption) | exact (AH.none_set (by assumption)).1 | exact Ne.symm (AH.none_set (by assumption)).1)))); done)) | (apply Exists.intro; apply And.intro; first | (with_reducible assumption) | ((try simp only [List.getElem?_drop, Nat.mul_one, Nat.add_zero, Nat.zero_add]); first | (with_reducible assumption) | (refine u8s_get ?_; omega) | (refine iS_get ?_; omega) | assumption | rfl)) | (apply And.intro; (first | rfl | (with_reducible assumption) | exact Nat.le_of_ble_eq_true rfl | omega | (exact Int.ofNat_lt.2 (Nat.lt_of_lt_of_eq (by with_reducible assumption) (by decide +kernel))) | assumption | (simp <;> fail) | (simp <;> omega) | (focus (repeat' (first | exact one_u8s _ | exact one_iS _ _ | rfl | apply one_take | apply one_drop | apply one_append)); done))))) <;> (try (conv => whnf))
  · rename_i hne
    have : a ≠ b := fun e => hne (by rw [e])
    exact ⟨by rw [decide_eq_false this], rfl⟩
  · rename_i hl
    refine AWp_loop (σ := Nat) (4 :: 5 :: 11 :: 12 :: 13 :: 14 :: 15 :: 16 :: 17 :: 18 :: 19 :: 20 :: 21 :: 22 :: 23 :: 24 :: 25 :: []) (fun j => [(5, .int .i64 j)]) (fun _ => H) (fun j => j ≤ a.length ∧ ∀ i, i < j → a.getD i 0 = b.getD i 0) (fun j => a.length - j) 0 rfl ?_ ?_ ?_ ?_
    · exact ⟨Nat.zero_le _, fun i hi => absurd hi (Nat.not_lt_zero _)⟩
    · exact ⟨rfl, trivial⟩
    · exact HLe.refl _
    · rintro j ⟨hj, hs⟩
      refine AWp.of tt_ok (dok _) rfl ?_
      (repeat' ((conv => whnf); first | refine Then.mk ?_ | left | refine OpsA.cons ?_ | refine OpsA.nil ?_ | refine AWq.seq ?_ | refine AWq.region ?_ | refine AWq.cond ?_ | refine AWq.block ?_ | refine AWq.skip ?_ | refine AWq.ret ?_ | refine AWq.exit ?_ | refine AWq.loop ?_ | refine DrawA.consD ?_ | refine DrawA.nil ?_ | refine AWq.draw (by decide +kernel) ?_ | (refine Both.mk ?_ ?_ <;> intro hc <;> (first | exact Bool.noConfusion hc | exact absurd (by with_reducible rfl) hc | exact (hc : False).elim | exact absurd (by assumption) hc | exact absurd hc (by assumption) | (exfalso; omega) | exact absurd hc (by decide) | skip)) | (intro c hc; (try (simp only [AH.none_iff] at hc; repeat (have hn := hc.1; replace hc := hc.2))); (first | (have hc2 := Eq.trans hc (by with_reducible assumption); clear hc; subst hc2) | (refine i64_k hc ?_ ?_ ?_ ; omega; omega; (clear hc; intro hc; subst hc)) | (refine u64_k hc ?_ ?_ ?_ ; omega; omega; (clear hc; intro hc; subst hc)) | (refine u8_k hc ?_ ?_ ?_ ; omega; omega; (clear hc; intro hc; subst hc)) | subst hc | skip)) | (apply Exists.intro; apply And.intro; (focus (repeat (first | assumption | exact AH.set_same _ _ _ | ((first | refine AH.get_ne ?_ ?_ | refine AH.getd_ne ?_ ?_); (first | assumption | omega | exact Ne.symm (by assumption) | exact AH.ne_none (by assumption) (by assumption) | exact AH.none_ne (by assumption) (by assumption) | exact (AH.none_set (by assumption)).1 | exact Ne.symm (AH.none_set (by assumption)).1)))); done)) | (apply Exists.intro; apply And.intro; first | (with_reducible assumption) | ((try simp only [List.getElem?_drop, Nat.mul_one, Nat.add_zero, Nat.zero_add]); first | (with_reducible assumption) | (refine u8s_get ?_; omega) | (refine iS_get ?_; omega) | assumption | rfl)) | (apply And.intro; (first | rfl | (with_reducible assumption) | exact Nat.le_of_ble_eq_true rfl | omega | (exact Int.ofNat_lt.2 (Nat.lt_of_lt_of_eq (by with_reducible assumption) (by decide +kernel))) | assumption | (simp <;> fail) | (simp <;> omega) | (focus (repeat' (first | exact one_u8s _ | exact one_iS _ _ | rfl | apply one_take | apply one_drop | apply one_append)); done))))) <;> (try (conv => whnf))
      · rename_i hd
        have : a ≠ b := fun e => hd (by rw [e])
        exact ⟨by rw [decide_eq_false this], rfl⟩
      · rename_i hd
        refine ⟨j + 1, ⟨by omega, fun i hi => ?_⟩, by omega, ⟨congrArg (AV.int .i64) (by omega), trivial⟩, HLe.refl _⟩
        by_cases h : i < j
        · exact hs i h
        · have : i = j := by omega
          rw [this]
          have h3 : (a.getD j 0).toNat = (b.getD j 0).toNat := by
            have hd : ¬ ((a.getD j 0).toNat : Int) ≠ (b.getD j 0).toNat := hd
            omega
          exact UInt8.toNat_inj.1 h3
      · have : a = b := by
          apply List.ext_getElem (by omega)
          intro i h1 h2
          have := hs i (by omega)
          simpa [h1, h2] using this
        exact ⟨by rw [decide_eq_true this], rfl⟩

theorem wr_u8s {a : List UInt8} {k : Nat} {v : UInt8} (h : k < a.length) : wrA (u8s a) k [.int .u8 v.toNat] = u8s (a.set k v) := by
  unfold wrA
  rw [List.set_eq_take_append_cons_drop, if_pos h]
  simp [u8s, List.map_take, List.map_drop]

def aro (n : Int) (m : Nat) : Nat := ((if n < 0 then -(n + 1) else n).tmod m).toNat
theorem aro_lt {n : Int} {m : Nat} (hm : 1 ≤ m) : aro n m < m := by
  unfold aro
  have hlt : ∀ x : Int, 0 ≤ x → x.tmod m < m := fun x h => Int.tmod_lt_of_pos _ (by omega)
  have := hlt (if n < 0 then -(n + 1) else n) (by split <;> omega)
  omega

set_option maxRecDepth 8000 in
theorem around_f (n : Int) (h1 : -9223372036854775808 ≤ n) (h2 : n ≤ 9223372036854775807) (m : Nat) (hm : 1 ≤ m) (hm2 : m ≤ 1000000) (H : AH) :
    ACall Try.prog 14 [.int .i64 n, .int .i64 m] H (fun y H' => y = .int .i64 (aro n m) ∧ H' = H) := by
  unfold aro
  by_cases hn : n < 0
  · have hp : 0 ≤ (-(n + 1)).tmod m := Int.tmod_nonneg _ (by omega)
    rw [if_pos hn, Int.toNat_of_nonneg hp]
    refine ACall_of tt_ok (dok _) Try.func14 rfl (by decide) rfl ?_
    (repeat' ((conv => whnf); first | refine Then.mk ?_ | left | refine OpsA.cons ?_ | refine OpsA.nil ?_ | refine AWq.seq ?_ | refine AWq.region ?_ | refine AWq.cond ?_ | refine AWq.skip ?_ | refine AWq.ret ?_ | (refine Both.mk ?_ ?_ <;> intro hc <;> (first | exact Bool.noConfusion hc | exact absurd (by with_reducible rfl) hc | exact (hc : False).elim | exact absurd (by assumption) hc | exact absurd hc (by assumption) | (exfalso; omega) | exact absurd hc (by decide) | skip)) | (intro c hc; (try (simp only [AH.none_iff] at hc; repeat (have hn := hc.1; replace hc := hc.2))); (first | (have hc2 := Eq.trans hc (by with_reducible assumption); clear hc; subst hc2) | (refine i64_k hc ?_ ?_ ?_ ; omega; omega; (clear hc; intro hc; subst hc)) | (refine u64_k hc ?_ ?_ ?_ ; omega; omega; (clear hc; intro hc; subst hc)) | (refine u8_k hc ?_ ?_ ?_ ; omega; omega; (clear hc; intro hc; subst hc)) | subst hc | skip)) | (apply Exists.intro; apply And.intro; (focus (repeat (first | assumption | exact AH.set_same _ _ _ | ((first | refine AH.get_ne ?_ ?_ | refine AH.getd_ne ?_ ?_); (first | assumption | omega | exact Ne.symm (by assumption) | exact AH.ne_none (by assumption) (by assumption) | exact AH.none_ne (by assumption) (by assumption) | exact (AH.none_set (by assumption)).1 | exact Ne.symm (AH.none_set (by assumption)).1)))); done)) | (apply Exists.intro; apply And.intro; first | (with_reducible assumption) | ((try simp only [List.getElem?_drop, Nat.mul_one, Nat.add_zero, Nat.zero_add]); first | (with_reducible assumption) | (refine u8s_get ?_; omega) | (refine iS_get ?_; omega) | assumption | rfl)) | (apply And.intro; (first | rfl | (with_reducible assumption) | exact Nat.le_of_ble_eq_true rfl | omega | (exact Int.ofNat_lt.2 (Nat.lt_of_lt_of_eq (by with_reducible assumption) (by decide +kernel))) | assumption | (simp <;> fail) | (simp <;> omega) | (focus (repeat' (first | exact one_u8s _ | exact one_iS _ _ | rfl | apply one_take | apply one_drop | apply one_append)); done))))) <;> (try (conv => whnf))
  · have hp : 0 ≤ n.tmod m := Int.tmod_nonneg _ (by omega)
    rw [if_neg hn, Int.toNat_of_nonneg hp]
    refine ACall_of tt_ok (dok _) Try.func14 rfl (by decide) rfl ?_
    (repeat' ((conv => whnf); first | refine Then.mk ?_ | left | refine OpsA.cons ?_ | refine OpsA.nil ?_ | refine AWq.seq ?_ | refine AWq.region ?_ | refine AWq.cond ?_ | refine AWq.skip ?_ | refine AWq.ret ?_ | (refine Both.mk ?_ ?_ <;> intro hc <;> (first | exact Bool.noConfusion hc | exact absurd (by with_reducible rfl) hc | exact (hc : False).elim | exact absurd (by assumption) hc | exact absurd hc (by assumption) | (exfalso; omega) | exact absurd hc (by decide) | skip)) | (intro c hc; (try (simp only [AH.none_iff] at hc; repeat (have hn := hc.1; replace hc := hc.2))); (first | (have hc2 := Eq.trans hc (by with_reducible assumption); clear hc; subst hc2) | (refine i64_k hc ?_ ?_ ?_ ; omega; omega; (clear hc; intro hc; subst hc)) | (refine u64_k hc ?_ ?_ ?_ ; omega; omega; (clear hc; intro hc; subst hc)) | (refine u8_k hc ?_ ?_ ?_ ; omega; omega; (clear hc; intro hc; subst hc)) | subst hc | skip)) | (apply Exists.intro; apply And.intro; (focus (repeat (first | assumption | exact AH.set_same _ _ _ | ((first | refine AH.get_ne ?_ ?_ | refine AH.getd_ne ?_ ?_); (first | assumption | omega | exact Ne.symm (by assumption) | exact AH.ne_none (by assumption) (by assumption) | exact AH.none_ne (by assumption) (by assumption) | exact (AH.none_set (by assumption)).1 | exact Ne.symm (AH.none_set (by assumption)).1)))); done)) | (apply Exists.intro; apply And.intro; first | (with_reducible assumption) | ((try simp only [List.getElem?_drop, Nat.mul_one, Nat.add_zero, Nat.zero_add]); first | (with_reducible assumption) | (refine u8s_get ?_; omega) | (refine iS_get ?_; omega) | assumption | rfl)) | (apply And.intro; (first | rfl | (with_reducible assumption) | exact Nat.le_of_ble_eq_true rfl | omega | (exact Int.ofNat_lt.2 (Nat.lt_of_lt_of_eq (by with_reducible assumption) (by decide +kernel))) | assumption | (simp <;> fail) | (simp <;> omega) | (focus (repeat' (first | exact one_u8s _ | exact one_iS _ _ | rfl | apply one_take | apply one_drop | apply one_append)); done))))) <;> (try (conv => whnf))

end Go.Proofs.Ytgmooalikccbiaa
/- The reference's integers: digits. -/
namespace Go.Proofs.Ytgmooalikccbiaa
open Go.Fw Go
set_option linter.unusedVariables false
set_option linter.unusedSimpArgs false

def dv : List Nat → Nat
  | [] => 0
  | d :: r => d + 10000 * dv r
def DOk (l : List Nat) : Prop := ∀ d ∈ l, d < 10000
def dg (n : Nat) : List Nat := if h : n = 0 then [] else n % 10000 :: dg (n / 10000)
termination_by n
decreasing_by omega
theorem dg_zero : dg 0 = [] := by rw [dg]; rfl
theorem dg_pos {n : Nat} (h : n ≠ 0) : dg n = n % 10000 :: dg (n / 10000) := by rw [dg, dif_neg h]
theorem dv_dg (n : Nat) : dv (dg n) = n := by
  induction n using Nat.strongRecOn with
  | _ n ih =>
    by_cases h : n = 0
    · rw [h, dg_zero]; rfl
    · rw [dg_pos h]
      show n % 10000 + 10000 * dv (dg (n / 10000)) = n
      rw [ih _ (by omega)]; omega
theorem dok_dg (n : Nat) : DOk (dg n) := by
  induction n using Nat.strongRecOn with
  | _ n ih =>
    by_cases h : n = 0
    · rw [h, dg_zero]; intro d hd; cases hd
    · rw [dg_pos h]
      intro d hd
      rcases List.mem_cons.1 hd with rfl | hd
      · exact Nat.mod_lt _ (by decide)
      · exact ih _ (by omega) d hd
theorem DOk.at {l : List Nat} (h : DOk l) (i : Nat) : l.getD i 0 < 10000 := by
  by_cases hi : i < l.length
  · have : l.getD i 0 = l[i] := by rw [List.getD_eq_getElem?_getD, List.getElem?_eq_getElem hi]; rfl
    rw [this]; exact h _ (List.getElem_mem hi)
  · rw [List.getD_eq_getElem?_getD, List.getElem?_eq_none (by omega)]; decide
theorem DOk.take {l : List Nat} (h : DOk l) (n : Nat) : DOk (l.take n) := fun d hd => h d (List.mem_of_mem_take hd)
theorem DOk.drop {l : List Nat} (h : DOk l) (n : Nat) : DOk (l.drop n) := fun d hd => h d (List.mem_of_mem_drop hd)
theorem DOk.app {a b : List Nat} (h : DOk a) (k : DOk b) : DOk (a ++ b) := fun d hd => (List.mem_append.1 hd).elim (h d) (k d)
theorem DOk.one {d : Nat} (h : d < 10000) : DOk [d] := fun x hx => by
  have : x = d := by simpa using hx
  omega
theorem DOk.nil : DOk [] := fun d hd => by cases hd
theorem dv_app (a b : List Nat) : dv (a ++ b) = dv a + 10000 ^ a.length * dv b := by
  induction a with
  | nil => simp [dv]
  | cons d r ih =>
    show d + 10000 * dv (r ++ b) = d + 10000 * dv r + 10000 ^ (r.length + 1) * dv b
    rw [ih, Nat.mul_add, Nat.pow_succ, Nat.mul_comm (10000 ^ r.length) 10000, Nat.mul_assoc]; omega
theorem dv_lt {l : List Nat} (h : DOk l) : dv l < 10000 ^ l.length := by
  induction l with
  | nil => decide
  | cons d r ih =>
    have h1 := ih fun x hx => h x (by simp [hx])
    have h2 := h d (by simp)
    show d + 10000 * dv r < 10000 ^ (r.length + 1)
    rw [Nat.pow_succ]; omega
theorem canon : ∀ {l : List Nat}, DOk l → (l.length = 0 ∨ l.getD (l.length - 1) 0 ≠ 0) → l = dg (dv l)
  | [], _, _ => dg_zero.symm
  | d :: r, h, hl => by
    have hr : DOk r := fun x hx => h x (by simp [hx])
    have hd := h d (by simp)
    have ih := canon (l := r) hr (by
      by_cases hz : r.length = 0
      · exact .inl hz
      · right
        rcases hl with hl | hl
        · simp at hl
        · obtain ⟨k, hk⟩ : ∃ k, r.length = k + 1 := ⟨r.length - 1, by omega⟩
          rw [List.length_cons, hk] at hl
          rw [hk]
          exact hl)
    have hv : dv (d :: r) = d + 10000 * dv r := rfl
    by_cases h0 : dv (d :: r) = 0
    · exfalso
      rw [hv] at h0
      have : dv r = 0 := by omega
      rw [this, dg_zero] at ih
      subst ih
      rcases hl with hl | hl
      · simp at hl
      · apply hl
        show d = 0
        omega
    · rw [dg_pos h0, hv, show (d + 10000 * dv r) % 10000 = d by omega, show (d + 10000 * dv r) / 10000 = dv r by omega, ← ih]
theorem dg_one {n : Nat} (h : n < 10000) (h0 : n ≠ 0) : dg n = [n] := by
  rw [dg_pos h0, show n % 10000 = n by omega, show n / 10000 = 0 by omega, dg_zero]
theorem dg_len {n k : Nat} (h : n < 10000 ^ k) : (dg n).length ≤ k := by
  induction k generalizing n with
  | zero => rw [show n = 0 by simpa using h, dg_zero]; exact Nat.le_refl _
  | succ k ih =>
    by_cases h0 : n = 0
    · rw [h0, dg_zero]; simp
    · rw [dg_pos h0, List.length_cons]
      have := ih (n := n / 10000) (by rw [Nat.div_lt_iff_lt_mul (by decide), ← Nat.pow_succ]; exact h)
      omega

/-- Digits as cells; an integer as a value. -/
def dA (l : List Nat) : List AV := l.map fun d => .int .i64 ((d : Nat) : Int)
@[simp] theorem dA_len (l : List Nat) : (dA l).length = l.length := by simp [dA]
theorem dA_get {l : List Nat} {i : Nat} (h : i < l.length) : (dA l)[i]? = some (.int .i64 (l.getD i 0 : Nat)) := by
  unfold dA
  rw [List.getElem?_map, List.getElem?_eq_getElem h, List.getD_eq_getElem?_getD, List.getElem?_eq_getElem h]; rfl
theorem dA_gi {l : List Nat} {i : Nat} (h : i < l.length) : (dA l)[(i : Int).toNat]? = some (.int .i64 (l.getD i 0 : Nat)) := dA_get h
theorem dA_take (l : List Nat) (n : Nat) : (dA l).take n = dA (l.take n) := by simp [dA, List.map_take]
theorem dA_snoc (l : List Nat) (d : Nat) : dA l ++ [.int .i64 (d : Nat)] = dA (l ++ [d]) := by simp [dA]
def nN (neg : Bool) (n : Nat) : AV := .agg [.bool (neg && !decide (n = 0)), .cs (dA (dg n)) (dg n).length]

theorem AVle.trans {a b c : AV} (h : AVle a b) (k : AVle b c) : AVle a c := fun κ F x hx => k κ F x (h κ F x hx)

set_option maxRecDepth 8000 in
theorem normal_c (neg : Bool) (l : List Nat) (hl : DOk l) (hll : l.length ≤ 1000000000) (H : AH) :
    ACall Try.prog 74 [.bool neg, .cs (dA l) l.length] H (fun y H' => y = nN neg (dv l) ∧ HLe H H') := by
  refine ACall_of tt_ok (dok _) Try.func74 rfl (by decide) rfl ?_
  (repeat' ((conv => whnf); first | refine Then.mk ?_ | left | refine OpsA.cons ?_ | refine OpsA.nil ?_ | refine AWq.seq ?_ | refine AWq.region ?_ | refine AWq.cond ?_ | refine AWq.block ?_ | refine AWq.skip ?_ | refine AWq.ret ?_ | refine AWq.exit ?_ | refine AWq.loop ?_ | (refine Both.mk ?_ ?_ <;> intro hc <;> (first | exact Bool.noConfusion hc | exact absurd (by with_reducible rfl) hc | exact (hc : False).elim | exact absurd (by assumption) hc | exact absurd hc (by assumption) | (exfalso; omega) | exact absurd hc (by decide) | skip)) | (intro c hc; (try (simp only [AH.none_iff] at hc; repeat (have hn := hc.1; replace hc := hc.2))); (first | (have hc2 := Eq.trans hc (by with_reducible assumption); clear hc; subst hc2) | (refine i64_k hc ?_ ?_ ?_ ; omega; omega; (clear hc; intro hc; subst hc)) | (refine u64_k hc ?_ ?_ ?_ ; omega; omega; (clear hc; intro hc; subst hc)) | (refine u8_k hc ?_ ?_ ?_ ; omega; omega; (clear hc; intro hc; subst hc)) | subst hc | skip)) | (apply Exists.intro; apply And.intro; (focus (repeat (first | assumption | exact AH.set_same _ _ _ | ((first | refine AH.get_ne ?_ ?_ | refine AH.getd_ne ?_ ?_); (first | assumption | omega | exact Ne.symm (by assumption) | exact AH.ne_none (by assumption) (by assumption) | exact AH.none_ne (by assumption) (by assumption) | exact (AH.none_set (by assumption)).1 | exact Ne.symm (AH.none_set (by assumption)).1)))); done)) | (apply Exists.intro; apply And.intro; first | (with_reducible assumption) | ((try simp only [List.getElem?_drop, Nat.mul_one, Nat.add_zero, Nat.zero_add]); first | (with_reducible assumption) | (refine u8s_get ?_; omega) | (refine iS_get ?_; omega) | assumption | rfl)) | (apply And.intro; (first | rfl | (with_reducible assumption) | exact Nat.le_of_ble_eq_true rfl | omega | (exact Int.ofNat_lt.2 (Nat.lt_of_lt_of_eq (by with_reducible assumption) (by decide +kernel))) | assumption | (simp <;> fail) | (simp <;> omega) | (focus (repeat' (first | exact one_u8s _ | exact one_iS _ _ | rfl | apply one_take | apply one_drop | apply one_append)); done))))) <;> (try (conv => whnf))
  have hcH : H c = none := by assumption
  refine AWp_loop (σ := Nat) (1 :: 5 :: 6 :: 7 :: 8 :: 9 :: 10 :: 11 :: 12 :: 13 :: 14 :: 15 :: 16 :: 17 :: 18 :: 19 :: 20 :: 21 :: []) (fun k => [(1, .cs (dA (l.take k)) k)]) (fun k => _) (fun k => k ≤ l.length ∧ dv (l.take k) = dv l) (fun k => k) l.length rfl ⟨Nat.le_refl _, by rw [List.take_length]⟩ ⟨by rw [List.take_length]; rfl, trivial⟩ (HLe.refl _) ?_
  rintro k ⟨hk, hv⟩
  refine AWp.of tt_ok (dok _) rfl ?_
  dsimp only at hk hv ⊢
  have htl : (l.take k).length = k := by rw [List.length_take]; omega
  have hdl : (dA (l.take k)).length = k * 1 := by simp [htl]
  have fin : (k = 0 ∨ (l.take k).getD (k - 1) 0 ≠ 0) → AV.agg [.bool (neg && !decide (k = 0)), .cs (dA (l.take k)) k] = nN neg (dv l) := fun h => by
    have hcn := canon (hl.take k) (by rw [htl]; exact h)
    rw [hv] at hcn
    have hz : k = 0 ↔ dv l = 0 := by
      rw [← htl, hcn]
      constructor
      · intro h0
        rw [List.length_eq_zero_iff] at h0
        have := dv_dg (dv l)
        rw [h0] at this
        exact this.symm
      · intro h0
        rw [h0, dg_zero]; rfl
    unfold nN
    rw [← hcn, htl]
    simp only [hz]
  by_cases h0 : k = 0
  · subst h0
    cases neg with
    | true =>
      (repeat' ((conv => whnf); first | refine Then.mk ?_ | left | refine OpsA.cons ?_ | refine OpsA.nil ?_ | refine AWq.seq ?_ | refine AWq.region ?_ | refine AWq.cond ?_ | refine AWq.block ?_ | refine AWq.skip ?_ | refine AWq.ret ?_ | refine AWq.exit ?_ | refine AWq.loop ?_ | (refine Both.mk ?_ ?_ <;> intro hc <;> (first | exact Bool.noConfusion hc | exact absurd (by with_reducible rfl) hc | exact (hc : False).elim | exact absurd (by assumption) hc | exact absurd hc (by assumption) | (exfalso; omega) | exact absurd hc (by decide) | skip)) | (intro c hc; (try (simp only [AH.none_iff] at hc; repeat (have hn := hc.1; replace hc := hc.2))); (first | (have hc2 := Eq.trans hc (by with_reducible assumption); clear hc; subst hc2) | (refine i64_k hc ?_ ?_ ?_ ; omega; omega; (clear hc; intro hc; subst hc)) | (refine u64_k hc ?_ ?_ ?_ ; omega; omega; (clear hc; intro hc; subst hc)) | (refine u8_k hc ?_ ?_ ?_ ; omega; omega; (clear hc; intro hc; subst hc)) | subst hc | skip)) | (apply Exists.intro; apply And.intro; (focus (repeat (first | assumption | exact AH.set_same _ _ _ | ((first | refine AH.get_ne ?_ ?_ | refine AH.getd_ne ?_ ?_); (first | assumption | omega | exact Ne.symm (by assumption) | exact AH.ne_none (by assumption) (by assumption) | exact AH.none_ne (by assumption) (by assumption) | exact (AH.none_set (by assumption)).1 | exact Ne.symm (AH.none_set (by assumption)).1)))); done)) | (apply Exists.intro; apply And.intro; first | (with_reducible assumption) | ((try simp only [List.getElem?_drop, Nat.mul_one, Nat.add_zero, Nat.zero_add]); first | (with_reducible assumption) | (refine u8s_get ?_; omega) | (refine iS_get ?_; omega) | assumption | rfl)) | (apply And.intro; (first | rfl | (with_reducible assumption) | exact Nat.le_of_ble_eq_true rfl | omega | (exact Int.ofNat_lt.2 (Nat.lt_of_lt_of_eq (by with_reducible assumption) (by decide +kernel))) | assumption | (simp <;> fail) | (simp <;> omega) | (focus (repeat' (first | exact one_u8s _ | exact one_iS _ _ | rfl | apply one_take | apply one_drop | apply one_append)); done))))) <;> (try (conv => whnf))
      exact ⟨fin (.inl rfl), HLe.set_of _ _ (HLe.fresh _ hcH) hcH⟩
    | false =>
      (repeat' ((conv => whnf); first | refine Then.mk ?_ | left | refine OpsA.cons ?_ | refine OpsA.nil ?_ | refine AWq.seq ?_ | refine AWq.region ?_ | refine AWq.cond ?_ | refine AWq.block ?_ | refine AWq.skip ?_ | refine AWq.ret ?_ | refine AWq.exit ?_ | refine AWq.loop ?_ | (refine Both.mk ?_ ?_ <;> intro hc <;> (first | exact Bool.noConfusion hc | exact absurd (by with_reducible rfl) hc | exact (hc : False).elim | exact absurd (by assumption) hc | exact absurd hc (by assumption) | (exfalso; omega) | exact absurd hc (by decide) | skip)) | (intro c hc; (try (simp only [AH.none_iff] at hc; repeat (have hn := hc.1; replace hc := hc.2))); (first | (have hc2 := Eq.trans hc (by with_reducible assumption); clear hc; subst hc2) | (refine i64_k hc ?_ ?_ ?_ ; omega; omega; (clear hc; intro hc; subst hc)) | (refine u64_k hc ?_ ?_ ?_ ; omega; omega; (clear hc; intro hc; subst hc)) | (refine u8_k hc ?_ ?_ ?_ ; omega; omega; (clear hc; intro hc; subst hc)) | subst hc | skip)) | (apply Exists.intro; apply And.intro; (focus (repeat (first | assumption | exact AH.set_same _ _ _ | ((first | refine AH.get_ne ?_ ?_ | refine AH.getd_ne ?_ ?_); (first | assumption | omega | exact Ne.symm (by assumption) | exact AH.ne_none (by assumption) (by assumption) | exact AH.none_ne (by assumption) (by assumption) | exact (AH.none_set (by assumption)).1 | exact Ne.symm (AH.none_set (by assumption)).1)))); done)) | (apply Exists.intro; apply And.intro; first | (with_reducible assumption) | ((try simp only [List.getElem?_drop, Nat.mul_one, Nat.add_zero, Nat.zero_add]); first | (with_reducible assumption) | (refine u8s_get ?_; omega) | (refine iS_get ?_; omega) | assumption | rfl)) | (apply And.intro; (first | rfl | (with_reducible assumption) | exact Nat.le_of_ble_eq_true rfl | omega | (exact Int.ofNat_lt.2 (Nat.lt_of_lt_of_eq (by with_reducible assumption) (by decide +kernel))) | assumption | (simp <;> fail) | (simp <;> omega) | (focus (repeat' (first | exact one_u8s _ | exact one_iS _ _ | rfl | apply one_take | apply one_drop | apply one_append)); done))))) <;> (try (conv => whnf))
      exact ⟨fin (.inl rfl), HLe.set_of _ _ (HLe.fresh _ hcH) hcH⟩
  · obtain ⟨j, rfl⟩ : ∃ j, k = j + 1 := ⟨k - 1, by omega⟩
    have hg : (dA (l.take (j + 1)))[((j + 1 : Nat) - 1 : Int).toNat]? = some (.int .i64 ((l.take (j + 1)).getD j 0 : Nat)) := by
      rw [show ((j + 1 : Nat) - 1 : Int).toNat = j by omega]; exact dA_get (by omega)
    by_cases hz : (l.take (j + 1)).getD j 0 = 0
    · have hvj : dv (l.take j) = dv l := by
        have e : l.take (j + 1) = l.take j ++ [(l.take (j + 1)).getD j 0] := by
          have hjl : j < l.length := by omega
          rw [List.take_add_one, List.getElem?_eq_getElem hjl, List.getD_eq_getElem?_getD, List.getElem?_append_right (by rw [List.length_take]; omega)]
          simp [List.length_take, Nat.min_eq_left (show j ≤ l.length by omega)]
        rw [hz] at e
        rw [e, dv_app] at hv
        rw [← hv]
        simp [dv]
      have htt : ∀ n : Nat, n = j → List.take (n * 1) (dA (l.take (j + 1))) = dA (l.take j) := fun n hn => by
        rw [hn, Nat.mul_one, dA_take, List.take_take, Nat.min_eq_left (by omega)]
      rw [hz] at hg
      (repeat' ((conv => whnf); first | refine Then.mk ?_ | left | refine OpsA.cons ?_ | refine OpsA.nil ?_ | refine AWq.seq ?_ | refine AWq.region ?_ | refine AWq.cond ?_ | refine AWq.block ?_ | refine AWq.skip ?_ | refine AWq.ret ?_ | refine AWq.exit ?_ | refine AWq.loop ?_ | (refine Both.mk ?_ ?_ <;> intro hc <;> (first | exact Bool.noConfusion hc | exact absurd (by with_reducible rfl) hc | exact (hc : False).elim | exact absurd (by assumption) hc | exact absurd hc (by assumption) | (exfalso; omega) | exact absurd hc (by decide) | skip)) | (intro c hc; (try (simp only [AH.none_iff] at hc; repeat (have hn := hc.1; replace hc := hc.2))); (first | (have hc2 := Eq.trans hc (by with_reducible assumption); clear hc; subst hc2) | (refine i64_k hc ?_ ?_ ?_ ; omega; omega; (clear hc; intro hc; subst hc)) | (refine u64_k hc ?_ ?_ ?_ ; omega; omega; (clear hc; intro hc; subst hc)) | (refine u8_k hc ?_ ?_ ?_ ; omega; omega; (clear hc; intro hc; subst hc)) | subst hc | skip)) | (apply Exists.intro; apply And.intro; (focus (repeat (first | assumption | exact AH.set_same _ _ _ | ((first | refine AH.get_ne ?_ ?_ | refine AH.getd_ne ?_ ?_); (first | assumption | omega | exact Ne.symm (by assumption) | exact AH.ne_none (by assumption) (by assumption) | exact AH.none_ne (by assumption) (by assumption) | exact (AH.none_set (by assumption)).1 | exact Ne.symm (AH.none_set (by assumption)).1)))); done)) | (apply Exists.intro; apply And.intro; first | (with_reducible assumption) | ((try simp only [List.getElem?_drop, Nat.mul_one, Nat.add_zero, Nat.zero_add]); first | (with_reducible assumption) | (refine u8s_get ?_; omega) | (refine iS_get ?_; omega) | assumption | rfl)) | (apply And.intro; (first | rfl | (with_reducible assumption) | exact Nat.le_of_ble_eq_true rfl | omega | (exact Int.ofNat_lt.2 (Nat.lt_of_lt_of_eq (by with_reducible assumption) (by decide +kernel))) | assumption | (simp <;> fail) | (simp <;> omega) | (focus (repeat' (first | exact one_u8s _ | exact one_iS _ _ | rfl | apply one_take | apply one_drop | apply one_append)); done))))) <;> (try (conv => whnf))
      refine ⟨j, ⟨by omega, hvj⟩, by omega, ⟨?_, trivial⟩, HLe.refl _⟩
      have e : ((j + 1 : Nat) - 1 : Int).toNat = j := by omega
      show AV.cs (List.take (((j + 1 : Nat) - 1 : Int).toNat * 1) (dA (l.take (j + 1)))) ((j + 1 : Nat) - 1 : Int).toNat = _
      rw [htt _ e, e]
    · have hz2 : (((l.take (j + 1)).getD j 0 : Nat) : Int) ≠ 0 := by omega
      have hf := fin (.inr hz)
      generalize (((l.take (j + 1)).getD j 0 : Nat) : Int) = z at *
      cases neg with
      | true =>
        (repeat' ((conv => whnf); first | refine Then.mk ?_ | left | refine OpsA.cons ?_ | refine OpsA.nil ?_ | refine AWq.seq ?_ | refine AWq.region ?_ | refine AWq.cond ?_ | refine AWq.block ?_ | refine AWq.skip ?_ | refine AWq.ret ?_ | refine AWq.exit ?_ | refine AWq.loop ?_ | (refine Both.mk ?_ ?_ <;> intro hc <;> (first | exact Bool.noConfusion hc | exact absurd (by with_reducible rfl) hc | exact (hc : False).elim | exact absurd (by assumption) hc | exact absurd hc (by assumption) | (exfalso; omega) | exact absurd hc (by decide) | skip)) | (intro c hc; (try (simp only [AH.none_iff] at hc; repeat (have hn := hc.1; replace hc := hc.2))); (first | (have hc2 := Eq.trans hc (by with_reducible assumption); clear hc; subst hc2) | (refine i64_k hc ?_ ?_ ?_ ; omega; omega; (clear hc; intro hc; subst hc)) | (refine u64_k hc ?_ ?_ ?_ ; omega; omega; (clear hc; intro hc; subst hc)) | (refine u8_k hc ?_ ?_ ?_ ; omega; omega; (clear hc; intro hc; subst hc)) | subst hc | skip)) | (apply Exists.intro; apply And.intro; (focus (repeat (first | assumption | exact AH.set_same _ _ _ | ((first | refine AH.get_ne ?_ ?_ | refine AH.getd_ne ?_ ?_); (first | assumption | omega | exact Ne.symm (by assumption) | exact AH.ne_none (by assumption) (by assumption) | exact AH.none_ne (by assumption) (by assumption) | exact (AH.none_set (by assumption)).1 | exact Ne.symm (AH.none_set (by assumption)).1)))); done)) | (apply Exists.intro; apply And.intro; first | (with_reducible assumption) | ((try simp only [List.getElem?_drop, Nat.mul_one, Nat.add_zero, Nat.zero_add]); first | (with_reducible assumption) | (refine u8s_get ?_; omega) | (refine iS_get ?_; omega) | assumption | rfl)) | (apply And.intro; (first | rfl | (with_reducible assumption) | exact Nat.le_of_ble_eq_true rfl | omega | (exact Int.ofNat_lt.2 (Nat.lt_of_lt_of_eq (by with_reducible assumption) (by decide +kernel))) | assumption | (simp <;> fail) | (simp <;> omega) | (focus (repeat' (first | exact one_u8s _ | exact one_iS _ _ | rfl | apply one_take | apply one_drop | apply one_append)); done))))) <;> (try (conv => whnf))
        exact HLe.set_of _ _ (HLe.fresh _ hcH) hcH
      | false =>
        (repeat' ((conv => whnf); first | refine Then.mk ?_ | left | refine OpsA.cons ?_ | refine OpsA.nil ?_ | refine AWq.seq ?_ | refine AWq.region ?_ | refine AWq.cond ?_ | refine AWq.block ?_ | refine AWq.skip ?_ | refine AWq.ret ?_ | refine AWq.exit ?_ | refine AWq.loop ?_ | (refine Both.mk ?_ ?_ <;> intro hc <;> (first | exact Bool.noConfusion hc | exact absurd (by with_reducible rfl) hc | exact (hc : False).elim | exact absurd (by assumption) hc | exact absurd hc (by assumption) | (exfalso; omega) | exact absurd hc (by decide) | skip)) | (intro c hc; (try (simp only [AH.none_iff] at hc; repeat (have hn := hc.1; replace hc := hc.2))); (first | (have hc2 := Eq.trans hc (by with_reducible assumption); clear hc; subst hc2) | (refine i64_k hc ?_ ?_ ?_ ; omega; omega; (clear hc; intro hc; subst hc)) | (refine u64_k hc ?_ ?_ ?_ ; omega; omega; (clear hc; intro hc; subst hc)) | (refine u8_k hc ?_ ?_ ?_ ; omega; omega; (clear hc; intro hc; subst hc)) | subst hc | skip)) | (apply Exists.intro; apply And.intro; (focus (repeat (first | assumption | exact AH.set_same _ _ _ | ((first | refine AH.get_ne ?_ ?_ | refine AH.getd_ne ?_ ?_); (first | assumption | omega | exact Ne.symm (by assumption) | exact AH.ne_none (by assumption) (by assumption) | exact AH.none_ne (by assumption) (by assumption) | exact (AH.none_set (by assumption)).1 | exact Ne.symm (AH.none_set (by assumption)).1)))); done)) | (apply Exists.intro; apply And.intro; first | (with_reducible assumption) | ((try simp only [List.getElem?_drop, Nat.mul_one, Nat.add_zero, Nat.zero_add]); first | (with_reducible assumption) | (refine u8s_get ?_; omega) | (refine iS_get ?_; omega) | assumption | rfl)) | (apply And.intro; (first | rfl | (with_reducible assumption) | exact Nat.le_of_ble_eq_true rfl | omega | (exact Int.ofNat_lt.2 (Nat.lt_of_lt_of_eq (by with_reducible assumption) (by decide +kernel))) | assumption | (simp <;> fail) | (simp <;> omega) | (focus (repeat' (first | exact one_u8s _ | exact one_iS _ _ | rfl | apply one_take | apply one_drop | apply one_append)); done))))) <;> (try (conv => whnf))
        exact HLe.set_of _ _ (HLe.fresh _ hcH) hcH

theorem normal_k (neg : Bool) (l : List Nat) (hl : DOk l) (hll : l.length ≤ 1000000000) (H : AH) :
    ACall Try.prog 74 [.bool neg, .cs (dA l) l.length] H (fun y H' => y = nN neg (dv l) ∧ H' = H) :=
  ACall.back (normal_c neg l hl hll H)

/-- The absolute value of a number. -/
def ab (n : Int) : Nat := n.natAbs
set_option maxRecDepth 8000 in
theorem of_c (n : Int) (hn : -9223372036854775808 ≤ n ∧ n ≤ 9223372036854775807) (H : AH) :
    ACall Try.prog 64 [.int .i64 n] H (fun y H' => y = nN (decide (n < 0)) (ab n) ∧ H' = H) := by
  refine ACall.back ?_
  obtain ⟨g, hg⟩ : ∃ g, g = decide (n < 0) := ⟨_, rfl⟩
  obtain ⟨N, hN⟩ : ∃ N, N = ab n := ⟨_, rfl⟩
  have hab : n = if g = true then -(N : Int) else N := by
    rw [hN, hg]; unfold ab
    by_cases h : n < 0
    · rw [if_pos (by simpa using h)]; omega
    · rw [if_neg (by simpa using h)]; omega
  have hNb : N ≤ 9223372036854775808 := by rw [hN]; unfold ab; omega
  have hgn : g = true ↔ n < 0 := by rw [hg]; simp
  rw [← hg, ← hN]
  refine ACall_of tt_ok (dok _) Try.func64 rfl (by decide) rfl ?_
  (repeat' ((conv => whnf); first | left | refine OpsA.cons ?_ | refine OpsA.nil ?_ | refine AWq.seq ?_ | refine AWq.region ?_ | refine AWq.cond ?_ | refine AWq.block ?_ | refine AWq.skip ?_ | refine AWq.ret ?_ | refine AWq.exit ?_ | refine AWq.loop ?_ | (refine Both.mk ?_ ?_ <;> intro hc <;> (first | exact Bool.noConfusion hc | exact absurd (by with_reducible rfl) hc | exact (hc : False).elim | exact absurd (by assumption) hc | exact absurd hc (by assumption) | (exfalso; omega) | exact absurd hc (by decide) | skip)) | (intro c hc; (try (simp only [AH.none_iff] at hc; repeat (have hn := hc.1; replace hc := hc.2))); (first | (have hc2 := Eq.trans hc (by with_reducible assumption); clear hc; subst hc2) | (refine i64_k hc ?_ ?_ ?_ ; omega; omega; (clear hc; intro hc; subst hc)) | (refine u64_k hc ?_ ?_ ?_ ; omega; omega; (clear hc; intro hc; subst hc)) | (refine u8_k hc ?_ ?_ ?_ ; omega; omega; (clear hc; intro hc; subst hc)) | subst hc | skip)) | (apply Exists.intro; apply And.intro; (focus (repeat (first | assumption | exact AH.set_same _ _ _ | ((first | refine AH.get_ne ?_ ?_ | refine AH.getd_ne ?_ ?_); (first | assumption | omega | exact Ne.symm (by assumption) | exact AH.ne_none (by assumption) (by assumption) | exact AH.none_ne (by assumption) (by assumption) | exact (AH.none_set (by assumption)).1 | exact Ne.symm (AH.none_set (by assumption)).1)))); done)) | (apply Exists.intro; apply And.intro; first | (with_reducible assumption) | ((try simp only [List.getElem?_drop, Nat.mul_one, Nat.add_zero, Nat.zero_add]); first | (with_reducible assumption) | (refine u8s_get ?_; omega) | (refine iS_get ?_; omega) | assumption | rfl)) | (apply And.intro; (first | rfl | (with_reducible assumption) | exact Nat.le_of_ble_eq_true rfl | omega | (exact Int.ofNat_lt.2 (Nat.lt_of_lt_of_eq (by with_reducible assumption) (by decide +kernel))) | assumption | (simp <;> fail) | (simp <;> omega) | (focus (repeat' (first | exact one_u8s _ | exact one_iS _ _ | rfl | apply one_take | apply one_drop | apply one_append)); done))))) <;> (try (conv => whnf))
  refine Then.mk ?_
  (repeat' ((conv => whnf); first | left | refine OpsA.cons ?_ | refine OpsA.nil ?_ | refine AWq.seq ?_ | refine AWq.region ?_ | refine AWq.cond ?_ | refine AWq.block ?_ | refine AWq.skip ?_ | refine AWq.ret ?_ | refine AWq.exit ?_ | refine AWq.loop ?_ | (refine Both.mk ?_ ?_ <;> intro hc <;> (first | exact Bool.noConfusion hc | exact absurd (by with_reducible rfl) hc | exact (hc : False).elim | exact absurd (by assumption) hc | exact absurd hc (by assumption) | (exfalso; omega) | exact absurd hc (by decide) | skip)) | (intro c hc; (try (simp only [AH.none_iff] at hc; repeat (have hn := hc.1; replace hc := hc.2))); (first | (have hc2 := Eq.trans hc (by with_reducible assumption); clear hc; subst hc2) | (refine i64_k hc ?_ ?_ ?_ ; omega; omega; (clear hc; intro hc; subst hc)) | (refine u64_k hc ?_ ?_ ?_ ; omega; omega; (clear hc; intro hc; subst hc)) | (refine u8_k hc ?_ ?_ ?_ ; omega; omega; (clear hc; intro hc; subst hc)) | subst hc | skip)) | (apply Exists.intro; apply And.intro; (focus (repeat (first | assumption | exact AH.set_same _ _ _ | ((first | refine AH.get_ne ?_ ?_ | refine AH.getd_ne ?_ ?_); (first | assumption | omega | exact Ne.symm (by assumption) | exact AH.ne_none (by assumption) (by assumption) | exact AH.none_ne (by assumption) (by assumption) | exact (AH.none_set (by assumption)).1 | exact Ne.symm (AH.none_set (by assumption)).1)))); done)) | (apply Exists.intro; apply And.intro; first | (with_reducible assumption) | ((try simp only [List.getElem?_drop, Nat.mul_one, Nat.add_zero, Nat.zero_add]); first | (with_reducible assumption) | (refine u8s_get ?_; omega) | (refine iS_get ?_; omega) | assumption | rfl)) | (apply And.intro; (first | rfl | (with_reducible assumption) | exact Nat.le_of_ble_eq_true rfl | omega | (exact Int.ofNat_lt.2 (Nat.lt_of_lt_of_eq (by with_reducible assumption) (by decide +kernel))) | assumption | (simp <;> fail) | (simp <;> omega) | (focus (repeat' (first | exact one_u8s _ | exact one_iS _ _ | rfl | apply one_take | apply one_drop | apply one_append)); done))))) <;> (try (conv => whnf))
  refine Then.mk (AWq.in ?_)
  have hcH : H c = none := by assumption
  refine AWp_nilrow1 3 1 rfl rfl fun r hr => ?_
  obtain ⟨hrc, hrH⟩ := AH.none_set hr
  have hBc : (AH.set H c (.row [.bool false, .nils] 0)) c = some (.row [.bool false, .nils] 0) := AH.set_same _ _ _
  have hBr : (AH.set H c (.row [.bool false, .nils] 0)) r = none := by rw [AH.set_ne _ _ hrc]; exact hrH
  have hBle : HLe H (AH.set H c (.row [.bool false, .nils] 0)) := HLe.fresh _ hcH
  have hcr := Ne.symm hrc
  show AWp _ _ _ _ _ _ _ _ _ ((AH.set H c (.row [.bool false, .nils] 0)).set r (.row [] 0))
  generalize (AH.set H c (.row [.bool false, .nils] 0)) = HB at *
  refine AWp.of tt_ok (dok _) rfl ?_
  cases g with
  | true =>
    have hneg := hgn.1 rfl
    rw [if_pos rfl] at hab
    (repeat' ((conv => whnf); first | refine Then.mk ?_ | left | refine OpsA.cons ?_ | refine OpsA.nil ?_ | refine AWq.seq ?_ | refine AWq.region ?_ | refine AWq.cond ?_ | refine AWq.block ?_ | refine AWq.skip ?_ | refine AWq.ret ?_ | refine AWq.exit ?_ | refine AWq.loop ?_ | (refine Both.mk ?_ ?_ <;> intro hc <;> (first | exact Bool.noConfusion hc | exact absurd (by with_reducible rfl) hc | exact (hc : False).elim | exact absurd (by assumption) hc | exact absurd hc (by assumption) | (exfalso; omega) | exact absurd hc (by decide) | skip)) | (intro c hc; (try (simp only [AH.none_iff] at hc; repeat (have hn := hc.1; replace hc := hc.2))); (first | (have hc2 := Eq.trans hc (by with_reducible assumption); clear hc; subst hc2) | (refine i64_k hc ?_ ?_ ?_ ; omega; omega; (clear hc; intro hc; subst hc)) | (refine u64_k hc ?_ ?_ ?_ ; omega; omega; (clear hc; intro hc; subst hc)) | (refine u8_k hc ?_ ?_ ?_ ; omega; omega; (clear hc; intro hc; subst hc)) | subst hc | skip)) | (apply Exists.intro; apply And.intro; (focus (repeat (first | assumption | exact AH.set_same _ _ _ | ((first | refine AH.get_ne ?_ ?_ | refine AH.getd_ne ?_ ?_); (first | assumption | omega | exact Ne.symm (by assumption) | exact AH.ne_none (by assumption) (by assumption) | exact AH.none_ne (by assumption) (by assumption) | exact (AH.none_set (by assumption)).1 | exact Ne.symm (AH.none_set (by assumption)).1)))); done)) | (apply Exists.intro; apply And.intro; first | (with_reducible assumption) | ((try simp only [List.getElem?_drop, Nat.mul_one, Nat.add_zero, Nat.zero_add]); first | (with_reducible assumption) | (refine u8s_get ?_; omega) | (refine iS_get ?_; omega) | assumption | rfl)) | (apply And.intro; (first | rfl | (with_reducible assumption) | exact Nat.le_of_ble_eq_true rfl | omega | (exact Int.ofNat_lt.2 (Nat.lt_of_lt_of_eq (by with_reducible assumption) (by decide +kernel))) | assumption | (simp <;> fail) | (simp <;> omega) | (focus (repeat' (first | exact one_u8s _ | exact one_iS _ _ | rfl | apply one_take | apply one_drop | apply one_append)); done))))) <;> (try (conv => whnf))
    refine AWp_loop (σ := List Nat × Nat) (0 :: 3 :: 5 :: 8 :: 9 :: 10 :: 11 :: 12 :: 13 :: 14 :: 15 :: 16 :: 17 :: 18 :: 19 :: 20 :: 21 :: []) (fun (ds, m) => [(0, .int .i64 (-(m : Int))), (3, .sl r ds.length 1 0 ds.length none)]) (fun (ds, m) => HB.set r (.row (dA ds) ds.length)) (fun (ds, m) => DOk ds ∧ dv ds + 10000 ^ ds.length * m = N ∧ ds.length ≤ 5) (fun (ds, m) => m) ([], N) rfl ⟨DOk.nil, by show 0 + 10000 ^ 0 * N = N; omega, by decide⟩ ⟨congrArg (AV.int .i64) (by first | exact hab | omega), rfl, trivial⟩ (HLe.refl _) ?_
    rintro ⟨ds, m⟩ ⟨h1, h2, h5⟩
    dsimp only at h1 h2 h5 ⊢
    refine AWp.of tt_ok (dok _) rfl ?_
    have kr : (HB.set r (.row (dA ds) ds.length)) r = some (.row (dA ds) ds.length) := AH.set_same _ _ _
    have kc : (HB.set r (.row (dA ds) ds.length)) c = some (.row [.bool false, .nils] 0) := by rw [AH.set_ne _ _ hcr]; exact hBc
    have hdl : (dA ds).length = ds.length * 1 := by simp
    have hl5 : m ≠ 0 → ds.length < 5 := fun hm => by
      refine (Nat.pow_lt_pow_iff_right (a := 10000) (by decide)).1 (Nat.lt_of_le_of_lt (m := N) ?_ (by omega))
      have : 10000 ^ ds.length * 1 ≤ 10000 ^ ds.length * m := Nat.mul_le_mul_left _ (by omega)
      omega
    have hmN : m ≤ N := by
      have : 1 * m ≤ 10000 ^ ds.length * m := Nat.mul_le_mul_right _ (Nat.pow_pos (by decide))
      omega
    have t1 : (-(m : Int)).tmod 10000 = -((m % 10000 : Nat) : Int) := by
      rw [Int.neg_tmod, Int.tmod_eq_emod_of_nonneg (by omega)]; omega
    have t2 : IntKind.i64.wrap ((-(m : Int)).tdiv 10000) = -((m / 10000 : Nat) : Int) := by
      rw [Int.neg_tdiv, Int.tdiv_eq_ediv_of_nonneg (by omega)]
      rw [IntKind.wrap_i64]; omega
    by_cases hm : m = 0
    · subst hm
      have hv : dv ds = N := by rw [Nat.mul_zero] at h2; omega
      have hds : ds.length ≤ 1000000000 := by omega
      (repeat' ((conv => whnf); first | left | refine OpsA.cons ?_ | refine OpsA.nil ?_ | refine AWq.seq ?_ | refine AWq.region ?_ | refine AWq.cond ?_ | refine AWq.block ?_ | refine AWq.skip ?_ | refine AWq.ret ?_ | refine AWq.exit ?_ | refine AWq.loop ?_ | (refine Both.mk ?_ ?_ <;> intro hc <;> (first | exact Bool.noConfusion hc | exact absurd (by with_reducible rfl) hc | exact (hc : False).elim | exact absurd (by assumption) hc | exact absurd hc (by assumption) | (exfalso; omega) | exact absurd hc (by decide) | skip)) | (intro c hc; (try (simp only [AH.none_iff] at hc; repeat (have hn := hc.1; replace hc := hc.2))); (first | (have hc2 := Eq.trans hc (by with_reducible assumption); clear hc; subst hc2) | (refine i64_k hc ?_ ?_ ?_ ; omega; omega; (clear hc; intro hc; subst hc)) | (refine u64_k hc ?_ ?_ ?_ ; omega; omega; (clear hc; intro hc; subst hc)) | (refine u8_k hc ?_ ?_ ?_ ; omega; omega; (clear hc; intro hc; subst hc)) | subst hc | skip)) | (apply Exists.intro; apply And.intro; (focus (repeat (first | assumption | exact AH.set_same _ _ _ | ((first | refine AH.get_ne ?_ ?_ | refine AH.getd_ne ?_ ?_); (first | assumption | omega | exact Ne.symm (by assumption) | exact AH.ne_none (by assumption) (by assumption) | exact AH.none_ne (by assumption) (by assumption) | exact (AH.none_set (by assumption)).1 | exact Ne.symm (AH.none_set (by assumption)).1)))); done)) | (apply Exists.intro; apply And.intro; first | (with_reducible assumption) | ((try simp only [List.getElem?_drop, Nat.mul_one, Nat.add_zero, Nat.zero_add]); first | (with_reducible assumption) | (refine u8s_get ?_; omega) | (refine iS_get ?_; omega) | assumption | rfl)) | (apply And.intro; (first | rfl | (with_reducible assumption) | exact Nat.le_of_ble_eq_true rfl | omega | (exact Int.ofNat_lt.2 (Nat.lt_of_lt_of_eq (by with_reducible assumption) (by decide +kernel))) | assumption | (simp <;> fail) | (simp <;> omega) | (focus (repeat' (first | exact one_u8s _ | exact one_iS _ _ | rfl | apply one_take | apply one_drop | apply one_append)); done))))) <;> (try (conv => whnf))
      refine Then.mk (AWq.in ?_)
      refine AWp_freeze1 (r := r) (v := ds.length) (es := 1) (n := ds.length) (lim := none) (cells := dA ds) 3 rfl rfl kr hdl ?_
      have hn2 := fun H => normal_k true ds h1 hds H
      rw [hv] at hn2
      rw [AH.del_set _ _ _ hBr]
      refine AWp.of tt_ok (dok _) rfl ?_
      (repeat' ((conv => whnf); first | refine Then.mk ?_ | left | refine OpsA.cons ?_ | refine OpsA.nil ?_ | refine AWq.seq ?_ | refine AWq.region ?_ | refine AWq.cond ?_ | refine AWq.block ?_ | refine AWq.skip ?_ | refine AWq.ret ?_ | refine AWq.exit ?_ | refine AWq.loop ?_ | (refine ACall.to (hn2 _) ?_) | (refine Both.mk ?_ ?_ <;> intro hc <;> (first | exact Bool.noConfusion hc | exact absurd (by with_reducible rfl) hc | exact (hc : False).elim | exact absurd (by assumption) hc | exact absurd hc (by assumption) | (exfalso; omega) | exact absurd hc (by decide) | skip)) | (intro c hc; (try (simp only [AH.none_iff] at hc; repeat (have hn := hc.1; replace hc := hc.2))); (first | (have hc2 := Eq.trans hc (by with_reducible assumption); clear hc; subst hc2) | (refine i64_k hc ?_ ?_ ?_ ; omega; omega; (clear hc; intro hc; subst hc)) | (refine u64_k hc ?_ ?_ ?_ ; omega; omega; (clear hc; intro hc; subst hc)) | (refine u8_k hc ?_ ?_ ?_ ; omega; omega; (clear hc; intro hc; subst hc)) | subst hc | skip)) | (apply Exists.intro; apply And.intro; (focus (repeat (first | assumption | exact AH.set_same _ _ _ | ((first | refine AH.get_ne ?_ ?_ | refine AH.getd_ne ?_ ?_); (first | assumption | omega | exact Ne.symm (by assumption) | exact AH.ne_none (by assumption) (by assumption) | exact AH.none_ne (by assumption) (by assumption) | exact (AH.none_set (by assumption)).1 | exact Ne.symm (AH.none_set (by assumption)).1)))); done)) | (apply Exists.intro; apply And.intro; first | (with_reducible assumption) | ((try simp only [List.getElem?_drop, Nat.mul_one, Nat.add_zero, Nat.zero_add]); first | (with_reducible assumption) | (refine u8s_get ?_; omega) | (refine iS_get ?_; omega) | assumption | rfl)) | (apply And.intro; (first | rfl | (with_reducible assumption) | exact Nat.le_of_ble_eq_true rfl | omega | (exact Int.ofNat_lt.2 (Nat.lt_of_lt_of_eq (by with_reducible assumption) (by decide +kernel))) | assumption | (simp <;> fail) | (simp <;> omega) | (focus (repeat' (first | exact one_u8s _ | exact one_iS _ _ | rfl | apply one_take | apply one_drop | apply one_append)); done))))) <;> (try (conv => whnf))
      exact HLe.set_of _ _ hBle hcH
    · have hl5 := hl5 hm
      have hfin : ∀ Z : Int, Z = (m % 10000 : Nat) → HLe (HB.set r (.row (dA (ds ++ [m % 10000])) (ds ++ [m % 10000]).length)) ((HB.set r (.row (dA ds) ds.length)).set r (.row (dA ds ++ [.int .i64 Z]) (ds.length + 1))) := fun Z hZ => by
        rw [hZ, dA_snoc, AH.set_set, List.length_append, List.length_singleton]
        exact HLe.refl _
      have hnx : DOk (ds ++ [m % 10000]) ∧ dv (ds ++ [m % 10000]) + 10000 ^ (ds ++ [m % 10000]).length * (m / 10000) = N ∧ (ds ++ [m % 10000]).length ≤ 5 := by
        refine ⟨h1.app (DOk.one (Nat.mod_lt _ (by decide))), ?_, by rw [List.length_append, List.length_singleton]; omega⟩
        rw [dv_app, List.length_append, List.length_singleton, Nat.pow_succ, Nat.mul_assoc, Nat.add_assoc, ← Nat.mul_add]
        have : dv [m % 10000] + 10000 * (m / 10000) = m := by show m % 10000 + 10000 * 0 + _ = m; omega
        rw [this]; exact h2
      have hsl : AV.sl r (ds.length + 1) 1 0 (ds.length + 1) none = AV.sl r (ds ++ [m % 10000]).length 1 0 (ds ++ [m % 10000]).length none := by rw [List.length_append, List.length_singleton]
      have hlt : m / 10000 < m := by omega
      have hx10 : m % 10000 < 10000 := Nat.mod_lt _ (by decide)
      generalize m % 10000 = x at *
      generalize hG : (HB.set r (.row (dA ds) ds.length)) = G at *
      by_cases hx0 : x = 0
      · (repeat' ((conv => whnf); first | refine Then.mk ?_ | left | refine OpsA.cons ?_ | refine OpsA.nil ?_ | refine AWq.seq ?_ | refine AWq.region ?_ | refine AWq.cond ?_ | refine AWq.block ?_ | refine AWq.skip ?_ | refine AWq.ret ?_ | refine AWq.exit ?_ | refine AWq.loop ?_ | (refine Both.mk ?_ ?_ <;> intro hc <;> (first | exact Bool.noConfusion hc | exact absurd (by with_reducible rfl) hc | exact (hc : False).elim | exact absurd (by assumption) hc | exact absurd hc (by assumption) | (exfalso; omega) | exact absurd hc (by decide) | skip)) | (intro c hc; (try (simp only [AH.none_iff] at hc; repeat (have hn := hc.1; replace hc := hc.2))); (first | (have hc2 := Eq.trans hc (by with_reducible assumption); clear hc; subst hc2) | (refine i64_k hc ?_ ?_ ?_ ; omega; omega; (clear hc; intro hc; subst hc)) | (refine u64_k hc ?_ ?_ ?_ ; omega; omega; (clear hc; intro hc; subst hc)) | (refine u8_k hc ?_ ?_ ?_ ; omega; omega; (clear hc; intro hc; subst hc)) | subst hc | skip)) | (apply Exists.intro; apply And.intro; (focus (repeat (first | assumption | exact AH.set_same _ _ _ | ((first | refine AH.get_ne ?_ ?_ | refine AH.getd_ne ?_ ?_); (first | assumption | omega | exact Ne.symm (by assumption) | exact AH.ne_none (by assumption) (by assumption) | exact AH.none_ne (by assumption) (by assumption) | exact (AH.none_set (by assumption)).1 | exact Ne.symm (AH.none_set (by assumption)).1)))); done)) | (apply Exists.intro; apply And.intro; first | (with_reducible assumption) | ((try simp only [List.getElem?_drop, Nat.mul_one, Nat.add_zero, Nat.zero_add]); first | (with_reducible assumption) | (refine u8s_get ?_; omega) | (refine iS_get ?_; omega) | assumption | rfl)) | (apply And.intro; (first | rfl | (with_reducible assumption) | exact Nat.le_of_ble_eq_true rfl | omega | (exact Int.ofNat_lt.2 (Nat.lt_of_lt_of_eq (by with_reducible assumption) (by decide +kernel))) | assumption | (simp <;> fail) | (simp <;> omega) | (focus (repeat' (first | exact one_u8s _ | exact one_iS _ _ | rfl | apply one_take | apply one_drop | apply one_append)); done))))) <;> (try (conv => whnf))
        exact ⟨(ds ++ [x], m / 10000), hnx, hlt, ⟨rfl, hsl, trivial⟩, hfin _ (by omega)⟩
      · (repeat' ((conv => whnf); first | refine Then.mk ?_ | left | refine OpsA.cons ?_ | refine OpsA.nil ?_ | refine AWq.seq ?_ | refine AWq.region ?_ | refine AWq.cond ?_ | refine AWq.block ?_ | refine AWq.skip ?_ | refine AWq.ret ?_ | refine AWq.exit ?_ | refine AWq.loop ?_ | (refine Both.mk ?_ ?_ <;> intro hc <;> (first | exact Bool.noConfusion hc | exact absurd (by with_reducible rfl) hc | exact (hc : False).elim | exact absurd (by assumption) hc | exact absurd hc (by assumption) | (exfalso; omega) | exact absurd hc (by decide) | skip)) | (intro c hc; (try (simp only [AH.none_iff] at hc; repeat (have hn := hc.1; replace hc := hc.2))); (first | (have hc2 := Eq.trans hc (by with_reducible assumption); clear hc; subst hc2) | (refine i64_k hc ?_ ?_ ?_ ; omega; omega; (clear hc; intro hc; subst hc)) | (refine u64_k hc ?_ ?_ ?_ ; omega; omega; (clear hc; intro hc; subst hc)) | (refine u8_k hc ?_ ?_ ?_ ; omega; omega; (clear hc; intro hc; subst hc)) | subst hc | skip)) | (apply Exists.intro; apply And.intro; (focus (repeat (first | assumption | exact AH.set_same _ _ _ | ((first | refine AH.get_ne ?_ ?_ | refine AH.getd_ne ?_ ?_); (first | assumption | omega | exact Ne.symm (by assumption) | exact AH.ne_none (by assumption) (by assumption) | exact AH.none_ne (by assumption) (by assumption) | exact (AH.none_set (by assumption)).1 | exact Ne.symm (AH.none_set (by assumption)).1)))); done)) | (apply Exists.intro; apply And.intro; first | (with_reducible assumption) | ((try simp only [List.getElem?_drop, Nat.mul_one, Nat.add_zero, Nat.zero_add]); first | (with_reducible assumption) | (refine u8s_get ?_; omega) | (refine iS_get ?_; omega) | assumption | rfl)) | (apply And.intro; (first | rfl | (with_reducible assumption) | exact Nat.le_of_ble_eq_true rfl | omega | (exact Int.ofNat_lt.2 (Nat.lt_of_lt_of_eq (by with_reducible assumption) (by decide +kernel))) | assumption | (simp <;> fail) | (simp <;> omega) | (focus (repeat' (first | exact one_u8s _ | exact one_iS _ _ | rfl | apply one_take | apply one_drop | apply one_append)); done))))) <;> (try (conv => whnf))
        exact ⟨(ds ++ [x], m / 10000), hnx, hlt, ⟨rfl, hsl, trivial⟩, hfin _ (by omega)⟩
  | false =>
    have hneg : ¬ n < 0 := fun h => by have := hgn.2 h; cases this
    rw [if_neg (by decide)] at hab
    (repeat' ((conv => whnf); first | refine Then.mk ?_ | left | refine OpsA.cons ?_ | refine OpsA.nil ?_ | refine AWq.seq ?_ | refine AWq.region ?_ | refine AWq.cond ?_ | refine AWq.block ?_ | refine AWq.skip ?_ | refine AWq.ret ?_ | refine AWq.exit ?_ | refine AWq.loop ?_ | (refine Both.mk ?_ ?_ <;> intro hc <;> (first | exact Bool.noConfusion hc | exact absurd (by with_reducible rfl) hc | exact (hc : False).elim | exact absurd (by assumption) hc | exact absurd hc (by assumption) | (exfalso; omega) | exact absurd hc (by decide) | skip)) | (intro c hc; (try (simp only [AH.none_iff] at hc; repeat (have hn := hc.1; replace hc := hc.2))); (first | (have hc2 := Eq.trans hc (by with_reducible assumption); clear hc; subst hc2) | (refine i64_k hc ?_ ?_ ?_ ; omega; omega; (clear hc; intro hc; subst hc)) | (refine u64_k hc ?_ ?_ ?_ ; omega; omega; (clear hc; intro hc; subst hc)) | (refine u8_k hc ?_ ?_ ?_ ; omega; omega; (clear hc; intro hc; subst hc)) | subst hc | skip)) | (apply Exists.intro; apply And.intro; (focus (repeat (first | assumption | exact AH.set_same _ _ _ | ((first | refine AH.get_ne ?_ ?_ | refine AH.getd_ne ?_ ?_); (first | assumption | omega | exact Ne.symm (by assumption) | exact AH.ne_none (by assumption) (by assumption) | exact AH.none_ne (by assumption) (by assumption) | exact (AH.none_set (by assumption)).1 | exact Ne.symm (AH.none_set (by assumption)).1)))); done)) | (apply Exists.intro; apply And.intro; first | (with_reducible assumption) | ((try simp only [List.getElem?_drop, Nat.mul_one, Nat.add_zero, Nat.zero_add]); first | (with_reducible assumption) | (refine u8s_get ?_; omega) | (refine iS_get ?_; omega) | assumption | rfl)) | (apply And.intro; (first | rfl | (with_reducible assumption) | exact Nat.le_of_ble_eq_true rfl | omega | (exact Int.ofNat_lt.2 (Nat.lt_of_lt_of_eq (by with_reducible assumption) (by decide +kernel))) | assumption | (simp <;> fail) | (simp <;> omega) | (focus (repeat' (first | exact one_u8s _ | exact one_iS _ _ | rfl | apply one_take | apply one_drop | apply one_append)); done))))) <;> (try (conv => whnf))
    refine AWp_loop (σ := List Nat × Nat) (0 :: 3 :: 5 :: 8 :: 9 :: 10 :: 11 :: 12 :: 13 :: 14 :: 15 :: 16 :: 17 :: 18 :: 19 :: 20 :: 21 :: []) (fun (ds, m) => [(0, .int .i64 ((m : Int))), (3, .sl r ds.length 1 0 ds.length none)]) (fun (ds, m) => HB.set r (.row (dA ds) ds.length)) (fun (ds, m) => DOk ds ∧ dv ds + 10000 ^ ds.length * m = N ∧ ds.length ≤ 5) (fun (ds, m) => m) ([], N) rfl ⟨DOk.nil, by show 0 + 10000 ^ 0 * N = N; omega, by decide⟩ ⟨congrArg (AV.int .i64) (by first | exact hab | omega), rfl, trivial⟩ (HLe.refl _) ?_
    rintro ⟨ds, m⟩ ⟨h1, h2, h5⟩
    dsimp only at h1 h2 h5 ⊢
    refine AWp.of tt_ok (dok _) rfl ?_
    have kr : (HB.set r (.row (dA ds) ds.length)) r = some (.row (dA ds) ds.length) := AH.set_same _ _ _
    have kc : (HB.set r (.row (dA ds) ds.length)) c = some (.row [.bool false, .nils] 0) := by rw [AH.set_ne _ _ hcr]; exact hBc
    have hdl : (dA ds).length = ds.length * 1 := by simp
    have hl5 : m ≠ 0 → ds.length < 5 := fun hm => by
      refine (Nat.pow_lt_pow_iff_right (a := 10000) (by decide)).1 (Nat.lt_of_le_of_lt (m := N) ?_ (by omega))
      have : 10000 ^ ds.length * 1 ≤ 10000 ^ ds.length * m := Nat.mul_le_mul_left _ (by omega)
      omega
    have hmN : m ≤ N := by
      have : 1 * m ≤ 10000 ^ ds.length * m := Nat.mul_le_mul_right _ (Nat.pow_pos (by decide))
      omega
    have t1 : ((m : Int)).tmod 10000 = ((m % 10000 : Nat) : Int) := by
      rw [Int.tmod_eq_emod_of_nonneg (by omega)]; omega
    have t2 : IntKind.i64.wrap (((m : Int)).tdiv 10000) = ((m / 10000 : Nat) : Int) := by
      rw [Int.tdiv_eq_ediv_of_nonneg (by omega)]
      rw [IntKind.wrap_i64]; omega
    by_cases hm : m = 0
    · subst hm
      have hv : dv ds = N := by rw [Nat.mul_zero] at h2; omega
      have hds : ds.length ≤ 1000000000 := by omega
      (repeat' ((conv => whnf); first | left | refine OpsA.cons ?_ | refine OpsA.nil ?_ | refine AWq.seq ?_ | refine AWq.region ?_ | refine AWq.cond ?_ | refine AWq.block ?_ | refine AWq.skip ?_ | refine AWq.ret ?_ | refine AWq.exit ?_ | refine AWq.loop ?_ | (refine Both.mk ?_ ?_ <;> intro hc <;> (first | exact Bool.noConfusion hc | exact absurd (by with_reducible rfl) hc | exact (hc : False).elim | exact absurd (by assumption) hc | exact absurd hc (by assumption) | (exfalso; omega) | exact absurd hc (by decide) | skip)) | (intro c hc; (try (simp only [AH.none_iff] at hc; repeat (have hn := hc.1; replace hc := hc.2))); (first | (have hc2 := Eq.trans hc (by with_reducible assumption); clear hc; subst hc2) | (refine i64_k hc ?_ ?_ ?_ ; omega; omega; (clear hc; intro hc; subst hc)) | (refine u64_k hc ?_ ?_ ?_ ; omega; omega; (clear hc; intro hc; subst hc)) | (refine u8_k hc ?_ ?_ ?_ ; omega; omega; (clear hc; intro hc; subst hc)) | subst hc | skip)) | (apply Exists.intro; apply And.intro; (focus (repeat (first | assumption | exact AH.set_same _ _ _ | ((first | refine AH.get_ne ?_ ?_ | refine AH.getd_ne ?_ ?_); (first | assumption | omega | exact Ne.symm (by assumption) | exact AH.ne_none (by assumption) (by assumption) | exact AH.none_ne (by assumption) (by assumption) | exact (AH.none_set (by assumption)).1 | exact Ne.symm (AH.none_set (by assumption)).1)))); done)) | (apply Exists.intro; apply And.intro; first | (with_reducible assumption) | ((try simp only [List.getElem?_drop, Nat.mul_one, Nat.add_zero, Nat.zero_add]); first | (with_reducible assumption) | (refine u8s_get ?_; omega) | (refine iS_get ?_; omega) | assumption | rfl)) | (apply And.intro; (first | rfl | (with_reducible assumption) | exact Nat.le_of_ble_eq_true rfl | omega | (exact Int.ofNat_lt.2 (Nat.lt_of_lt_of_eq (by with_reducible assumption) (by decide +kernel))) | assumption | (simp <;> fail) | (simp <;> omega) | (focus (repeat' (first | exact one_u8s _ | exact one_iS _ _ | rfl | apply one_take | apply one_drop | apply one_append)); done))))) <;> (try (conv => whnf))
      refine Then.mk (AWq.in ?_)
      refine AWp_freeze1 (r := r) (v := ds.length) (es := 1) (n := ds.length) (lim := none) (cells := dA ds) 3 rfl rfl kr hdl ?_
      have hn2 := fun H => normal_k false ds h1 hds H
      rw [hv] at hn2
      rw [AH.del_set _ _ _ hBr]
      refine AWp.of tt_ok (dok _) rfl ?_
      (repeat' ((conv => whnf); first | refine Then.mk ?_ | left | refine OpsA.cons ?_ | refine OpsA.nil ?_ | refine AWq.seq ?_ | refine AWq.region ?_ | refine AWq.cond ?_ | refine AWq.block ?_ | refine AWq.skip ?_ | refine AWq.ret ?_ | refine AWq.exit ?_ | refine AWq.loop ?_ | (refine ACall.to (hn2 _) ?_) | (refine Both.mk ?_ ?_ <;> intro hc <;> (first | exact Bool.noConfusion hc | exact absurd (by with_reducible rfl) hc | exact (hc : False).elim | exact absurd (by assumption) hc | exact absurd hc (by assumption) | (exfalso; omega) | exact absurd hc (by decide) | skip)) | (intro c hc; (try (simp only [AH.none_iff] at hc; repeat (have hn := hc.1; replace hc := hc.2))); (first | (have hc2 := Eq.trans hc (by with_reducible assumption); clear hc; subst hc2) | (refine i64_k hc ?_ ?_ ?_ ; omega; omega; (clear hc; intro hc; subst hc)) | (refine u64_k hc ?_ ?_ ?_ ; omega; omega; (clear hc; intro hc; subst hc)) | (refine u8_k hc ?_ ?_ ?_ ; omega; omega; (clear hc; intro hc; subst hc)) | subst hc | skip)) | (apply Exists.intro; apply And.intro; (focus (repeat (first | assumption | exact AH.set_same _ _ _ | ((first | refine AH.get_ne ?_ ?_ | refine AH.getd_ne ?_ ?_); (first | assumption | omega | exact Ne.symm (by assumption) | exact AH.ne_none (by assumption) (by assumption) | exact AH.none_ne (by assumption) (by assumption) | exact (AH.none_set (by assumption)).1 | exact Ne.symm (AH.none_set (by assumption)).1)))); done)) | (apply Exists.intro; apply And.intro; first | (with_reducible assumption) | ((try simp only [List.getElem?_drop, Nat.mul_one, Nat.add_zero, Nat.zero_add]); first | (with_reducible assumption) | (refine u8s_get ?_; omega) | (refine iS_get ?_; omega) | assumption | rfl)) | (apply And.intro; (first | rfl | (with_reducible assumption) | exact Nat.le_of_ble_eq_true rfl | omega | (exact Int.ofNat_lt.2 (Nat.lt_of_lt_of_eq (by with_reducible assumption) (by decide +kernel))) | assumption | (simp <;> fail) | (simp <;> omega) | (focus (repeat' (first | exact one_u8s _ | exact one_iS _ _ | rfl | apply one_take | apply one_drop | apply one_append)); done))))) <;> (try (conv => whnf))
      exact HLe.set_of _ _ hBle hcH
    · have hl5 := hl5 hm
      have hfin : ∀ Z : Int, Z = (m % 10000 : Nat) → HLe (HB.set r (.row (dA (ds ++ [m % 10000])) (ds ++ [m % 10000]).length)) ((HB.set r (.row (dA ds) ds.length)).set r (.row (dA ds ++ [.int .i64 Z]) (ds.length + 1))) := fun Z hZ => by
        rw [hZ, dA_snoc, AH.set_set, List.length_append, List.length_singleton]
        exact HLe.refl _
      have hnx : DOk (ds ++ [m % 10000]) ∧ dv (ds ++ [m % 10000]) + 10000 ^ (ds ++ [m % 10000]).length * (m / 10000) = N ∧ (ds ++ [m % 10000]).length ≤ 5 := by
        refine ⟨h1.app (DOk.one (Nat.mod_lt _ (by decide))), ?_, by rw [List.length_append, List.length_singleton]; omega⟩
        rw [dv_app, List.length_append, List.length_singleton, Nat.pow_succ, Nat.mul_assoc, Nat.add_assoc, ← Nat.mul_add]
        have : dv [m % 10000] + 10000 * (m / 10000) = m := by show m % 10000 + 10000 * 0 + _ = m; omega
        rw [this]; exact h2
      have hsl : AV.sl r (ds.length + 1) 1 0 (ds.length + 1) none = AV.sl r (ds ++ [m % 10000]).length 1 0 (ds ++ [m % 10000]).length none := by rw [List.length_append, List.length_singleton]
      have hlt : m / 10000 < m := by omega
      have hx10 : m % 10000 < 10000 := Nat.mod_lt _ (by decide)
      generalize m % 10000 = x at *
      generalize hG : (HB.set r (.row (dA ds) ds.length)) = G at *
      (repeat' ((conv => whnf); first | refine Then.mk ?_ | left | refine OpsA.cons ?_ | refine OpsA.nil ?_ | refine AWq.seq ?_ | refine AWq.region ?_ | refine AWq.cond ?_ | refine AWq.block ?_ | refine AWq.skip ?_ | refine AWq.ret ?_ | refine AWq.exit ?_ | refine AWq.loop ?_ | (refine Both.mk ?_ ?_ <;> intro hc <;> (first | exact Bool.noConfusion hc | exact absurd (by with_reducible rfl) hc | exact (hc : False).elim | exact absurd (by assumption) hc | exact absurd hc (by assumption) | (exfalso; omega) | exact absurd hc (by decide) | skip)) | (intro c hc; (try (simp only [AH.none_iff] at hc; repeat (have hn := hc.1; replace hc := hc.2))); (first | (have hc2 := Eq.trans hc (by with_reducible assumption); clear hc; subst hc2) | (refine i64_k hc ?_ ?_ ?_ ; omega; omega; (clear hc; intro hc; subst hc)) | (refine u64_k hc ?_ ?_ ?_ ; omega; omega; (clear hc; intro hc; subst hc)) | (refine u8_k hc ?_ ?_ ?_ ; omega; omega; (clear hc; intro hc; subst hc)) | subst hc | skip)) | (apply Exists.intro; apply And.intro; (focus (repeat (first | assumption | exact AH.set_same _ _ _ | ((first | refine AH.get_ne ?_ ?_ | refine AH.getd_ne ?_ ?_); (first | assumption | omega | exact Ne.symm (by assumption) | exact AH.ne_none (by assumption) (by assumption) | exact AH.none_ne (by assumption) (by assumption) | exact (AH.none_set (by assumption)).1 | exact Ne.symm (AH.none_set (by assumption)).1)))); done)) | (apply Exists.intro; apply And.intro; first | (with_reducible assumption) | ((try simp only [List.getElem?_drop, Nat.mul_one, Nat.add_zero, Nat.zero_add]); first | (with_reducible assumption) | (refine u8s_get ?_; omega) | (refine iS_get ?_; omega) | assumption | rfl)) | (apply And.intro; (first | rfl | (with_reducible assumption) | exact Nat.le_of_ble_eq_true rfl | omega | (exact Int.ofNat_lt.2 (Nat.lt_of_lt_of_eq (by with_reducible assumption) (by decide +kernel))) | assumption | (simp <;> fail) | (simp <;> omega) | (focus (repeat' (first | exact one_u8s _ | exact one_iS _ _ | rfl | apply one_take | apply one_drop | apply one_append)); done))))) <;> (try (conv => whnf))
      exact ⟨(ds ++ [x], m / 10000), hnx, hlt, ⟨rfl, hsl, trivial⟩, hfin _ (by omega)⟩
end Go.Proofs.Ytgmooalikccbiaa
/- The reference's integers: sums, differences, comparisons. -/
namespace Go.Proofs.Ytgmooalikccbiaa
open Go.Fw Go
set_option linter.unusedVariables false
set_option linter.unusedSimpArgs false

theorem dv_take_succ (a : List Nat) (i : Nat) : dv (a.take (i + 1)) = dv (a.take i) + 10000 ^ i * a.getD i 0 := by
  by_cases h : i < a.length
  · have e : a.take (i + 1) = a.take i ++ [a.getD i 0] := by
      rw [List.take_add_one, List.getElem?_eq_getElem h, List.getD_eq_getElem?_getD, List.getElem?_eq_getElem h]; rfl
    rw [e, dv_app, List.length_take, Nat.min_eq_left (by omega)]
    simp [dv]
  · rw [List.take_of_length_le (by omega), List.take_of_length_le (by omega), List.getD_eq_getElem?_getD, List.getElem?_eq_none (by omega)]
    simp
set_option maxRecDepth 8000 in
theorem at0_c (a : List Nat) (i : Nat) (H : AH) :
    ACall Try.prog 82 [.cs (dA a) a.length, .int .i64 i] H (fun y H' => y = .int .i64 (a.getD i 0 : Nat) ∧ H' = H) := by
  by_cases h : i < a.length
  · have hg := dA_gi h
    refine ACall_of tt_ok (dok _) Try.func82 rfl (by decide) rfl ?_
    (repeat' ((conv => whnf); first | refine Then.mk ?_ | left | refine OpsA.cons ?_ | refine OpsA.nil ?_ | refine AWq.seq ?_ | refine AWq.region ?_ | refine AWq.cond ?_ | refine AWq.skip ?_ | refine AWq.ret ?_ | (refine Both.mk ?_ ?_ <;> intro hc <;> (first | exact Bool.noConfusion hc | exact absurd (by with_reducible rfl) hc | exact (hc : False).elim | exact absurd (by assumption) hc | exact absurd hc (by assumption) | (exfalso; omega) | exact absurd hc (by decide) | skip)) | (intro c hc; (try (simp only [AH.none_iff] at hc; repeat (have hn := hc.1; replace hc := hc.2))); (first | (have hc2 := Eq.trans hc (by with_reducible assumption); clear hc; subst hc2) | (refine i64_k hc ?_ ?_ ?_ ; omega; omega; (clear hc; intro hc; subst hc)) | (refine u64_k hc ?_ ?_ ?_ ; omega; omega; (clear hc; intro hc; subst hc)) | (refine u8_k hc ?_ ?_ ?_ ; omega; omega; (clear hc; intro hc; subst hc)) | subst hc | skip)) | (apply Exists.intro; apply And.intro; (focus (repeat (first | assumption | exact AH.set_same _ _ _ | ((first | refine AH.get_ne ?_ ?_ | refine AH.getd_ne ?_ ?_); (first | assumption | omega | exact Ne.symm (by assumption) | exact AH.ne_none (by assumption) (by assumption) | exact AH.none_ne (by assumption) (by assumption) | exact (AH.none_set (by assumption)).1 | exact Ne.symm (AH.none_set (by assumption)).1)))); done)) | (apply Exists.intro; apply And.intro; first | (with_reducible assumption) | ((try simp only [List.getElem?_drop, Nat.mul_one, Nat.add_zero, Nat.zero_add]); first | (with_reducible assumption) | (refine u8s_get ?_; omega) | (refine iS_get ?_; omega) | assumption | rfl)) | (apply And.intro; (first | rfl | (with_reducible assumption) | exact Nat.le_of_ble_eq_true rfl | omega | (exact Int.ofNat_lt.2 (Nat.lt_of_lt_of_eq (by with_reducible assumption) (by decide +kernel))) | assumption | (simp <;> fail) | (simp <;> omega) | (focus (repeat' (first | exact one_u8s _ | exact one_iS _ _ | rfl | apply one_take | apply one_drop | apply one_append)); done))))) <;> (try (conv => whnf))
  · have h0 : a.getD i 0 = 0 := by rw [List.getD_eq_getElem?_getD, List.getElem?_eq_none (by omega)]; rfl
    rw [h0]
    refine ACall_of tt_ok (dok _) Try.func82 rfl (by decide) rfl ?_
    (repeat' ((conv => whnf); first | refine Then.mk ?_ | left | refine OpsA.cons ?_ | refine OpsA.nil ?_ | refine AWq.seq ?_ | refine AWq.region ?_ | refine AWq.cond ?_ | refine AWq.skip ?_ | refine AWq.ret ?_ | (refine Both.mk ?_ ?_ <;> intro hc <;> (first | exact Bool.noConfusion hc | exact absurd (by with_reducible rfl) hc | exact (hc : False).elim | exact absurd (by assumption) hc | exact absurd hc (by assumption) | (exfalso; omega) | exact absurd hc (by decide) | skip)) | (intro c hc; (try (simp only [AH.none_iff] at hc; repeat (have hn := hc.1; replace hc := hc.2))); (first | (have hc2 := Eq.trans hc (by with_reducible assumption); clear hc; subst hc2) | (refine i64_k hc ?_ ?_ ?_ ; omega; omega; (clear hc; intro hc; subst hc)) | (refine u64_k hc ?_ ?_ ?_ ; omega; omega; (clear hc; intro hc; subst hc)) | (refine u8_k hc ?_ ?_ ?_ ; omega; omega; (clear hc; intro hc; subst hc)) | subst hc | skip)) | (apply Exists.intro; apply And.intro; (focus (repeat (first | assumption | exact AH.set_same _ _ _ | ((first | refine AH.get_ne ?_ ?_ | refine AH.getd_ne ?_ ?_); (first | assumption | omega | exact Ne.symm (by assumption) | exact AH.ne_none (by assumption) (by assumption) | exact AH.none_ne (by assumption) (by assumption) | exact (AH.none_set (by assumption)).1 | exact Ne.symm (AH.none_set (by assumption)).1)))); done)) | (apply Exists.intro; apply And.intro; first | (with_reducible assumption) | ((try simp only [List.getElem?_drop, Nat.mul_one, Nat.add_zero, Nat.zero_add]); first | (with_reducible assumption) | (refine u8s_get ?_; omega) | (refine iS_get ?_; omega) | assumption | rfl)) | (apply And.intro; (first | rfl | (with_reducible assumption) | exact Nat.le_of_ble_eq_true rfl | omega | (exact Int.ofNat_lt.2 (Nat.lt_of_lt_of_eq (by with_reducible assumption) (by decide +kernel))) | assumption | (simp <;> fail) | (simp <;> omega) | (focus (repeat' (first | exact one_u8s _ | exact one_iS _ _ | rfl | apply one_take | apply one_drop | apply one_append)); done))))) <;> (try (conv => whnf))

def plusSt (a b : List Nat) : Nat → List Nat × Nat
  | 0 => ([], 0)
  | i + 1 => ((plusSt a b i).1 ++ [(a.getD i 0 + b.getD i 0 + (plusSt a b i).2) % 10000], (a.getD i 0 + b.getD i 0 + (plusSt a b i).2) / 10000)
def plusN (a b : List Nat) : Nat := if 0 < (plusSt a b (max a.length b.length)).2 then max a.length b.length + 1 else max a.length b.length
def plusL (a b : List Nat) : List Nat := (plusSt a b (plusN a b)).1
structure PlOk (a b : List Nat) (i : Nat) : Prop where
  ok : DOk (plusSt a b i).1
  len : (plusSt a b i).1.length = i
  c : (plusSt a b i).2 ≤ 1
  sum : dv (plusSt a b i).1 + 10000 ^ i * (plusSt a b i).2 = dv (a.take i) + dv (b.take i)
theorem plus_ok {a b : List Nat} (ha : DOk a) (hb : DOk b) : ∀ i, PlOk a b i
  | 0 => ⟨DOk.nil, rfl, Nat.zero_le _, rfl⟩
  | i + 1 => by
    obtain ⟨h1, h2, h3, h4⟩ := plus_ok ha hb i
    have p1 := ha.at i
    have p2 := hb.at i
    refine ⟨h1.app (DOk.one (Nat.mod_lt _ (by decide))), ?_, ?_, ?_⟩
    · show ((plusSt a b i).1 ++ [_]).length = _
      rw [List.length_append, List.length_singleton, h2]
    · show (a.getD i 0 + b.getD i 0 + (plusSt a b i).2) / 10000 ≤ 1
      omega
    · show dv ((plusSt a b i).1 ++ [(a.getD i 0 + b.getD i 0 + (plusSt a b i).2) % 10000]) + 10000 ^ (i + 1) * ((a.getD i 0 + b.getD i 0 + (plusSt a b i).2) / 10000) = _
      rw [dv_app, h2, dv_take_succ, dv_take_succ, Nat.pow_succ, Nat.mul_assoc]
      generalize a.getD i 0 = x at *
      generalize b.getD i 0 = y at *
      generalize (plusSt a b i).2 = c at *
      have e : dv [(x + y + c) % 10000] = (x + y + c) % 10000 := by simp [dv]
      have e2 : 10000 ^ i * ((x + y + c) % 10000) + 10000 ^ i * (10000 * ((x + y + c) / 10000)) = 10000 ^ i * x + 10000 ^ i * y + 10000 ^ i * c := by
        rw [← Nat.mul_add, ← Nat.mul_add, ← Nat.mul_add]; congr 1; omega
      rw [e]; omega
theorem plus_more {a b : List Nat} (ha : DOk a) (hb : DOk b) : (plusSt a b (plusN a b)).2 = 0 := by
  unfold plusN
  split
  · have h := (plus_ok ha hb (max a.length b.length)).c
    show (a.getD _ 0 + b.getD _ 0 + _) / 10000 = 0
    rw [List.getD_eq_getElem?_getD, List.getD_eq_getElem?_getD, List.getElem?_eq_none (by omega), List.getElem?_eq_none (by omega)]
    show (0 + 0 + (plusSt a b (max a.length b.length)).2) / 10000 = 0
    omega
  · omega
theorem plusN_ge (a b : List Nat) : a.length ≤ plusN a b ∧ b.length ≤ plusN a b ∧ plusN a b ≤ a.length + b.length + 1 := by
  unfold plusN; split <;> omega
theorem plusL_ok {a b : List Nat} (ha : DOk a) (hb : DOk b) : DOk (plusL a b) ∧ dv (plusL a b) = dv a + dv b ∧ (plusL a b).length = plusN a b := by
  have h := plus_ok ha hb (plusN a b)
  have h0 := plus_more ha hb
  obtain ⟨g1, g2, g3⟩ := plusN_ge a b
  refine ⟨h.ok, ?_, h.len⟩
  have := h.sum
  rw [h0, List.take_of_length_le g1, List.take_of_length_le g2] at this
  unfold plusL
  simpa using this

set_option maxRecDepth 8000 in
theorem plus_c (a b : List Nat) (ha : DOk a) (hb : DOk b) (hla : a.length ≤ 100000000) (hlb : b.length ≤ 100000000) (H : AH) :
    ACall Try.prog 77 [.cs (dA a) a.length, .cs (dA b) b.length] H (fun y H' => y = .cs (dA (plusL a b)) (plusL a b).length ∧ H' = H) := by
  refine ACall.back ?_
  have hall := plus_ok ha hb
  have hN : ∀ i, i < plusN a b ↔ i < a.length ∨ i < b.length ∨ (0 < (plusSt a b i).2 ∧ i ≤ plusN a b) := fun i => by
    have hm := plus_more ha hb
    obtain ⟨g1, g2, g3⟩ := plusN_ge a b
    constructor
    · intro h
      by_cases h1 : i < a.length
      · exact .inl h1
      · by_cases h2 : i < b.length
        · exact .inr (.inl h2)
        · right; right
          refine ⟨?_, by omega⟩
          unfold plusN at h
          split at h
          · rename_i hc
            have : i = max a.length b.length := by omega
            rw [this]; exact hc
          · omega
    · rintro (h | h | ⟨h, h2⟩)
      · omega
      · omega
      · by_cases e : i = plusN a b
        · rw [e] at h; omega
        · omega
  obtain ⟨g1, g2, g3⟩ := plusN_ge a b
  have hat1 := fun i H => at0_c a i H
  have hat2 := fun i H => at0_c b i H
  refine ACall_of tt_ok (dok _) Try.func77 rfl (by decide) rfl ?_
  (repeat' ((conv => whnf); first | left | refine OpsA.cons ?_ | refine OpsA.nil ?_ | refine AWq.seq ?_ | refine AWq.region ?_ | refine AWq.cond ?_ | refine AWq.block ?_ | refine AWq.skip ?_ | refine AWq.ret ?_ | refine AWq.exit ?_ | refine AWq.loop ?_ | (refine Both.mk ?_ ?_ <;> intro hc <;> (first | exact Bool.noConfusion hc | exact absurd (by with_reducible rfl) hc | exact (hc : False).elim | exact absurd (by assumption) hc | exact absurd hc (by assumption) | (exfalso; omega) | exact absurd hc (by decide) | skip)) | (intro c hc; (try (simp only [AH.none_iff] at hc; repeat (have hn := hc.1; replace hc := hc.2))); (first | (have hc2 := Eq.trans hc (by with_reducible assumption); clear hc; subst hc2) | (refine i64_k hc ?_ ?_ ?_ ; omega; omega; (clear hc; intro hc; subst hc)) | (refine u64_k hc ?_ ?_ ?_ ; omega; omega; (clear hc; intro hc; subst hc)) | (refine u8_k hc ?_ ?_ ?_ ; omega; omega; (clear hc; intro hc; subst hc)) | subst hc | skip)) | (apply Exists.intro; apply And.intro; (focus (repeat (first | assumption | exact AH.set_same _ _ _ | ((first | refine AH.get_ne ?_ ?_ | refine AH.getd_ne ?_ ?_); (first | assumption | omega | exact Ne.symm (by assumption) | exact AH.ne_none (by assumption) (by assumption) | exact AH.none_ne (by assumption) (by assumption) | exact (AH.none_set (by assumption)).1 | exact Ne.symm (AH.none_set (by assumption)).1)))); done)) | (apply Exists.intro; apply And.intro; first | (with_reducible assumption) | ((try simp only [List.getElem?_drop, Nat.mul_one, Nat.add_zero, Nat.zero_add]); first | (with_reducible assumption) | (refine u8s_get ?_; omega) | (refine iS_get ?_; omega) | assumption | rfl)) | (apply And.intro; (first | rfl | (with_reducible assumption) | exact Nat.le_of_ble_eq_true rfl | omega | (exact Int.ofNat_lt.2 (Nat.lt_of_lt_of_eq (by with_reducible assumption) (by decide +kernel))) | assumption | (simp <;> fail) | (simp <;> omega) | (focus (repeat' (first | exact one_u8s _ | exact one_iS _ _ | rfl | apply one_take | apply one_drop | apply one_append)); done))))) <;> (try (conv => whnf))
  refine Then.mk ?_
  (repeat' ((conv => whnf); first | left | refine OpsA.cons ?_ | refine OpsA.nil ?_ | refine AWq.seq ?_ | refine AWq.region ?_ | refine AWq.cond ?_ | refine AWq.block ?_ | refine AWq.skip ?_ | refine AWq.ret ?_ | refine AWq.exit ?_ | refine AWq.loop ?_ | (refine Both.mk ?_ ?_ <;> intro hc <;> (first | exact Bool.noConfusion hc | exact absurd (by with_reducible rfl) hc | exact (hc : False).elim | exact absurd (by assumption) hc | exact absurd hc (by assumption) | (exfalso; omega) | exact absurd hc (by decide) | skip)) | (intro c hc; (try (simp only [AH.none_iff] at hc; repeat (have hn := hc.1; replace hc := hc.2))); (first | (have hc2 := Eq.trans hc (by with_reducible assumption); clear hc; subst hc2) | (refine i64_k hc ?_ ?_ ?_ ; omega; omega; (clear hc; intro hc; subst hc)) | (refine u64_k hc ?_ ?_ ?_ ; omega; omega; (clear hc; intro hc; subst hc)) | (refine u8_k hc ?_ ?_ ?_ ; omega; omega; (clear hc; intro hc; subst hc)) | subst hc | skip)) | (apply Exists.intro; apply And.intro; (focus (repeat (first | assumption | exact AH.set_same _ _ _ | ((first | refine AH.get_ne ?_ ?_ | refine AH.getd_ne ?_ ?_); (first | assumption | omega | exact Ne.symm (by assumption) | exact AH.ne_none (by assumption) (by assumption) | exact AH.none_ne (by assumption) (by assumption) | exact (AH.none_set (by assumption)).1 | exact Ne.symm (AH.none_set (by assumption)).1)))); done)) | (apply Exists.intro; apply And.intro; first | (with_reducible assumption) | ((try simp only [List.getElem?_drop, Nat.mul_one, Nat.add_zero, Nat.zero_add]); first | (with_reducible assumption) | (refine u8s_get ?_; omega) | (refine iS_get ?_; omega) | assumption | rfl)) | (apply And.intro; (first | rfl | (with_reducible assumption) | exact Nat.le_of_ble_eq_true rfl | omega | (exact Int.ofNat_lt.2 (Nat.lt_of_lt_of_eq (by with_reducible assumption) (by decide +kernel))) | assumption | (simp <;> fail) | (simp <;> omega) | (focus (repeat' (first | exact one_u8s _ | exact one_iS _ _ | rfl | apply one_take | apply one_drop | apply one_append)); done))))) <;> (try (conv => whnf))
  refine Then.mk (AWq.in ?_)
  refine AWp_nilrow1 5 1 rfl rfl fun r hr => ?_
  refine AWp.of tt_ok (dok _) rfl ?_
  (repeat' ((conv => whnf); first | refine Then.mk ?_ | left | refine OpsA.cons ?_ | refine OpsA.nil ?_ | refine AWq.seq ?_ | refine AWq.region ?_ | refine AWq.cond ?_ | refine AWq.block ?_ | refine AWq.skip ?_ | refine AWq.ret ?_ | refine AWq.exit ?_ | refine AWq.loop ?_ | (refine Both.mk ?_ ?_ <;> intro hc <;> (first | exact Bool.noConfusion hc | exact absurd (by with_reducible rfl) hc | exact (hc : False).elim | exact absurd (by assumption) hc | exact absurd hc (by assumption) | (exfalso; omega) | exact absurd hc (by decide) | skip)) | (intro c hc; (try (simp only [AH.none_iff] at hc; repeat (have hn := hc.1; replace hc := hc.2))); (first | (have hc2 := Eq.trans hc (by with_reducible assumption); clear hc; subst hc2) | (refine i64_k hc ?_ ?_ ?_ ; omega; omega; (clear hc; intro hc; subst hc)) | (refine u64_k hc ?_ ?_ ?_ ; omega; omega; (clear hc; intro hc; subst hc)) | (refine u8_k hc ?_ ?_ ?_ ; omega; omega; (clear hc; intro hc; subst hc)) | subst hc | skip)) | (apply Exists.intro; apply And.intro; (focus (repeat (first | assumption | exact AH.set_same _ _ _ | ((first | refine AH.get_ne ?_ ?_ | refine AH.getd_ne ?_ ?_); (first | assumption | omega | exact Ne.symm (by assumption) | exact AH.ne_none (by assumption) (by assumption) | exact AH.none_ne (by assumption) (by assumption) | exact (AH.none_set (by assumption)).1 | exact Ne.symm (AH.none_set (by assumption)).1)))); done)) | (apply Exists.intro; apply And.intro; first | (with_reducible assumption) | ((try simp only [List.getElem?_drop, Nat.mul_one, Nat.add_zero, Nat.zero_add]); first | (with_reducible assumption) | (refine u8s_get ?_; omega) | (refine iS_get ?_; omega) | assumption | rfl)) | (apply And.intro; (first | rfl | (with_reducible assumption) | exact Nat.le_of_ble_eq_true rfl | omega | (exact Int.ofNat_lt.2 (Nat.lt_of_lt_of_eq (by with_reducible assumption) (by decide +kernel))) | assumption | (simp <;> fail) | (simp <;> omega) | (focus (repeat' (first | exact one_u8s _ | exact one_iS _ _ | rfl | apply one_take | apply one_drop | apply one_append)); done))))) <;> (try (conv => whnf))
  refine AWp_loop (σ := Nat) (5 :: 6 :: 7 :: 8 :: 9 :: 10 :: 11 :: 12 :: 13 :: 14 :: 15 :: 16 :: 17 :: 18 :: 19 :: 20 :: 21 :: 22 :: 23 :: 24 :: 25 :: 26 :: 27 :: 28 :: 29 :: 30 :: 31 :: 32 :: 33 :: 34 :: 35 :: 36 :: 37 :: 38 :: 39 :: 40 :: []) (fun i => [(5, .sl r i 1 0 i none), (6, .int .i64 ((plusSt a b i).2 : Nat)), (7, .int .i64 i)]) (fun i => H.set r (.row (dA (plusSt a b i).1) i)) (fun i => i ≤ plusN a b) (fun i => plusN a b - i) 0 rfl (Nat.zero_le _) ⟨rfl, rfl, rfl, trivial⟩ (HLe.refl _) ?_
  intro i hi
  dsimp only at hi ⊢
  refine AWp.of tt_ok (dok _) rfl ?_
  have hok := hall i
  have hal := ha.at i
  have hbl := hb.at i
  have hc1 := hok.c
  have hlen : (dA (plusSt a b i).1).length = i * 1 := by rw [dA_len, hok.len, Nat.mul_one]
  have kr : (H.set r (.row (dA (plusSt a b i).1) i)) r = some (.row (dA (plusSt a b i).1) i) := AH.set_same _ _ _
  have hnx : plusSt a b (i + 1) = ((plusSt a b i).1 ++ [(a.getD i 0 + b.getD i 0 + (plusSt a b i).2) % 10000], (a.getD i 0 + b.getD i 0 + (plusSt a b i).2) / 10000) := rfl
  have hNi := hN i
  have ha1 := fun H => hat1 i H
  have ha2 := fun H => hat2 i H
  by_cases hin : i < plusN a b
  · have hcond := hNi.1 hin
    generalize (plusSt a b i).2 = cy at *
    generalize a.getD i 0 = x at *
    generalize b.getD i 0 = z at *
    have e1 : ((x : Int) + z) = (x + z : Nat) := by omega
    have e2 : IntKind.i64.wrap ((x : Int) + z) = (x + z : Nat) := by rw [IntKind.wrap_i64]; omega
    have e3 : IntKind.i64.wrap (((x + z : Nat) : Int) + cy) = (x + z + cy : Nat) := by rw [IntKind.wrap_i64]; omega
    have e4 : ((x + z + cy : Nat) : Int).tmod 10000 = ((x + z + cy) % 10000 : Nat) := by rw [Int.tmod_eq_emod_of_nonneg (by omega)]; omega
    have e5 : IntKind.i64.wrap (((x + z + cy : Nat) : Int).tdiv 10000) = ((x + z + cy) / 10000 : Nat) := by rw [Int.tdiv_eq_ediv_of_nonneg (by omega), IntKind.wrap_i64]; omega
    have hfin : ∀ G, G = H.set r (.row (dA (plusSt a b i).1) i) → HLe (H.set r (.row (dA (plusSt a b (i + 1)).1) (i + 1))) (G.set r (.row (dA (plusSt a b i).1 ++ [.int .i64 ((x + z + cy) % 10000 : Nat)]) (i + 1))) := fun G hG => by
      rw [hG, AH.set_set, dA_snoc, hnx]
      exact HLe.refl _
    have hc2 : (plusSt a b (i + 1)).2 = (x + z + cy) / 10000 := by rw [hnx]
    generalize hG : H.set r (.row (dA (plusSt a b i).1) i) = G at *
    generalize (x + z + cy) / 10000 = c2 at *
    by_cases h1 : i < a.length
    · (repeat' ((conv => whnf); first | refine Then.mk ?_ | left | refine OpsA.cons ?_ | refine OpsA.nil ?_ | refine AWq.seq ?_ | refine AWq.region ?_ | refine AWq.cond ?_ | refine AWq.block ?_ | refine AWq.skip ?_ | refine AWq.ret ?_ | refine AWq.exit ?_ | refine AWq.loop ?_ | (refine ACall.to (ha1 _) ?_) | (refine ACall.to (ha2 _) ?_) | (refine Both.mk ?_ ?_ <;> intro hc <;> (first | exact Bool.noConfusion hc | exact absurd (by with_reducible rfl) hc | exact (hc : False).elim | exact absurd (by assumption) hc | exact absurd hc (by assumption) | (exfalso; omega) | exact absurd hc (by decide) | skip)) | (intro c hc; (try (simp only [AH.none_iff] at hc; repeat (have hn := hc.1; replace hc := hc.2))); (first | (have hc2 := Eq.trans hc (by with_reducible assumption); clear hc; subst hc2) | (refine i64_k hc ?_ ?_ ?_ ; omega; omega; (clear hc; intro hc; subst hc)) | (refine u64_k hc ?_ ?_ ?_ ; omega; omega; (clear hc; intro hc; subst hc)) | (refine u8_k hc ?_ ?_ ?_ ; omega; omega; (clear hc; intro hc; subst hc)) | subst hc | skip)) | (apply Exists.intro; apply And.intro; (focus (repeat (first | assumption | exact AH.set_same _ _ _ | ((first | refine AH.get_ne ?_ ?_ | refine AH.getd_ne ?_ ?_); (first | assumption | omega | exact Ne.symm (by assumption) | exact AH.ne_none (by assumption) (by assumption) | exact AH.none_ne (by assumption) (by assumption) | exact (AH.none_set (by assumption)).1 | exact Ne.symm (AH.none_set (by assumption)).1)))); done)) | (apply Exists.intro; apply And.intro; first | (with_reducible assumption) | ((try simp only [List.getElem?_drop, Nat.mul_one, Nat.add_zero, Nat.zero_add]); first | (with_reducible assumption) | (refine u8s_get ?_; omega) | (refine iS_get ?_; omega) | assumption | rfl)) | (apply And.intro; (first | rfl | (with_reducible assumption) | exact Nat.le_of_ble_eq_true rfl | omega | (exact Int.ofNat_lt.2 (Nat.lt_of_lt_of_eq (by with_reducible assumption) (by decide +kernel))) | assumption | (simp <;> fail) | (simp <;> omega) | (focus (repeat' (first | exact one_u8s _ | exact one_iS _ _ | rfl | apply one_take | apply one_drop | apply one_append)); done))))) <;> (try (conv => whnf))
      exact ⟨i + 1, hin, by omega, ⟨rfl, congrArg (AV.int .i64) (by omega), congrArg (AV.int .i64) (by omega), trivial⟩, hfin _ rfl⟩
    · by_cases h2 : i < b.length
      · (repeat' ((conv => whnf); first | refine Then.mk ?_ | left | refine OpsA.cons ?_ | refine OpsA.nil ?_ | refine AWq.seq ?_ | refine AWq.region ?_ | refine AWq.cond ?_ | refine AWq.block ?_ | refine AWq.skip ?_ | refine AWq.ret ?_ | refine AWq.exit ?_ | refine AWq.loop ?_ | (refine ACall.to (ha1 _) ?_) | (refine ACall.to (ha2 _) ?_) | (refine Both.mk ?_ ?_ <;> intro hc <;> (first | exact Bool.noConfusion hc | exact absurd (by with_reducible rfl) hc | exact (hc : False).elim | exact absurd (by assumption) hc | exact absurd hc (by assumption) | (exfalso; omega) | exact absurd hc (by decide) | skip)) | (intro c hc; (try (simp only [AH.none_iff] at hc; repeat (have hn := hc.1; replace hc := hc.2))); (first | (have hc2 := Eq.trans hc (by with_reducible assumption); clear hc; subst hc2) | (refine i64_k hc ?_ ?_ ?_ ; omega; omega; (clear hc; intro hc; subst hc)) | (refine u64_k hc ?_ ?_ ?_ ; omega; omega; (clear hc; intro hc; subst hc)) | (refine u8_k hc ?_ ?_ ?_ ; omega; omega; (clear hc; intro hc; subst hc)) | subst hc | skip)) | (apply Exists.intro; apply And.intro; (focus (repeat (first | assumption | exact AH.set_same _ _ _ | ((first | refine AH.get_ne ?_ ?_ | refine AH.getd_ne ?_ ?_); (first | assumption | omega | exact Ne.symm (by assumption) | exact AH.ne_none (by assumption) (by assumption) | exact AH.none_ne (by assumption) (by assumption) | exact (AH.none_set (by assumption)).1 | exact Ne.symm (AH.none_set (by assumption)).1)))); done)) | (apply Exists.intro; apply And.intro; first | (with_reducible assumption) | ((try simp only [List.getElem?_drop, Nat.mul_one, Nat.add_zero, Nat.zero_add]); first | (with_reducible assumption) | (refine u8s_get ?_; omega) | (refine iS_get ?_; omega) | assumption | rfl)) | (apply And.intro; (first | rfl | (with_reducible assumption) | exact Nat.le_of_ble_eq_true rfl | omega | (exact Int.ofNat_lt.2 (Nat.lt_of_lt_of_eq (by with_reducible assumption) (by decide +kernel))) | assumption | (simp <;> fail) | (simp <;> omega) | (focus (repeat' (first | exact one_u8s _ | exact one_iS _ _ | rfl | apply one_take | apply one_drop | apply one_append)); done))))) <;> (try (conv => whnf))
        exact ⟨i + 1, hin, by omega, ⟨rfl, congrArg (AV.int .i64) (by omega), congrArg (AV.int .i64) (by omega), trivial⟩, hfin _ rfl⟩
      · have h3 : 0 < cy := by omega
        (repeat' ((conv => whnf); first | refine Then.mk ?_ | left | refine OpsA.cons ?_ | refine OpsA.nil ?_ | refine AWq.seq ?_ | refine AWq.region ?_ | refine AWq.cond ?_ | refine AWq.block ?_ | refine AWq.skip ?_ | refine AWq.ret ?_ | refine AWq.exit ?_ | refine AWq.loop ?_ | (refine ACall.to (ha1 _) ?_) | (refine ACall.to (ha2 _) ?_) | (refine Both.mk ?_ ?_ <;> intro hc <;> (first | exact Bool.noConfusion hc | exact absurd (by with_reducible rfl) hc | exact (hc : False).elim | exact absurd (by assumption) hc | exact absurd hc (by assumption) | (exfalso; omega) | exact absurd hc (by decide) | skip)) | (intro c hc; (try (simp only [AH.none_iff] at hc; repeat (have hn := hc.1; replace hc := hc.2))); (first | (have hc2 := Eq.trans hc (by with_reducible assumption); clear hc; subst hc2) | (refine i64_k hc ?_ ?_ ?_ ; omega; omega; (clear hc; intro hc; subst hc)) | (refine u64_k hc ?_ ?_ ?_ ; omega; omega; (clear hc; intro hc; subst hc)) | (refine u8_k hc ?_ ?_ ?_ ; omega; omega; (clear hc; intro hc; subst hc)) | subst hc | skip)) | (apply Exists.intro; apply And.intro; (focus (repeat (first | assumption | exact AH.set_same _ _ _ | ((first | refine AH.get_ne ?_ ?_ | refine AH.getd_ne ?_ ?_); (first | assumption | omega | exact Ne.symm (by assumption) | exact AH.ne_none (by assumption) (by assumption) | exact AH.none_ne (by assumption) (by assumption) | exact (AH.none_set (by assumption)).1 | exact Ne.symm (AH.none_set (by assumption)).1)))); done)) | (apply Exists.intro; apply And.intro; first | (with_reducible assumption) | ((try simp only [List.getElem?_drop, Nat.mul_one, Nat.add_zero, Nat.zero_add]); first | (with_reducible assumption) | (refine u8s_get ?_; omega) | (refine iS_get ?_; omega) | assumption | rfl)) | (apply And.intro; (first | rfl | (with_reducible assumption) | exact Nat.le_of_ble_eq_true rfl | omega | (exact Int.ofNat_lt.2 (Nat.lt_of_lt_of_eq (by with_reducible assumption) (by decide +kernel))) | assumption | (simp <;> fail) | (simp <;> omega) | (focus (repeat' (first | exact one_u8s _ | exact one_iS _ _ | rfl | apply one_take | apply one_drop | apply one_append)); done))))) <;> (try (conv => whnf))
        exact ⟨i + 1, hin, by omega, ⟨rfl, congrArg (AV.int .i64) (by omega), congrArg (AV.int .i64) (by omega), trivial⟩, hfin _ rfl⟩
  · have hie : i = plusN a b := by omega
    have h1 : ¬ i < a.length := by omega
    have h2 : ¬ i < b.length := by omega
    have h3 : (plusSt a b i).2 = 0 := by
      rw [hie]; exact plus_more ha hb
    have hL : dA (plusL a b) = dA (plusSt a b i).1 := by unfold plusL; rw [hie]
    have hLl : (plusL a b).length = i := by rw [(plusL_ok ha hb).2.2, hie]
    rw [hL, hLl]
    generalize (plusSt a b i).2 = cy at *
    subst h3
    (repeat' ((conv => whnf); first | left | refine OpsA.cons ?_ | refine OpsA.nil ?_ | refine AWq.seq ?_ | refine AWq.region ?_ | refine AWq.cond ?_ | refine AWq.block ?_ | refine AWq.skip ?_ | refine AWq.ret ?_ | refine AWq.exit ?_ | refine AWq.loop ?_ | (refine Both.mk ?_ ?_ <;> intro hc <;> (first | exact Bool.noConfusion hc | exact absurd (by with_reducible rfl) hc | exact (hc : False).elim | exact absurd (by assumption) hc | exact absurd hc (by assumption) | (exfalso; omega) | exact absurd hc (by decide) | skip)) | (intro c hc; (try (simp only [AH.none_iff] at hc; repeat (have hn := hc.1; replace hc := hc.2))); (first | (have hc2 := Eq.trans hc (by with_reducible assumption); clear hc; subst hc2) | (refine i64_k hc ?_ ?_ ?_ ; omega; omega; (clear hc; intro hc; subst hc)) | (refine u64_k hc ?_ ?_ ?_ ; omega; omega; (clear hc; intro hc; subst hc)) | (refine u8_k hc ?_ ?_ ?_ ; omega; omega; (clear hc; intro hc; subst hc)) | subst hc | skip)) | (apply Exists.intro; apply And.intro; (focus (repeat (first | assumption | exact AH.set_same _ _ _ | ((first | refine AH.get_ne ?_ ?_ | refine AH.getd_ne ?_ ?_); (first | assumption | omega | exact Ne.symm (by assumption) | exact AH.ne_none (by assumption) (by assumption) | exact AH.none_ne (by assumption) (by assumption) | exact (AH.none_set (by assumption)).1 | exact Ne.symm (AH.none_set (by assumption)).1)))); done)) | (apply Exists.intro; apply And.intro; first | (with_reducible assumption) | ((try simp only [List.getElem?_drop, Nat.mul_one, Nat.add_zero, Nat.zero_add]); first | (with_reducible assumption) | (refine u8s_get ?_; omega) | (refine iS_get ?_; omega) | assumption | rfl)) | (apply And.intro; (first | rfl | (with_reducible assumption) | exact Nat.le_of_ble_eq_true rfl | omega | (exact Int.ofNat_lt.2 (Nat.lt_of_lt_of_eq (by with_reducible assumption) (by decide +kernel))) | assumption | (simp <;> fail) | (simp <;> omega) | (focus (repeat' (first | exact one_u8s _ | exact one_iS _ _ | rfl | apply one_take | apply one_drop | apply one_append)); done))))) <;> (try (conv => whnf))
    refine Then.mk (AWq.in ?_)
    refine AWp_freeze1 (r := r) (v := i) (es := 1) (n := i) (lim := none) (cells := dA (plusSt a b i).1) 5 rfl rfl kr hlen ?_
    refine AWp.of tt_ok (dok _) rfl ?_
    (repeat' ((conv => whnf); first | refine Then.mk ?_ | left | refine OpsA.cons ?_ | refine OpsA.nil ?_ | refine AWq.seq ?_ | refine AWq.region ?_ | refine AWq.cond ?_ | refine AWq.block ?_ | refine AWq.skip ?_ | refine AWq.ret ?_ | refine AWq.exit ?_ | refine AWq.loop ?_ | (refine Both.mk ?_ ?_ <;> intro hc <;> (first | exact Bool.noConfusion hc | exact absurd (by with_reducible rfl) hc | exact (hc : False).elim | exact absurd (by assumption) hc | exact absurd hc (by assumption) | (exfalso; omega) | exact absurd hc (by decide) | skip)) | (intro c hc; (try (simp only [AH.none_iff] at hc; repeat (have hn := hc.1; replace hc := hc.2))); (first | (have hc2 := Eq.trans hc (by with_reducible assumption); clear hc; subst hc2) | (refine i64_k hc ?_ ?_ ?_ ; omega; omega; (clear hc; intro hc; subst hc)) | (refine u64_k hc ?_ ?_ ?_ ; omega; omega; (clear hc; intro hc; subst hc)) | (refine u8_k hc ?_ ?_ ?_ ; omega; omega; (clear hc; intro hc; subst hc)) | subst hc | skip)) | (apply Exists.intro; apply And.intro; (focus (repeat (first | assumption | exact AH.set_same _ _ _ | ((first | refine AH.get_ne ?_ ?_ | refine AH.getd_ne ?_ ?_); (first | assumption | omega | exact Ne.symm (by assumption) | exact AH.ne_none (by assumption) (by assumption) | exact AH.none_ne (by assumption) (by assumption) | exact (AH.none_set (by assumption)).1 | exact Ne.symm (AH.none_set (by assumption)).1)))); done)) | (apply Exists.intro; apply And.intro; first | (with_reducible assumption) | ((try simp only [List.getElem?_drop, Nat.mul_one, Nat.add_zero, Nat.zero_add]); first | (with_reducible assumption) | (refine u8s_get ?_; omega) | (refine iS_get ?_; omega) | assumption | rfl)) | (apply And.intro; (first | rfl | (with_reducible assumption) | exact Nat.le_of_ble_eq_true rfl | omega | (exact Int.ofNat_lt.2 (Nat.lt_of_lt_of_eq (by with_reducible assumption) (by decide +kernel))) | assumption | (simp <;> fail) | (simp <;> omega) | (focus (repeat' (first | exact one_u8s _ | exact one_iS _ _ | rfl | apply one_take | apply one_drop | apply one_append)); done))))) <;> (try (conv => whnf))
    exact HLe.del _ (HLe.fresh _ hr) hr
end Go.Proofs.Ytgmooalikccbiaa
/- The reference's integers: differences, comparisons, Add. -/
namespace Go.Proofs.Ytgmooalikccbiaa
open Go.Fw Go
set_option linter.unusedVariables false
set_option linter.unusedSimpArgs false

def minSt (a b : List Nat) : Nat → List Nat × Nat
  | 0 => ([], 0)
  | i + 1 => if a.getD i 0 < b.getD i 0 + (minSt a b i).2 then ((minSt a b i).1 ++ [a.getD i 0 + 10000 - b.getD i 0 - (minSt a b i).2], 1) else ((minSt a b i).1 ++ [a.getD i 0 - b.getD i 0 - (minSt a b i).2], 0)
def minL (a b : List Nat) : List Nat := (minSt a b a.length).1
structure MiOk (a b : List Nat) (i : Nat) : Prop where
  ok : DOk (minSt a b i).1
  len : (minSt a b i).1.length = i
  c : (minSt a b i).2 ≤ 1
  sum : dv (minSt a b i).1 + dv (b.take i) = dv (a.take i) + 10000 ^ i * (minSt a b i).2
theorem min_ok {a b : List Nat} (ha : DOk a) (hb : DOk b) : ∀ i, MiOk a b i
  | 0 => ⟨DOk.nil, rfl, Nat.zero_le _, rfl⟩
  | i + 1 => by
    obtain ⟨h1, h2, h3, h4⟩ := min_ok ha hb i
    have p1 := ha.at i
    have p2 := hb.at i
    have e : minSt a b (i + 1) = if a.getD i 0 < b.getD i 0 + (minSt a b i).2 then ((minSt a b i).1 ++ [a.getD i 0 + 10000 - b.getD i 0 - (minSt a b i).2], 1) else ((minSt a b i).1 ++ [a.getD i 0 - b.getD i 0 - (minSt a b i).2], 0) := rfl
    have t1 := dv_take_succ a i
    have t2 := dv_take_succ b i
    generalize a.getD i 0 = x at *
    generalize b.getD i 0 = y at *
    generalize (minSt a b i).2 = c at *
    generalize (minSt a b i).1 = o at *
    by_cases h : x < y + c
    · rw [if_pos h] at e
      have e1 : (minSt a b (i + 1)).1 = o ++ [x + 10000 - y - c] := by rw [e]
      have e2 : (minSt a b (i + 1)).2 = 1 := by rw [e]
      refine ⟨?_, ?_, by omega, ?_⟩
      · rw [e1]; exact h1.app (DOk.one (by omega))
      · rw [e1, List.length_append, List.length_singleton, h2]
      · rw [e1, e2, dv_app, h2, t1, t2, Nat.pow_succ]
        have e3 : dv [x + 10000 - y - c] = x + 10000 - y - c := by simp [dv]
        have e4 : 10000 ^ i * (x + 10000 - y - c) + 10000 ^ i * y + 10000 ^ i * c = 10000 ^ i * x + 10000 ^ i * 10000 := by
          rw [← Nat.mul_add, ← Nat.mul_add, ← Nat.mul_add]; congr 1; omega
        rw [e3]; omega
    · rw [if_neg h] at e
      have e1 : (minSt a b (i + 1)).1 = o ++ [x - y - c] := by rw [e]
      have e2 : (minSt a b (i + 1)).2 = 0 := by rw [e]
      refine ⟨?_, ?_, by omega, ?_⟩
      · rw [e1]; exact h1.app (DOk.one (by omega))
      · rw [e1, List.length_append, List.length_singleton, h2]
      · rw [e1, e2, dv_app, h2, t1, t2]
        have e3 : dv [x - y - c] = x - y - c := by simp [dv]
        have e4 : 10000 ^ i * (x - y - c) + 10000 ^ i * y + 10000 ^ i * c = 10000 ^ i * x := by
          rw [← Nat.mul_add, ← Nat.mul_add]; congr 1; omega
        rw [e3]; omega
theorem minL_ok {a b : List Nat} (ha : DOk a) (hb : DOk b) (hl : b.length ≤ a.length) (hv : dv b ≤ dv a) : DOk (minL a b) ∧ dv (minL a b) = dv a - dv b ∧ (minL a b).length = a.length := by
  have h := min_ok ha hb a.length
  refine ⟨h.ok, ?_, h.len⟩
  have hs := h.sum
  have hc := h.c
  have hlt := dv_lt h.ok
  rw [h.len] at hlt
  rw [List.take_of_length_le (Nat.le_refl _), List.take_of_length_le hl] at hs
  unfold minL
  by_cases h0 : (minSt a b a.length).2 = 0
  · rw [h0] at hs; omega
  · have h1 : (minSt a b a.length).2 = 1 := by omega
    rw [h1] at hs; omega

set_option maxRecDepth 8000 in
theorem minus_c (a b : List Nat) (ha : DOk a) (hb : DOk b) (hla : a.length ≤ 100000000) (H : AH) :
    ACall Try.prog 75 [.cs (dA a) a.length, .cs (dA b) b.length] H (fun y H' => y = .cs (dA (minL a b)) a.length ∧ H' = H) := by
  refine ACall.back ?_
  have hall := min_ok ha hb
  have hat1 := fun i H => at0_c a i H
  have hat2 := fun i H => at0_c b i H
  have hal1 : (dA a).length = a.length := by simp
  refine ACall_of tt_ok (dok _) Try.func75 rfl (by decide) rfl ?_
  (repeat' ((conv => whnf); first | left | refine OpsA.cons ?_ | refine OpsA.nil ?_ | refine AWq.seq ?_ | refine AWq.region ?_ | refine AWq.cond ?_ | refine AWq.block ?_ | refine AWq.skip ?_ | refine AWq.ret ?_ | refine AWq.exit ?_ | refine AWq.loop ?_ | (refine Both.mk ?_ ?_ <;> intro hc <;> (first | exact Bool.noConfusion hc | exact absurd (by with_reducible rfl) hc | exact (hc : False).elim | exact absurd (by assumption) hc | exact absurd hc (by assumption) | (exfalso; omega) | exact absurd hc (by decide) | skip)) | (intro c hc; (try (simp only [AH.none_iff] at hc; repeat (have hn := hc.1; replace hc := hc.2))); (first | (have hc2 := Eq.trans hc (by with_reducible assumption); clear hc; subst hc2) | (refine i64_k hc ?_ ?_ ?_ ; omega; omega; (clear hc; intro hc; subst hc)) | (refine u64_k hc ?_ ?_ ?_ ; omega; omega; (clear hc; intro hc; subst hc)) | (refine u8_k hc ?_ ?_ ?_ ; omega; omega; (clear hc; intro hc; subst hc)) | subst hc | skip)) | (apply Exists.intro; apply And.intro; (focus (repeat (first | assumption | exact AH.set_same _ _ _ | ((first | refine AH.get_ne ?_ ?_ | refine AH.getd_ne ?_ ?_); (first | assumption | omega | exact Ne.symm (by assumption) | exact AH.ne_none (by assumption) (by assumption) | exact AH.none_ne (by assumption) (by assumption) | exact (AH.none_set (by assumption)).1 | exact Ne.symm (AH.none_set (by assumption)).1)))); done)) | (apply Exists.intro; apply And.intro; first | (with_reducible assumption) | ((try simp only [List.getElem?_drop, Nat.mul_one, Nat.add_zero, Nat.zero_add]); first | (with_reducible assumption) | (refine u8s_get ?_; omega) | (refine iS_get ?_; omega) | assumption | rfl)) | (apply And.intro; (first | rfl | (with_reducible assumption) | exact Nat.le_of_ble_eq_true rfl | omega | (exact Int.ofNat_lt.2 (Nat.lt_of_lt_of_eq (by with_reducible assumption) (by decide +kernel))) | assumption | (simp <;> fail) | (simp <;> omega) | (focus (repeat' (first | exact one_u8s _ | exact one_iS _ _ | rfl | apply one_take | apply one_drop | apply one_append)); done))))) <;> (try (conv => whnf))
  refine Then.mk ?_
  (repeat' ((conv => whnf); first | left | refine OpsA.cons ?_ | refine OpsA.nil ?_ | refine AWq.seq ?_ | refine AWq.region ?_ | refine AWq.cond ?_ | refine AWq.block ?_ | refine AWq.skip ?_ | refine AWq.ret ?_ | refine AWq.exit ?_ | refine AWq.loop ?_ | (refine Both.mk ?_ ?_ <;> intro hc <;> (first | exact Bool.noConfusion hc | exact absurd (by with_reducible rfl) hc | exact (hc : False).elim | exact absurd (by assumption) hc | exact absurd hc (by assumption) | (exfalso; omega) | exact absurd hc (by decide) | skip)) | (intro c hc; (try (simp only [AH.none_iff] at hc; repeat (have hn := hc.1; replace hc := hc.2))); (first | (have hc2 := Eq.trans hc (by with_reducible assumption); clear hc; subst hc2) | (refine i64_k hc ?_ ?_ ?_ ; omega; omega; (clear hc; intro hc; subst hc)) | (refine u64_k hc ?_ ?_ ?_ ; omega; omega; (clear hc; intro hc; subst hc)) | (refine u8_k hc ?_ ?_ ?_ ; omega; omega; (clear hc; intro hc; subst hc)) | subst hc | skip)) | (apply Exists.intro; apply And.intro; (focus (repeat (first | assumption | exact AH.set_same _ _ _ | ((first | refine AH.get_ne ?_ ?_ | refine AH.getd_ne ?_ ?_); (first | assumption | omega | exact Ne.symm (by assumption) | exact AH.ne_none (by assumption) (by assumption) | exact AH.none_ne (by assumption) (by assumption) | exact (AH.none_set (by assumption)).1 | exact Ne.symm (AH.none_set (by assumption)).1)))); done)) | (apply Exists.intro; apply And.intro; first | (with_reducible assumption) | ((try simp only [List.getElem?_drop, Nat.mul_one, Nat.add_zero, Nat.zero_add]); first | (with_reducible assumption) | (refine u8s_get ?_; omega) | (refine iS_get ?_; omega) | assumption | rfl)) | (apply And.intro; (first | rfl | (with_reducible assumption) | exact Nat.le_of_ble_eq_true rfl | omega | (exact Int.ofNat_lt.2 (Nat.lt_of_lt_of_eq (by with_reducible assumption) (by decide +kernel))) | assumption | (simp <;> fail) | (simp <;> omega) | (focus (repeat' (first | exact one_u8s _ | exact one_iS _ _ | rfl | apply one_take | apply one_drop | apply one_append)); done))))) <;> (try (conv => whnf))
  refine Then.mk (AWq.in ?_)
  refine AWp_nilrow1 5 1 rfl rfl fun r hr => ?_
  refine AWp.of tt_ok (dok _) rfl ?_
  (repeat' ((conv => whnf); first | refine Then.mk ?_ | left | refine OpsA.cons ?_ | refine OpsA.nil ?_ | refine AWq.seq ?_ | refine AWq.region ?_ | refine AWq.cond ?_ | refine AWq.block ?_ | refine AWq.skip ?_ | refine AWq.ret ?_ | refine AWq.exit ?_ | refine AWq.loop ?_ | (refine Both.mk ?_ ?_ <;> intro hc <;> (first | exact Bool.noConfusion hc | exact absurd (by with_reducible rfl) hc | exact (hc : False).elim | exact absurd (by assumption) hc | exact absurd hc (by assumption) | (exfalso; omega) | exact absurd hc (by decide) | skip)) | (intro c hc; (try (simp only [AH.none_iff] at hc; repeat (have hn := hc.1; replace hc := hc.2))); (first | (have hc2 := Eq.trans hc (by with_reducible assumption); clear hc; subst hc2) | (refine i64_k hc ?_ ?_ ?_ ; omega; omega; (clear hc; intro hc; subst hc)) | (refine u64_k hc ?_ ?_ ?_ ; omega; omega; (clear hc; intro hc; subst hc)) | (refine u8_k hc ?_ ?_ ?_ ; omega; omega; (clear hc; intro hc; subst hc)) | subst hc | skip)) | (apply Exists.intro; apply And.intro; (focus (repeat (first | assumption | exact AH.set_same _ _ _ | ((first | refine AH.get_ne ?_ ?_ | refine AH.getd_ne ?_ ?_); (first | assumption | omega | exact Ne.symm (by assumption) | exact AH.ne_none (by assumption) (by assumption) | exact AH.none_ne (by assumption) (by assumption) | exact (AH.none_set (by assumption)).1 | exact Ne.symm (AH.none_set (by assumption)).1)))); done)) | (apply Exists.intro; apply And.intro; first | (with_reducible assumption) | ((try simp only [List.getElem?_drop, Nat.mul_one, Nat.add_zero, Nat.zero_add]); first | (with_reducible assumption) | (refine u8s_get ?_; omega) | (refine iS_get ?_; omega) | assumption | rfl)) | (apply And.intro; (first | rfl | (with_reducible assumption) | exact Nat.le_of_ble_eq_true rfl | omega | (exact Int.ofNat_lt.2 (Nat.lt_of_lt_of_eq (by with_reducible assumption) (by decide +kernel))) | assumption | (simp <;> fail) | (simp <;> omega) | (focus (repeat' (first | exact one_u8s _ | exact one_iS _ _ | rfl | apply one_take | apply one_drop | apply one_append)); done))))) <;> (try (conv => whnf))
  refine AWp_loop (σ := Nat) (5 :: 6 :: 7 :: 8 :: 9 :: 10 :: 11 :: 12 :: 13 :: 14 :: 15 :: 16 :: 17 :: 18 :: 19 :: 20 :: 21 :: 22 :: 23 :: 24 :: 25 :: 26 :: 27 :: 28 :: 29 :: 30 :: 31 :: []) (fun i => [(5, .sl r i 1 0 i none), (6, .int .i64 ((minSt a b i).2 : Nat)), (7, .int .i64 i)]) (fun i => H.set r (.row (dA (minSt a b i).1) i)) (fun i => i ≤ a.length) (fun i => a.length - i) 0 rfl (Nat.zero_le _) ⟨rfl, rfl, rfl, trivial⟩ (HLe.refl _) ?_
  intro i hi
  dsimp only at hi ⊢
  refine AWp.of tt_ok (dok _) rfl ?_
  have hok := hall i
  have hal := ha.at i
  have hbl := hb.at i
  have hc1 := hok.c
  have hlen : (dA (minSt a b i).1).length = i * 1 := by rw [dA_len, hok.len, Nat.mul_one]
  have kr : (H.set r (.row (dA (minSt a b i).1) i)) r = some (.row (dA (minSt a b i).1) i) := AH.set_same _ _ _
  have hnx : minSt a b (i + 1) = if a.getD i 0 < b.getD i 0 + (minSt a b i).2 then ((minSt a b i).1 ++ [a.getD i 0 + 10000 - b.getD i 0 - (minSt a b i).2], 1) else ((minSt a b i).1 ++ [a.getD i 0 - b.getD i 0 - (minSt a b i).2], 0) := rfl
  have ha1 := fun H => hat1 i H
  have ha2 := fun H => hat2 i H
  by_cases hin : i < a.length
  · generalize (minSt a b i).2 = cy at *
    generalize a.getD i 0 = x at *
    generalize b.getD i 0 = z at *
    have hfin : ∀ G, G = H.set r (.row (dA (minSt a b i).1) i) → ∀ d : Nat, (minSt a b (i + 1)).1 = (minSt a b i).1 ++ [d] → ∀ Z : Int, Z = d → HLe (H.set r (.row (dA (minSt a b (i + 1)).1) (i + 1))) (G.set r (.row (dA (minSt a b i).1 ++ [.int .i64 Z]) (i + 1))) := fun G hG d hd Z hZ => by
      rw [hG, AH.set_set, hZ, dA_snoc, hd]
      exact HLe.refl _
    generalize hG : H.set r (.row (dA (minSt a b i).1) i) = G at *
    by_cases hlt : x < z + cy
    · rw [if_pos hlt] at hnx
      have f1 : (minSt a b (i + 1)).1 = (minSt a b i).1 ++ [x + 10000 - z - cy] := by rw [hnx]
      have f2 : (minSt a b (i + 1)).2 = 1 := by rw [hnx]
      (repeat' ((conv => whnf); first | refine Then.mk ?_ | left | refine OpsA.cons ?_ | refine OpsA.nil ?_ | refine AWq.seq ?_ | refine AWq.region ?_ | refine AWq.cond ?_ | refine AWq.block ?_ | refine AWq.skip ?_ | refine AWq.ret ?_ | refine AWq.exit ?_ | refine AWq.loop ?_ | (refine ACall.to (ha1 _) ?_) | (refine ACall.to (ha2 _) ?_) | (refine Both.mk ?_ ?_ <;> intro hc <;> (first | exact Bool.noConfusion hc | exact absurd (by with_reducible rfl) hc | exact (hc : False).elim | exact absurd (by assumption) hc | exact absurd hc (by assumption) | (exfalso; omega) | exact absurd hc (by decide) | skip)) | (intro c hc; (try (simp only [AH.none_iff] at hc; repeat (have hn := hc.1; replace hc := hc.2))); (first | (have hc2 := Eq.trans hc (by with_reducible assumption); clear hc; subst hc2) | (refine i64_k hc ?_ ?_ ?_ ; omega; omega; (clear hc; intro hc; subst hc)) | (refine u64_k hc ?_ ?_ ?_ ; omega; omega; (clear hc; intro hc; subst hc)) | (refine u8_k hc ?_ ?_ ?_ ; omega; omega; (clear hc; intro hc; subst hc)) | subst hc | skip)) | (apply Exists.intro; apply And.intro; (focus (repeat (first | assumption | exact AH.set_same _ _ _ | ((first | refine AH.get_ne ?_ ?_ | refine AH.getd_ne ?_ ?_); (first | assumption | omega | exact Ne.symm (by assumption) | exact AH.ne_none (by assumption) (by assumption) | exact AH.none_ne (by assumption) (by assumption) | exact (AH.none_set (by assumption)).1 | exact Ne.symm (AH.none_set (by assumption)).1)))); done)) | (apply Exists.intro; apply And.intro; first | (with_reducible assumption) | ((try simp only [List.getElem?_drop, Nat.mul_one, Nat.add_zero, Nat.zero_add]); first | (with_reducible assumption) | (refine u8s_get ?_; omega) | (refine iS_get ?_; omega) | assumption | rfl)) | (apply And.intro; (first | rfl | (with_reducible assumption) | exact Nat.le_of_ble_eq_true rfl | omega | (exact Int.ofNat_lt.2 (Nat.lt_of_lt_of_eq (by with_reducible assumption) (by decide +kernel))) | assumption | (simp <;> fail) | (simp <;> omega) | (focus (repeat' (first | exact one_u8s _ | exact one_iS _ _ | rfl | apply one_take | apply one_drop | apply one_append)); done))))) <;> (try (conv => whnf))
      exact ⟨i + 1, hin, by omega, ⟨rfl, congrArg (AV.int .i64) (by omega), congrArg (AV.int .i64) (by omega), trivial⟩, hfin _ rfl _ f1 _ (by omega)⟩
    · rw [if_neg hlt] at hnx
      have f1 : (minSt a b (i + 1)).1 = (minSt a b i).1 ++ [x - z - cy] := by rw [hnx]
      have f2 : (minSt a b (i + 1)).2 = 0 := by rw [hnx]
      (repeat' ((conv => whnf); first | refine Then.mk ?_ | left | refine OpsA.cons ?_ | refine OpsA.nil ?_ | refine AWq.seq ?_ | refine AWq.region ?_ | refine AWq.cond ?_ | refine AWq.block ?_ | refine AWq.skip ?_ | refine AWq.ret ?_ | refine AWq.exit ?_ | refine AWq.loop ?_ | (refine ACall.to (ha1 _) ?_) | (refine ACall.to (ha2 _) ?_) | (refine Both.mk ?_ ?_ <;> intro hc <;> (first | exact Bool.noConfusion hc | exact absurd (by with_reducible rfl) hc | exact (hc : False).elim | exact absurd (by assumption) hc | exact absurd hc (by assumption) | (exfalso; omega) | exact absurd hc (by decide) | skip)) | (intro c hc; (try (simp only [AH.none_iff] at hc; repeat (have hn := hc.1; replace hc := hc.2))); (first | (have hc2 := Eq.trans hc (by with_reducible assumption); clear hc; subst hc2) | (refine i64_k hc ?_ ?_ ?_ ; omega; omega; (clear hc; intro hc; subst hc)) | (refine u64_k hc ?_ ?_ ?_ ; omega; omega; (clear hc; intro hc; subst hc)) | (refine u8_k hc ?_ ?_ ?_ ; omega; omega; (clear hc; intro hc; subst hc)) | subst hc | skip)) | (apply Exists.intro; apply And.intro; (focus (repeat (first | assumption | exact AH.set_same _ _ _ | ((first | refine AH.get_ne ?_ ?_ | refine AH.getd_ne ?_ ?_); (first | assumption | omega | exact Ne.symm (by assumption) | exact AH.ne_none (by assumption) (by assumption) | exact AH.none_ne (by assumption) (by assumption) | exact (AH.none_set (by assumption)).1 | exact Ne.symm (AH.none_set (by assumption)).1)))); done)) | (apply Exists.intro; apply And.intro; first | (with_reducible assumption) | ((try simp only [List.getElem?_drop, Nat.mul_one, Nat.add_zero, Nat.zero_add]); first | (with_reducible assumption) | (refine u8s_get ?_; omega) | (refine iS_get ?_; omega) | assumption | rfl)) | (apply And.intro; (first | rfl | (with_reducible assumption) | exact Nat.le_of_ble_eq_true rfl | omega | (exact Int.ofNat_lt.2 (Nat.lt_of_lt_of_eq (by with_reducible assumption) (by decide +kernel))) | assumption | (simp <;> fail) | (simp <;> omega) | (focus (repeat' (first | exact one_u8s _ | exact one_iS _ _ | rfl | apply one_take | apply one_drop | apply one_append)); done))))) <;> (try (conv => whnf))
      exact ⟨i + 1, hin, by omega, ⟨rfl, congrArg (AV.int .i64) (by omega), congrArg (AV.int .i64) (by omega), trivial⟩, hfin _ rfl _ f1 _ (by omega)⟩
  · have hie : i = a.length := by omega
    have hL : dA (minL a b) = dA (minSt a b i).1 := by unfold minL; rw [hie]
    rw [hL, ← hie]
    (repeat' ((conv => whnf); first | left | refine OpsA.cons ?_ | refine OpsA.nil ?_ | refine AWq.seq ?_ | refine AWq.region ?_ | refine AWq.cond ?_ | refine AWq.block ?_ | refine AWq.skip ?_ | refine AWq.ret ?_ | refine AWq.exit ?_ | refine AWq.loop ?_ | (refine Both.mk ?_ ?_ <;> intro hc <;> (first | exact Bool.noConfusion hc | exact absurd (by with_reducible rfl) hc | exact (hc : False).elim | exact absurd (by assumption) hc | exact absurd hc (by assumption) | (exfalso; omega) | exact absurd hc (by decide) | skip)) | (intro c hc; (try (simp only [AH.none_iff] at hc; repeat (have hn := hc.1; replace hc := hc.2))); (first | (have hc2 := Eq.trans hc (by with_reducible assumption); clear hc; subst hc2) | (refine i64_k hc ?_ ?_ ?_ ; omega; omega; (clear hc; intro hc; subst hc)) | (refine u64_k hc ?_ ?_ ?_ ; omega; omega; (clear hc; intro hc; subst hc)) | (refine u8_k hc ?_ ?_ ?_ ; omega; omega; (clear hc; intro hc; subst hc)) | subst hc | skip)) | (apply Exists.intro; apply And.intro; (focus (repeat (first | assumption | exact AH.set_same _ _ _ | ((first | refine AH.get_ne ?_ ?_ | refine AH.getd_ne ?_ ?_); (first | assumption | omega | exact Ne.symm (by assumption) | exact AH.ne_none (by assumption) (by assumption) | exact AH.none_ne (by assumption) (by assumption) | exact (AH.none_set (by assumption)).1 | exact Ne.symm (AH.none_set (by assumption)).1)))); done)) | (apply Exists.intro; apply And.intro; first | (with_reducible assumption) | ((try simp only [List.getElem?_drop, Nat.mul_one, Nat.add_zero, Nat.zero_add]); first | (with_reducible assumption) | (refine u8s_get ?_; omega) | (refine iS_get ?_; omega) | assumption | rfl)) | (apply And.intro; (first | rfl | (with_reducible assumption) | exact Nat.le_of_ble_eq_true rfl | omega | (exact Int.ofNat_lt.2 (Nat.lt_of_lt_of_eq (by with_reducible assumption) (by decide +kernel))) | assumption | (simp <;> fail) | (simp <;> omega) | (focus (repeat' (first | exact one_u8s _ | exact one_iS _ _ | rfl | apply one_take | apply one_drop | apply one_append)); done))))) <;> (try (conv => whnf))
    refine Then.mk (AWq.in ?_)
    refine AWp_freeze1 (r := r) (v := i) (es := 1) (n := i) (lim := none) (cells := dA (minSt a b i).1) 5 rfl rfl kr hlen ?_
    refine AWp.of tt_ok (dok _) rfl ?_
    (repeat' ((conv => whnf); first | refine Then.mk ?_ | left | refine OpsA.cons ?_ | refine OpsA.nil ?_ | refine AWq.seq ?_ | refine AWq.region ?_ | refine AWq.cond ?_ | refine AWq.block ?_ | refine AWq.skip ?_ | refine AWq.ret ?_ | refine AWq.exit ?_ | refine AWq.loop ?_ | (refine Both.mk ?_ ?_ <;> intro hc <;> (first | exact Bool.noConfusion hc | exact absurd (by with_reducible rfl) hc | exact (hc : False).elim | exact absurd (by assumption) hc | exact absurd hc (by assumption) | (exfalso; omega) | exact absurd hc (by decide) | skip)) | (intro c hc; (try (simp only [AH.none_iff] at hc; repeat (have hn := hc.1; replace hc := hc.2))); (first | (have hc2 := Eq.trans hc (by with_reducible assumption); clear hc; subst hc2) | (refine i64_k hc ?_ ?_ ?_ ; omega; omega; (clear hc; intro hc; subst hc)) | (refine u64_k hc ?_ ?_ ?_ ; omega; omega; (clear hc; intro hc; subst hc)) | (refine u8_k hc ?_ ?_ ?_ ; omega; omega; (clear hc; intro hc; subst hc)) | subst hc | skip)) | (apply Exists.intro; apply And.intro; (focus (repeat (first | assumption | exact AH.set_same _ _ _ | ((first | refine AH.get_ne ?_ ?_ | refine AH.getd_ne ?_ ?_); (first | assumption | omega | exact Ne.symm (by assumption) | exact AH.ne_none (by assumption) (by assumption) | exact AH.none_ne (by assumption) (by assumption) | exact (AH.none_set (by assumption)).1 | exact Ne.symm (AH.none_set (by assumption)).1)))); done)) | (apply Exists.intro; apply And.intro; first | (with_reducible assumption) | ((try simp only [List.getElem?_drop, Nat.mul_one, Nat.add_zero, Nat.zero_add]); first | (with_reducible assumption) | (refine u8s_get ?_; omega) | (refine iS_get ?_; omega) | assumption | rfl)) | (apply And.intro; (first | rfl | (with_reducible assumption) | exact Nat.le_of_ble_eq_true rfl | omega | (exact Int.ofNat_lt.2 (Nat.lt_of_lt_of_eq (by with_reducible assumption) (by decide +kernel))) | assumption | (simp <;> fail) | (simp <;> omega) | (focus (repeat' (first | exact one_u8s _ | exact one_iS _ _ | rfl | apply one_take | apply one_drop | apply one_append)); done))))) <;> (try (conv => whnf))
    exact HLe.del _ (HLe.fresh _ hr) hr

def cmpV (x y : Nat) : Int := if x < y then -1 else if y < x then 1 else 0
theorem dg_short {x y : Nat} (h : (dg x).length < (dg y).length) : x < y := by
  have h1 := dv_lt (dok_dg x)
  rw [dv_dg] at h1
  by_cases hxy : x < y
  · exact hxy
  · have := dg_len (n := y) (k := (dg x).length) (by omega)
    omega
theorem dv_split (a : List Nat) {i : Nat} (h : i < a.length) : dv a = dv (a.take i) + 10000 ^ i * (a.getD i 0 + 10000 * dv (a.drop (i + 1))) := by
  have e : a = a.take i ++ (a.getD i 0 :: a.drop (i + 1)) := by
    have h2 : a.getD i 0 = a[i] := by rw [List.getD_eq_getElem?_getD, List.getElem?_eq_getElem h]; rfl
    rw [h2, ← List.drop_eq_getElem_cons h, List.take_append_drop]
  conv => lhs; rw [e]
  rw [dv_app, List.length_take, Nat.min_eq_left (by omega)]
  rfl
theorem dv_less {a b : List Nat} (ha : DOk a) {i : Nat} (h1 : i < a.length) (h2 : i < b.length) (hd : a.drop (i + 1) = b.drop (i + 1)) (h : a.getD i 0 < b.getD i 0) : dv a < dv b := by
  have ht := dv_lt (ha.take i)
  rw [List.length_take, Nat.min_eq_left (by omega)] at ht
  rw [dv_split a h1, dv_split b h2, hd]
  have : 10000 ^ i * (a.getD i 0 + 10000 * dv (b.drop (i + 1)) + 1) ≤ 10000 ^ i * (b.getD i 0 + 10000 * dv (b.drop (i + 1))) := Nat.mul_le_mul_left _ (by omega)
  rw [Nat.mul_add] at this
  omega

set_option maxRecDepth 8000 in
theorem compared_c (x y : Nat) (hx : (dg x).length ≤ 100000000) (hy : (dg y).length ≤ 100000000) (H : AH) :
    ACall Try.prog 78 [.cs (dA (dg x)) (dg x).length, .cs (dA (dg y)) (dg y).length] H (fun v H' => v = .int .i64 (cmpV x y) ∧ H' = H) := by
  unfold cmpV
  by_cases h1 : (dg x).length < (dg y).length
  · rw [if_pos (dg_short h1)]
    refine ACall_of tt_ok (dok _) Try.func78 rfl (by decide) rfl ?_
    (repeat' ((conv => whnf); first | refine Then.mk ?_ | left | refine OpsA.cons ?_ | refine OpsA.nil ?_ | refine AWq.seq ?_ | refine AWq.region ?_ | refine AWq.cond ?_ | refine AWq.block ?_ | refine AWq.skip ?_ | refine AWq.ret ?_ | refine AWq.exit ?_ | refine AWq.loop ?_ | refine DrawA.consD ?_ | refine DrawA.nil ?_ | refine AWq.draw (by decide +kernel) ?_ | (refine Both.mk ?_ ?_ <;> intro hc <;> (first | exact Bool.noConfusion hc | exact absurd (by with_reducible rfl) hc | exact (hc : False).elim | exact absurd (by assumption) hc | exact absurd hc (by assumption) | (exfalso; omega) | exact absurd hc (by decide) | skip)) | (intro c hc; (try (simp only [AH.none_iff] at hc; repeat (have hn := hc.1; replace hc := hc.2))); (first | (have hc2 := Eq.trans hc (by with_reducible assumption); clear hc; subst hc2) | (refine i64_k hc ?_ ?_ ?_ ; omega; omega; (clear hc; intro hc; subst hc)) | (refine u64_k hc ?_ ?_ ?_ ; omega; omega; (clear hc; intro hc; subst hc)) | (refine u8_k hc ?_ ?_ ?_ ; omega; omega; (clear hc; intro hc; subst hc)) | subst hc | skip)) | (apply Exists.intro; apply And.intro; (focus (repeat (first | assumption | exact AH.set_same _ _ _ | ((first | refine AH.get_ne ?_ ?_ | refine AH.getd_ne ?_ ?_); (first | assumption | omega | exact Ne.symm (by assumption) | exact AH.ne_none (by assumption) (by assumption) | exact AH.none_ne (by assumption) (by assumption) | exact (AH.none_set (by assumption)).1 | exact Ne.symm (AH.none_set (by assumption)).1)))); done)) | (apply Exists.intro; apply And.intro; first | (with_reducible assumption) | ((try simp only [List.getElem?_drop, Nat.mul_one, Nat.add_zero, Nat.zero_add]); first | (with_reducible assumption) | (refine u8s_get ?_; omega) | (refine iS_get ?_; omega) | assumption | rfl)) | (apply And.intro; (first | rfl | (with_reducible assumption) | exact Nat.le_of_ble_eq_true rfl | omega | (exact Int.ofNat_lt.2 (Nat.lt_of_lt_of_eq (by with_reducible assumption) (by decide +kernel))) | assumption | (simp <;> fail) | (simp <;> omega) | (focus (repeat' (first | exact one_u8s _ | exact one_iS _ _ | rfl | apply one_take | apply one_drop | apply one_append)); done))))) <;> (try (conv => whnf))
  · by_cases h2 : (dg y).length < (dg x).length
    · have := dg_short h2
      rw [if_neg (by omega), if_pos this]
      refine ACall_of tt_ok (dok _) Try.func78 rfl (by decide) rfl ?_
      (repeat' ((conv => whnf); first | refine Then.mk ?_ | left | refine OpsA.cons ?_ | refine OpsA.nil ?_ | refine AWq.seq ?_ | refine AWq.region ?_ | refine AWq.cond ?_ | refine AWq.block ?_ | refine AWq.skip ?_ | refine AWq.ret ?_ | refine AWq.exit ?_ | refine AWq.loop ?_ | refine DrawA.consD ?_ | refine DrawA.nil ?_ | refine AWq.draw (by decide +kernel) ?_ | (refine Both.mk ?_ ?_ <;> intro hc <;> (first | exact Bool.noConfusion hc | exact absurd (by with_reducible rfl) hc | exact (hc : False).elim | exact absurd (by assumption) hc | exact absurd hc (by assumption) | (exfalso; omega) | exact absurd hc (by decide) | skip)) | (intro c hc; (try (simp only [AH.none_iff] at hc; repeat (have hn := hc.1; replace hc := hc.2))); (first | (have hc2 := Eq.trans hc (by with_reducible assumption); clear hc; subst hc2) | (refine i64_k hc ?_ ?_ ?_ ; omega; omega; (clear hc; intro hc; subst hc)) | (refine u64_k hc ?_ ?_ ?_ ; omega; omega; (clear hc; intro hc; subst hc)) | (refine u8_k hc ?_ ?_ ?_ ; omega; omega; (clear hc; intro hc; subst hc)) | subst hc | skip)) | (apply Exists.intro; apply And.intro; (focus (repeat (first | assumption | exact AH.set_same _ _ _ | ((first | refine AH.get_ne ?_ ?_ | refine AH.getd_ne ?_ ?_); (first | assumption | omega | exact Ne.symm (by assumption) | exact AH.ne_none (by assumption) (by assumption) | exact AH.none_ne (by assumption) (by assumption) | exact (AH.none_set (by assumption)).1 | exact Ne.symm (AH.none_set (by assumption)).1)))); done)) | (apply Exists.intro; apply And.intro; first | (with_reducible assumption) | ((try simp only [List.getElem?_drop, Nat.mul_one, Nat.add_zero, Nat.zero_add]); first | (with_reducible assumption) | (refine u8s_get ?_; omega) | (refine iS_get ?_; omega) | assumption | rfl)) | (apply And.intro; (first | rfl | (with_reducible assumption) | exact Nat.le_of_ble_eq_true rfl | omega | (exact Int.ofNat_lt.2 (Nat.lt_of_lt_of_eq (by with_reducible assumption) (by decide +kernel))) | assumption | (simp <;> fail) | (simp <;> omega) | (focus (repeat' (first | exact one_u8s _ | exact one_iS _ _ | rfl | apply one_take | apply one_drop | apply one_append)); done))))) <;> (try (conv => whnf))
    · have hl : (dg x).length = (dg y).length := by omega
      have ea := dv_dg x
      have eb := dv_dg y
      have oa := dok_dg x
      have ob := dok_dg y
      generalize dg x = a at *
      generalize dg y = b at *
      have hal : (dA a).length = a.length := by simp
      have hbl : (dA b).length = b.length := by simp
      refine ACall_of tt_ok (dok _) Try.func78 rfl (by decide) rfl ?_
      (repeat' ((conv => whnf); first | refine Then.mk ?_ | left | refine OpsA.cons ?_ | refine OpsA.nil ?_ | refine AWq.seq ?_ | refine AWq.region ?_ | refine AWq.cond ?_ | refine AWq.block ?_ | refine AWq.skip ?_ | refine AWq.ret ?_ | refine AWq.exit ?_ | refine AWq.loop ?_ | refine DrawA.consD ?_ | refine DrawA.nil ?_ | refine AWq.draw (by decide +kernel) ?_ | (refine Both.mk ?_ ?_ <;> intro hc <;> (first | exact Bool.noConfusion hc | exact absurd (by with_reducible rfl) hc | exact (hc : False).elim | exact absurd (by assumption) hc | exact absurd hc (by assumption) | (exfalso; omega) | exact absurd hc (by decide) | skip)) | (intro c hc; (try (simp only [AH.none_iff] at hc; repeat (have hn := hc.1; replace hc := hc.2))); (first | (have hc2 := Eq.trans hc (by with_reducible assumption); clear hc; subst hc2) | (refine i64_k hc ?_ ?_ ?_ ; omega; omega; (clear hc; intro hc; subst hc)) | (refine u64_k hc ?_ ?_ ?_ ; omega; omega; (clear hc; intro hc; subst hc)) | (refine u8_k hc ?_ ?_ ?_ ; omega; omega; (clear hc; intro hc; subst hc)) | subst hc | skip)) | (apply Exists.intro; apply And.intro; (focus (repeat (first | assumption | exact AH.set_same _ _ _ | ((first | refine AH.get_ne ?_ ?_ | refine AH.getd_ne ?_ ?_); (first | assumption | omega | exact Ne.symm (by assumption) | exact AH.ne_none (by assumption) (by assumption) | exact AH.none_ne (by assumption) (by assumption) | exact (AH.none_set (by assumption)).1 | exact Ne.symm (AH.none_set (by assumption)).1)))); done)) | (apply Exists.intro; apply And.intro; first | (with_reducible assumption) | ((try simp only [List.getElem?_drop, Nat.mul_one, Nat.add_zero, Nat.zero_add]); first | (with_reducible assumption) | (refine u8s_get ?_; omega) | (refine iS_get ?_; omega) | assumption | rfl)) | (apply And.intro; (first | rfl | (with_reducible assumption) | exact Nat.le_of_ble_eq_true rfl | omega | (exact Int.ofNat_lt.2 (Nat.lt_of_lt_of_eq (by with_reducible assumption) (by decide +kernel))) | assumption | (simp <;> fail) | (simp <;> omega) | (focus (repeat' (first | exact one_u8s _ | exact one_iS _ _ | rfl | apply one_take | apply one_drop | apply one_append)); done))))) <;> (try (conv => whnf))
      refine AWp_loop (σ := Nat) (4 :: 5 :: 19 :: 20 :: 21 :: 22 :: 23 :: 24 :: 25 :: 26 :: 27 :: 28 :: 29 :: 30 :: 31 :: 32 :: 33 :: 34 :: 35 :: 36 :: 37 :: 38 :: 39 :: 40 :: []) (fun k => [(5, .int .i64 ((k : Int) - 1))]) (fun k => H) (fun k => k ≤ a.length ∧ a.drop k = b.drop k) (fun k => k) a.length rfl ⟨Nat.le_refl _, by rw [List.drop_length, hl, List.drop_length]⟩ ⟨rfl, trivial⟩ (HLe.refl _) ?_
      rintro k ⟨hk, hd⟩
      dsimp only at hk hd ⊢
      refine AWp.of tt_ok (dok _) rfl ?_
      by_cases h0 : k = 0
      · subst h0
        have hab : a = b := by simpa using hd
        have hxy : x = y := by rw [← ea, ← eb, hab]
        rw [if_neg (by omega), if_neg (by omega)]
        (repeat' ((conv => whnf); first | refine Then.mk ?_ | left | refine OpsA.cons ?_ | refine OpsA.nil ?_ | refine AWq.seq ?_ | refine AWq.region ?_ | refine AWq.cond ?_ | refine AWq.block ?_ | refine AWq.skip ?_ | refine AWq.ret ?_ | refine AWq.exit ?_ | refine AWq.loop ?_ | refine DrawA.consD ?_ | refine DrawA.nil ?_ | refine AWq.draw (by decide +kernel) ?_ | (refine Both.mk ?_ ?_ <;> intro hc <;> (first | exact Bool.noConfusion hc | exact absurd (by with_reducible rfl) hc | exact (hc : False).elim | exact absurd (by assumption) hc | exact absurd hc (by assumption) | (exfalso; omega) | exact absurd hc (by decide) | skip)) | (intro c hc; (try (simp only [AH.none_iff] at hc; repeat (have hn := hc.1; replace hc := hc.2))); (first | (have hc2 := Eq.trans hc (by with_reducible assumption); clear hc; subst hc2) | (refine i64_k hc ?_ ?_ ?_ ; omega; omega; (clear hc; intro hc; subst hc)) | (refine u64_k hc ?_ ?_ ?_ ; omega; omega; (clear hc; intro hc; subst hc)) | (refine u8_k hc ?_ ?_ ?_ ; omega; omega; (clear hc; intro hc; subst hc)) | subst hc | skip)) | (apply Exists.intro; apply And.intro; (focus (repeat (first | assumption | exact AH.set_same _ _ _ | ((first | refine AH.get_ne ?_ ?_ | refine AH.getd_ne ?_ ?_); (first | assumption | omega | exact Ne.symm (by assumption) | exact AH.ne_none (by assumption) (by assumption) | exact AH.none_ne (by assumption) (by assumption) | exact (AH.none_set (by assumption)).1 | exact Ne.symm (AH.none_set (by assumption)).1)))); done)) | (apply Exists.intro; apply And.intro; first | (with_reducible assumption) | ((try simp only [List.getElem?_drop, Nat.mul_one, Nat.add_zero, Nat.zero_add]); first | (with_reducible assumption) | (refine u8s_get ?_; omega) | (refine iS_get ?_; omega) | assumption | rfl)) | (apply And.intro; (first | rfl | (with_reducible assumption) | exact Nat.le_of_ble_eq_true rfl | omega | (exact Int.ofNat_lt.2 (Nat.lt_of_lt_of_eq (by with_reducible assumption) (by decide +kernel))) | assumption | (simp <;> fail) | (simp <;> omega) | (focus (repeat' (first | exact one_u8s _ | exact one_iS _ _ | rfl | apply one_take | apply one_drop | apply one_append)); done))))) <;> (try (conv => whnf))
      · obtain ⟨j, rfl⟩ : ∃ j, k = j + 1 := ⟨k - 1, by omega⟩
        have hj : ((j + 1 : Nat) : Int) - 1 = (j : Int) := by omega
        have ga := dA_gi (l := a) (i := j) (by omega)
        have gb := dA_gi (l := b) (i := j) (by omega)
        rw [hj]
        by_cases hlt : a.getD j 0 < b.getD j 0
        · have hres := dv_less oa (by omega) (by omega) hd hlt
          rw [if_pos (by omega)]
          generalize a.getD j 0 = p at *
          generalize b.getD j 0 = q at *
          (repeat' ((conv => whnf); first | refine Then.mk ?_ | left | refine OpsA.cons ?_ | refine OpsA.nil ?_ | refine AWq.seq ?_ | refine AWq.region ?_ | refine AWq.cond ?_ | refine AWq.block ?_ | refine AWq.skip ?_ | refine AWq.ret ?_ | refine AWq.exit ?_ | refine AWq.loop ?_ | refine DrawA.consD ?_ | refine DrawA.nil ?_ | refine AWq.draw (by decide +kernel) ?_ | (refine Both.mk ?_ ?_ <;> intro hc <;> (first | exact Bool.noConfusion hc | exact absurd (by with_reducible rfl) hc | exact (hc : False).elim | exact absurd (by assumption) hc | exact absurd hc (by assumption) | (exfalso; omega) | exact absurd hc (by decide) | skip)) | (intro c hc; (try (simp only [AH.none_iff] at hc; repeat (have hn := hc.1; replace hc := hc.2))); (first | (have hc2 := Eq.trans hc (by with_reducible assumption); clear hc; subst hc2) | (refine i64_k hc ?_ ?_ ?_ ; omega; omega; (clear hc; intro hc; subst hc)) | (refine u64_k hc ?_ ?_ ?_ ; omega; omega; (clear hc; intro hc; subst hc)) | (refine u8_k hc ?_ ?_ ?_ ; omega; omega; (clear hc; intro hc; subst hc)) | subst hc | skip)) | (apply Exists.intro; apply And.intro; (focus (repeat (first | assumption | exact AH.set_same _ _ _ | ((first | refine AH.get_ne ?_ ?_ | refine AH.getd_ne ?_ ?_); (first | assumption | omega | exact Ne.symm (by assumption) | exact AH.ne_none (by assumption) (by assumption) | exact AH.none_ne (by assumption) (by assumption) | exact (AH.none_set (by assumption)).1 | exact Ne.symm (AH.none_set (by assumption)).1)))); done)) | (apply Exists.intro; apply And.intro; first | (with_reducible assumption) | ((try simp only [List.getElem?_drop, Nat.mul_one, Nat.add_zero, Nat.zero_add]); first | (with_reducible assumption) | (refine u8s_get ?_; omega) | (refine iS_get ?_; omega) | assumption | rfl)) | (apply And.intro; (first | rfl | (with_reducible assumption) | exact Nat.le_of_ble_eq_true rfl | omega | (exact Int.ofNat_lt.2 (Nat.lt_of_lt_of_eq (by with_reducible assumption) (by decide +kernel))) | assumption | (simp <;> fail) | (simp <;> omega) | (focus (repeat' (first | exact one_u8s _ | exact one_iS _ _ | rfl | apply one_take | apply one_drop | apply one_append)); done))))) <;> (try (conv => whnf))
        · by_cases hgt : b.getD j 0 < a.getD j 0
          · have hres := dv_less ob (by omega) (by omega) hd.symm hgt
            rw [if_neg (by omega), if_pos (by omega)]
            generalize a.getD j 0 = p at *
            generalize b.getD j 0 = q at *
            (repeat' ((conv => whnf); first | refine Then.mk ?_ | left | refine OpsA.cons ?_ | refine OpsA.nil ?_ | refine AWq.seq ?_ | refine AWq.region ?_ | refine AWq.cond ?_ | refine AWq.block ?_ | refine AWq.skip ?_ | refine AWq.ret ?_ | refine AWq.exit ?_ | refine AWq.loop ?_ | refine DrawA.consD ?_ | refine DrawA.nil ?_ | refine AWq.draw (by decide +kernel) ?_ | (refine Both.mk ?_ ?_ <;> intro hc <;> (first | exact Bool.noConfusion hc | exact absurd (by with_reducible rfl) hc | exact (hc : False).elim | exact absurd (by assumption) hc | exact absurd hc (by assumption) | (exfalso; omega) | exact absurd hc (by decide) | skip)) | (intro c hc; (try (simp only [AH.none_iff] at hc; repeat (have hn := hc.1; replace hc := hc.2))); (first | (have hc2 := Eq.trans hc (by with_reducible assumption); clear hc; subst hc2) | (refine i64_k hc ?_ ?_ ?_ ; omega; omega; (clear hc; intro hc; subst hc)) | (refine u64_k hc ?_ ?_ ?_ ; omega; omega; (clear hc; intro hc; subst hc)) | (refine u8_k hc ?_ ?_ ?_ ; omega; omega; (clear hc; intro hc; subst hc)) | subst hc | skip)) | (apply Exists.intro; apply And.intro; (focus (repeat (first | assumption | exact AH.set_same _ _ _ | ((first | refine AH.get_ne ?_ ?_ | refine AH.getd_ne ?_ ?_); (first | assumption | omega | exact Ne.symm (by assumption) | exact AH.ne_none (by assumption) (by assumption) | exact AH.none_ne (by assumption) (by assumption) | exact (AH.none_set (by assumption)).1 | exact Ne.symm (AH.none_set (by assumption)).1)))); done)) | (apply Exists.intro; apply And.intro; first | (with_reducible assumption) | ((try simp only [List.getElem?_drop, Nat.mul_one, Nat.add_zero, Nat.zero_add]); first | (with_reducible assumption) | (refine u8s_get ?_; omega) | (refine iS_get ?_; omega) | assumption | rfl)) | (apply And.intro; (first | rfl | (with_reducible assumption) | exact Nat.le_of_ble_eq_true rfl | omega | (exact Int.ofNat_lt.2 (Nat.lt_of_lt_of_eq (by with_reducible assumption) (by decide +kernel))) | assumption | (simp <;> fail) | (simp <;> omega) | (focus (repeat' (first | exact one_u8s _ | exact one_iS _ _ | rfl | apply one_take | apply one_drop | apply one_append)); done))))) <;> (try (conv => whnf))
          · have hd2 : a.drop j = b.drop j := by
              have hja : j < a.length := by omega
              have hjb : j < b.length := by omega
              rw [List.drop_eq_getElem_cons hja, List.drop_eq_getElem_cons hjb, hd]
              have e1 : a.getD j 0 = a[j] := by rw [List.getD_eq_getElem?_getD, List.getElem?_eq_getElem hja]; rfl
              have e2 : b.getD j 0 = b[j] := by rw [List.getD_eq_getElem?_getD, List.getElem?_eq_getElem hjb]; rfl
              congr 1
              omega
            generalize a.getD j 0 = p at *
            generalize b.getD j 0 = q at *
            (repeat' ((conv => whnf); first | refine Then.mk ?_ | left | refine OpsA.cons ?_ | refine OpsA.nil ?_ | refine AWq.seq ?_ | refine AWq.region ?_ | refine AWq.cond ?_ | refine AWq.block ?_ | refine AWq.skip ?_ | refine AWq.ret ?_ | refine AWq.exit ?_ | refine AWq.loop ?_ | refine DrawA.consD ?_ | refine DrawA.nil ?_ | refine AWq.draw (by decide +kernel) ?_ | (refine Both.mk ?_ ?_ <;> intro hc <;> (first | exact Bool.noConfusion hc | exact absurd (by with_reducible rfl) hc | exact (hc : False).elim | exact absurd (by assumption) hc | exact absurd hc (by assumption) | (exfalso; omega) | exact absurd hc (by decide) | skip)) | (intro c hc; (try (simp only [AH.none_iff] at hc; repeat (have hn := hc.1; replace hc := hc.2))); (first | (have hc2 := Eq.trans hc (by with_reducible assumption); clear hc; subst hc2) | (refine i64_k hc ?_ ?_ ?_ ; omega; omega; (clear hc; intro hc; subst hc)) | (refine u64_k hc ?_ ?_ ?_ ; omega; omega; (clear hc; intro hc; subst hc)) | (refine u8_k hc ?_ ?_ ?_ ; omega; omega; (clear hc; intro hc; subst hc)) | subst hc | skip)) | (apply Exists.intro; apply And.intro; (focus (repeat (first | assumption | exact AH.set_same _ _ _ | ((first | refine AH.get_ne ?_ ?_ | refine AH.getd_ne ?_ ?_); (first | assumption | omega | exact Ne.symm (by assumption) | exact AH.ne_none (by assumption) (by assumption) | exact AH.none_ne (by assumption) (by assumption) | exact (AH.none_set (by assumption)).1 | exact Ne.symm (AH.none_set (by assumption)).1)))); done)) | (apply Exists.intro; apply And.intro; first | (with_reducible assumption) | ((try simp only [List.getElem?_drop, Nat.mul_one, Nat.add_zero, Nat.zero_add]); first | (with_reducible assumption) | (refine u8s_get ?_; omega) | (refine iS_get ?_; omega) | assumption | rfl)) | (apply And.intro; (first | rfl | (with_reducible assumption) | exact Nat.le_of_ble_eq_true rfl | omega | (exact Int.ofNat_lt.2 (Nat.lt_of_lt_of_eq (by with_reducible assumption) (by decide +kernel))) | assumption | (simp <;> fail) | (simp <;> omega) | (focus (repeat' (first | exact one_u8s _ | exact one_iS _ _ | rfl | apply one_take | apply one_drop | apply one_append)); done))))) <;> (try (conv => whnf))
            exact ⟨j, ⟨by omega, hd2⟩, Nat.lt_succ_self _, ⟨rfl, trivial⟩, HLe.refl _⟩
end Go.Proofs.Ytgmooalikccbiaa
/- The reference's integers: Neg, Add, Sub, Mul by a digit. -/
namespace Go.Proofs.Ytgmooalikccbiaa
open Go.Fw Go
set_option linter.unusedVariables false
set_option linter.unusedSimpArgs false

/-- An integer as it is handed over. -/
def nR (g : Bool) (n : Nat) : AV := .agg [.bool g, .cs (dA (dg n)) (dg n).length]
theorem nN_R (g : Bool) (n : Nat) : nN g n = nR (g && !decide (n = 0)) n := rfl
theorem nN_false (n : Nat) : nN false n = nR false n := rfl
set_option maxRecDepth 8000 in
theorem neg_c (g : Bool) (x : Nat) (hx : (dg x).length ≤ 100000000) (H : AH) :
    ACall Try.prog 70 [nR g x] H (fun y H' => y = nN (!g) x ∧ H' = H) := by
  refine ACall.back ?_
  have hnm := fun H => normal_k (!g) (dg x) (dok_dg x) (by omega) H
  rw [dv_dg] at hnm
  unfold nR
  refine ACall_of tt_ok (dok _) Try.func70 rfl (by decide) rfl ?_
  (repeat' ((conv => whnf); first | refine Then.mk ?_ | left | refine OpsA.cons ?_ | refine OpsA.nil ?_ | refine AWq.seq ?_ | refine AWq.region ?_ | refine AWq.cond ?_ | refine AWq.skip ?_ | refine AWq.ret ?_ | (refine ACall.to (hnm _) ?_) | (refine Both.mk ?_ ?_ <;> intro hc <;> (first | exact Bool.noConfusion hc | exact absurd (by with_reducible rfl) hc | exact (hc : False).elim | exact absurd (by assumption) hc | exact absurd hc (by assumption) | (exfalso; omega) | exact absurd hc (by decide) | skip)) | (intro c hc; (try (simp only [AH.none_iff] at hc; repeat (have hn := hc.1; replace hc := hc.2))); (first | (have hc2 := Eq.trans hc (by with_reducible assumption); clear hc; subst hc2) | (refine i64_k hc ?_ ?_ ?_ ; omega; omega; (clear hc; intro hc; subst hc)) | (refine u64_k hc ?_ ?_ ?_ ; omega; omega; (clear hc; intro hc; subst hc)) | (refine u8_k hc ?_ ?_ ?_ ; omega; omega; (clear hc; intro hc; subst hc)) | subst hc | skip)) | (apply Exists.intro; apply And.intro; (focus (repeat (first | assumption | exact AH.set_same _ _ _ | ((first | refine AH.get_ne ?_ ?_ | refine AH.getd_ne ?_ ?_); (first | assumption | omega | exact Ne.symm (by assumption) | exact AH.ne_none (by assumption) (by assumption) | exact AH.none_ne (by assumption) (by assumption) | exact (AH.none_set (by assumption)).1 | exact Ne.symm (AH.none_set (by assumption)).1)))); done)) | (apply Exists.intro; apply And.intro; first | (with_reducible assumption) | ((try simp only [List.getElem?_drop, Nat.mul_one, Nat.add_zero, Nat.zero_add]); first | (with_reducible assumption) | (refine u8s_get ?_; omega) | (refine iS_get ?_; omega) | assumption | rfl)) | (apply And.intro; (first | rfl | (with_reducible assumption) | exact Nat.le_of_ble_eq_true rfl | omega | (exact Int.ofNat_lt.2 (Nat.lt_of_lt_of_eq (by with_reducible assumption) (by decide +kernel))) | assumption | (simp <;> fail) | (simp <;> omega) | (focus (repeat' (first | exact one_u8s _ | exact one_iS _ _ | rfl | apply one_take | apply one_drop | apply one_append)); done))))) <;> (try (conv => whnf))
  ((repeat' (first | refine HLe.set_of _ _ ?_ ?_ | refine HLe.del _ ?_ ?_)) <;> (first | assumption | exact HLe.refl _ | exact HLe.none (by assumption) (by assumption) | (simp_all; done)))

set_option maxRecDepth 8000 in
theorem add_c (g k : Bool) (x y : Nat) (hx : (dg x).length ≤ 50000000) (hy : (dg y).length ≤ 50000000) (H : AH) :
    ACall Try.prog 71 [nR g x, nR k y] H (fun v H' => v = (if g = k then nN g (x + y) else if x < y then nN k (y - x) else nN g (x - y)) ∧ H' = H) := by
  refine ACall.back ?_
  unfold nR
  have oa := dok_dg x
  have ob := dok_dg y
  by_cases hgk : g = k
  · subst hgk
    rw [if_pos rfl]
    obtain ⟨o1, o2, o3⟩ := plusL_ok oa ob
    obtain ⟨g1, g2, g3⟩ := plusN_ge (dg x) (dg y)
    have hp := fun H => plus_c (dg x) (dg y) oa ob (by omega) (by omega) H
    have hnm := fun H => normal_k g (plusL (dg x) (dg y)) o1 (by omega) H
    rw [o2, dv_dg, dv_dg] at hnm
    generalize plusL (dg x) (dg y) = s at *
    unfold nN at hnm ⊢
    cases g with
    | true =>
      refine ACall_of tt_ok (dok _) Try.func71 rfl (by decide) rfl ?_
      (repeat' ((conv => whnf); first | refine Then.mk ?_ | left | refine OpsA.cons ?_ | refine OpsA.nil ?_ | refine AWq.seq ?_ | refine AWq.region ?_ | refine AWq.cond ?_ | refine AWq.skip ?_ | refine AWq.ret ?_ | refine DrawA.consD ?_ | refine DrawA.nil ?_ | refine AWq.draw (by decide +kernel) ?_ | (refine ACall.to (hp _) ?_) | (refine ACall.to (hnm _) ?_) | (apply Exists.intro; apply And.intro; exact hp _) | (apply Exists.intro; apply And.intro; exact hnm _) | (apply Exists.intro; apply Exists.intro; apply And.intro; exact hp _) | (apply Exists.intro; apply Exists.intro; apply And.intro; exact hnm _) | (refine Both.mk ?_ ?_ <;> intro hc <;> (first | exact Bool.noConfusion hc | exact absurd (by with_reducible rfl) hc | exact (hc : False).elim | exact absurd (by assumption) hc | exact absurd hc (by assumption) | (exfalso; omega) | exact absurd hc (by decide) | skip)) | (intro c hc; (try (simp only [AH.none_iff] at hc; repeat (have hn := hc.1; replace hc := hc.2))); (first | (have hc2 := Eq.trans hc (by with_reducible assumption); clear hc; subst hc2) | (refine i64_k hc ?_ ?_ ?_ ; omega; omega; (clear hc; intro hc; subst hc)) | (refine u64_k hc ?_ ?_ ?_ ; omega; omega; (clear hc; intro hc; subst hc)) | (refine u8_k hc ?_ ?_ ?_ ; omega; omega; (clear hc; intro hc; subst hc)) | subst hc | skip)) | (apply Exists.intro; apply And.intro; (focus (repeat (first | assumption | exact AH.set_same _ _ _ | ((first | refine AH.get_ne ?_ ?_ | refine AH.getd_ne ?_ ?_); (first | assumption | omega | exact Ne.symm (by assumption) | exact AH.ne_none (by assumption) (by assumption) | exact AH.none_ne (by assumption) (by assumption) | exact (AH.none_set (by assumption)).1 | exact Ne.symm (AH.none_set (by assumption)).1)))); done)) | (apply Exists.intro; apply And.intro; first | (with_reducible assumption) | ((try simp only [List.getElem?_drop, Nat.mul_one, Nat.add_zero, Nat.zero_add]); first | (with_reducible assumption) | (refine u8s_get ?_; omega) | (refine iS_get ?_; omega) | assumption | rfl)) | (apply And.intro; (first | rfl | (with_reducible assumption) | exact Nat.le_of_ble_eq_true rfl | omega | (exact Int.ofNat_lt.2 (Nat.lt_of_lt_of_eq (by with_reducible assumption) (by decide +kernel))) | assumption | (simp <;> fail) | (simp <;> omega) | (focus (repeat' (first | exact one_u8s _ | exact one_iS _ _ | rfl | apply one_take | apply one_drop | apply one_append)); done))))) <;> (try (conv => whnf))
      ((repeat' (first | refine HLe.set_of _ _ ?_ ?_ | refine HLe.del _ ?_ ?_)) <;> (first | assumption | exact HLe.refl _ | exact HLe.none (by assumption) (by assumption) | (simp_all; done)))
    | false =>
      refine ACall_of tt_ok (dok _) Try.func71 rfl (by decide) rfl ?_
      (repeat' ((conv => whnf); first | refine Then.mk ?_ | left | refine OpsA.cons ?_ | refine OpsA.nil ?_ | refine AWq.seq ?_ | refine AWq.region ?_ | refine AWq.cond ?_ | refine AWq.skip ?_ | refine AWq.ret ?_ | refine DrawA.consD ?_ | refine DrawA.nil ?_ | refine AWq.draw (by decide +kernel) ?_ | (refine ACall.to (hp _) ?_) | (refine ACall.to (hnm _) ?_) | (apply Exists.intro; apply And.intro; exact hp _) | (apply Exists.intro; apply And.intro; exact hnm _) | (apply Exists.intro; apply Exists.intro; apply And.intro; exact hp _) | (apply Exists.intro; apply Exists.intro; apply And.intro; exact hnm _) | (refine Both.mk ?_ ?_ <;> intro hc <;> (first | exact Bool.noConfusion hc | exact absurd (by with_reducible rfl) hc | exact (hc : False).elim | exact absurd (by assumption) hc | exact absurd hc (by assumption) | (exfalso; omega) | exact absurd hc (by decide) | skip)) | (intro c hc; (try (simp only [AH.none_iff] at hc; repeat (have hn := hc.1; replace hc := hc.2))); (first | (have hc2 := Eq.trans hc (by with_reducible assumption); clear hc; subst hc2) | (refine i64_k hc ?_ ?_ ?_ ; omega; omega; (clear hc; intro hc; subst hc)) | (refine u64_k hc ?_ ?_ ?_ ; omega; omega; (clear hc; intro hc; subst hc)) | (refine u8_k hc ?_ ?_ ?_ ; omega; omega; (clear hc; intro hc; subst hc)) | subst hc | skip)) | (apply Exists.intro; apply And.intro; (focus (repeat (first | assumption | exact AH.set_same _ _ _ | ((first | refine AH.get_ne ?_ ?_ | refine AH.getd_ne ?_ ?_); (first | assumption | omega | exact Ne.symm (by assumption) | exact AH.ne_none (by assumption) (by assumption) | exact AH.none_ne (by assumption) (by assumption) | exact (AH.none_set (by assumption)).1 | exact Ne.symm (AH.none_set (by assumption)).1)))); done)) | (apply Exists.intro; apply And.intro; first | (with_reducible assumption) | ((try simp only [List.getElem?_drop, Nat.mul_one, Nat.add_zero, Nat.zero_add]); first | (with_reducible assumption) | (refine u8s_get ?_; omega) | (refine iS_get ?_; omega) | assumption | rfl)) | (apply And.intro; (first | rfl | (with_reducible assumption) | exact Nat.le_of_ble_eq_true rfl | omega | (exact Int.ofNat_lt.2 (Nat.lt_of_lt_of_eq (by with_reducible assumption) (by decide +kernel))) | assumption | (simp <;> fail) | (simp <;> omega) | (focus (repeat' (first | exact one_u8s _ | exact one_iS _ _ | rfl | apply one_take | apply one_drop | apply one_append)); done))))) <;> (try (conv => whnf))
      ((repeat' (first | refine HLe.set_of _ _ ?_ ?_ | refine HLe.del _ ?_ ?_)) <;> (first | assumption | exact HLe.refl _ | exact HLe.none (by assumption) (by assumption) | (simp_all; done)))
  · rw [if_neg hgk]
    have hcp := fun H => compared_c x y (by omega) (by omega) H
    have hcv : cmpV x y = if x < y then -1 else if y < x then 1 else 0 := rfl
    have hshort : ∀ u v : Nat, u ≤ v → (dg u).length ≤ (dg v).length := fun u v h => by
      by_cases hl : (dg v).length < (dg u).length
      · have := dg_short hl; omega
      · omega
    by_cases hlt : x < y
    · rw [if_pos hlt]
      rw [if_pos hlt] at hcv
      rw [hcv] at hcp
      obtain ⟨o1, o2, o3⟩ := minL_ok ob oa (hshort x y (by omega)) (by rw [dv_dg, dv_dg]; omega)
      have hp := fun H => minus_c (dg y) (dg x) ob oa (by omega) H
      have hnm := fun H => normal_k k (minL (dg y) (dg x)) o1 (by omega) H
      rw [o2, dv_dg, dv_dg, o3] at hnm
      generalize minL (dg y) (dg x) = s at *
      unfold nN at hnm ⊢
      cases g <;> cases k <;> first | exact absurd rfl hgk | skip
      all_goals
        refine ACall_of tt_ok (dok _) Try.func71 rfl (by decide) rfl ?_
        (repeat' ((conv => whnf); first | refine Then.mk ?_ | left | refine OpsA.cons ?_ | refine OpsA.nil ?_ | refine AWq.seq ?_ | refine AWq.region ?_ | refine AWq.cond ?_ | refine AWq.skip ?_ | refine AWq.ret ?_ | refine DrawA.consD ?_ | refine DrawA.nil ?_ | refine AWq.draw (by decide +kernel) ?_ | (refine ACall.to (hp _) ?_) | (refine ACall.to (hnm _) ?_) | (refine ACall.to (hcp _) ?_) | (apply Exists.intro; apply And.intro; exact hp _) | (apply Exists.intro; apply And.intro; exact hnm _) | (apply Exists.intro; apply And.intro; exact hcp _) | (apply Exists.intro; apply Exists.intro; apply And.intro; exact hp _) | (apply Exists.intro; apply Exists.intro; apply And.intro; exact hnm _) | (apply Exists.intro; apply Exists.intro; apply And.intro; exact hcp _) | (refine Both.mk ?_ ?_ <;> intro hc <;> (first | exact Bool.noConfusion hc | exact absurd (by with_reducible rfl) hc | exact (hc : False).elim | exact absurd (by assumption) hc | exact absurd hc (by assumption) | (exfalso; omega) | exact absurd hc (by decide) | skip)) | (intro c hc; (try (simp only [AH.none_iff] at hc; repeat (have hn := hc.1; replace hc := hc.2))); (first | (have hc2 := Eq.trans hc (by with_reducible assumption); clear hc; subst hc2) | (refine i64_k hc ?_ ?_ ?_ ; omega; omega; (clear hc; intro hc; subst hc)) | (refine u64_k hc ?_ ?_ ?_ ; omega; omega; (clear hc; intro hc; subst hc)) | (refine u8_k hc ?_ ?_ ?_ ; omega; omega; (clear hc; intro hc; subst hc)) | subst hc | skip)) | (apply Exists.intro; apply And.intro; (focus (repeat (first | assumption | exact AH.set_same _ _ _ | ((first | refine AH.get_ne ?_ ?_ | refine AH.getd_ne ?_ ?_); (first | assumption | omega | exact Ne.symm (by assumption) | exact AH.ne_none (by assumption) (by assumption) | exact AH.none_ne (by assumption) (by assumption) | exact (AH.none_set (by assumption)).1 | exact Ne.symm (AH.none_set (by assumption)).1)))); done)) | (apply Exists.intro; apply And.intro; first | (with_reducible assumption) | ((try simp only [List.getElem?_drop, Nat.mul_one, Nat.add_zero, Nat.zero_add]); first | (with_reducible assumption) | (refine u8s_get ?_; omega) | (refine iS_get ?_; omega) | assumption | rfl)) | (apply And.intro; (first | rfl | (with_reducible assumption) | exact Nat.le_of_ble_eq_true rfl | omega | (exact Int.ofNat_lt.2 (Nat.lt_of_lt_of_eq (by with_reducible assumption) (by decide +kernel))) | assumption | (simp <;> fail) | (simp <;> omega) | (focus (repeat' (first | exact one_u8s _ | exact one_iS _ _ | rfl | apply one_take | apply one_drop | apply one_append)); done))))) <;> (try (conv => whnf))
        ((repeat' (first | refine HLe.set_of _ _ ?_ ?_ | refine HLe.del _ ?_ ?_)) <;> (first | assumption | exact HLe.refl _ | exact HLe.none (by assumption) (by assumption) | (simp_all; done)))
    · rw [if_neg hlt]
      obtain ⟨o1, o2, o3⟩ := minL_ok oa ob (hshort y x (by omega)) (by rw [dv_dg, dv_dg]; omega)
      have hp := fun H => minus_c (dg x) (dg y) oa ob (by omega) H
      have hnm := fun H => normal_k g (minL (dg x) (dg y)) o1 (by omega) H
      rw [o2, dv_dg, dv_dg, o3] at hnm
      have hc0 : 0 ≤ cmpV x y := by rw [hcv, if_neg hlt]; split <;> omega
      generalize cmpV x y = cv at *
      generalize minL (dg x) (dg y) = s at *
      unfold nN at hnm ⊢
      cases g <;> cases k <;> first | exact absurd rfl hgk | skip
      all_goals
        refine ACall_of tt_ok (dok _) Try.func71 rfl (by decide) rfl ?_
        (repeat' ((conv => whnf); first | refine Then.mk ?_ | left | refine OpsA.cons ?_ | refine OpsA.nil ?_ | refine AWq.seq ?_ | refine AWq.region ?_ | refine AWq.cond ?_ | refine AWq.skip ?_ | refine AWq.ret ?_ | refine DrawA.consD ?_ | refine DrawA.nil ?_ | refine AWq.draw (by decide +kernel) ?_ | (refine ACall.to (hp _) ?_) | (refine ACall.to (hnm _) ?_) | (refine ACall.to (hcp _) ?_) | (apply Exists.intro; apply And.intro; exact hp _) | (apply Exists.intro; apply And.intro; exact hnm _) | (apply Exists.intro; apply And.intro; exact hcp _) | (apply Exists.intro; apply Exists.intro; apply And.intro; exact hp _) | (apply Exists.intro; apply Exists.intro; apply And.intro; exact hnm _) | (apply Exists.intro; apply Exists.intro; apply And.intro; exact hcp _) | (refine Both.mk ?_ ?_ <;> intro hc <;> (first | exact Bool.noConfusion hc | exact absurd (by with_reducible rfl) hc | exact (hc : False).elim | exact absurd (by assumption) hc | exact absurd hc (by assumption) | (exfalso; omega) | exact absurd hc (by decide) | skip)) | (intro c hc; (try (simp only [AH.none_iff] at hc; repeat (have hn := hc.1; replace hc := hc.2))); (first | (have hc2 := Eq.trans hc (by with_reducible assumption); clear hc; subst hc2) | (refine i64_k hc ?_ ?_ ?_ ; omega; omega; (clear hc; intro hc; subst hc)) | (refine u64_k hc ?_ ?_ ?_ ; omega; omega; (clear hc; intro hc; subst hc)) | (refine u8_k hc ?_ ?_ ?_ ; omega; omega; (clear hc; intro hc; subst hc)) | subst hc | skip)) | (apply Exists.intro; apply And.intro; (focus (repeat (first | assumption | exact AH.set_same _ _ _ | ((first | refine AH.get_ne ?_ ?_ | refine AH.getd_ne ?_ ?_); (first | assumption | omega | exact Ne.symm (by assumption) | exact AH.ne_none (by assumption) (by assumption) | exact AH.none_ne (by assumption) (by assumption) | exact (AH.none_set (by assumption)).1 | exact Ne.symm (AH.none_set (by assumption)).1)))); done)) | (apply Exists.intro; apply And.intro; first | (with_reducible assumption) | ((try simp only [List.getElem?_drop, Nat.mul_one, Nat.add_zero, Nat.zero_add]); first | (with_reducible assumption) | (refine u8s_get ?_; omega) | (refine iS_get ?_; omega) | assumption | rfl)) | (apply And.intro; (first | rfl | (with_reducible assumption) | exact Nat.le_of_ble_eq_true rfl | omega | (exact Int.ofNat_lt.2 (Nat.lt_of_lt_of_eq (by with_reducible assumption) (by decide +kernel))) | assumption | (simp <;> fail) | (simp <;> omega) | (focus (repeat' (first | exact one_u8s _ | exact one_iS _ _ | rfl | apply one_take | apply one_drop | apply one_append)); done))))) <;> (try (conv => whnf))
        ((repeat' (first | refine HLe.set_of _ _ ?_ ?_ | refine HLe.del _ ?_ ?_)) <;> (first | assumption | exact HLe.refl _ | exact HLe.none (by assumption) (by assumption) | (simp_all; done)))

set_option maxRecDepth 8000 in
theorem sub_c (g k : Bool) (x y : Nat) (hx : (dg x).length ≤ 50000000) (hy : (dg y).length ≤ 50000000) (H : AH) :
    ACall Try.prog 69 [nR g x, nR k y] H (fun v H' => v = (if g = (!k && !decide (y = 0)) then nN g (x + y) else if x < y then nN (!k && !decide (y = 0)) (y - x) else nN g (x - y)) ∧ H' = H) := by
  refine ACall.back ?_
  have h1 := fun H => neg_c k y (by omega) H
  have h2 := fun H => add_c g (!k && !decide (y = 0)) x y hx hy H
  have hsh : ∃ r n, (if g = (!k && !decide (y = 0)) then nN g (x + y) else if x < y then nN (!k && !decide (y = 0)) (y - x) else nN g (x - y)) = nR r n := by
    split
    · exact ⟨_, _, nN_R _ _⟩
    · split
      · exact ⟨_, _, nN_R _ _⟩
      · exact ⟨_, _, nN_R _ _⟩
  obtain ⟨r, n, hrn⟩ := hsh
  rw [hrn] at h2 ⊢
  simp only [nN_R] at h1
  generalize (!k && !decide (y = 0)) = m at *
  unfold nR at *
  refine ACall_of tt_ok (dok _) Try.func69 rfl (by decide) rfl ?_
  (repeat' ((conv => whnf); first | refine Then.mk ?_ | left | refine OpsA.cons ?_ | refine OpsA.nil ?_ | refine AWq.seq ?_ | refine AWq.region ?_ | refine AWq.cond ?_ | refine AWq.skip ?_ | refine AWq.ret ?_ | refine DrawA.consD ?_ | refine DrawA.nil ?_ | refine AWq.draw (by decide +kernel) ?_ | (refine ACall.to (h1 _) ?_) | (refine ACall.to (h2 _) ?_) | (apply Exists.intro; apply And.intro; exact h1 _) | (apply Exists.intro; apply And.intro; exact h2 _) | (apply Exists.intro; apply Exists.intro; apply And.intro; exact h1 _) | (apply Exists.intro; apply Exists.intro; apply And.intro; exact h2 _) | (refine Both.mk ?_ ?_ <;> intro hc <;> (first | exact Bool.noConfusion hc | exact absurd (by with_reducible rfl) hc | exact (hc : False).elim | exact absurd (by assumption) hc | exact absurd hc (by assumption) | (exfalso; omega) | exact absurd hc (by decide) | skip)) | (intro c hc; (try (simp only [AH.none_iff] at hc; repeat (have hn := hc.1; replace hc := hc.2))); (first | (have hc2 := Eq.trans hc (by with_reducible assumption); clear hc; subst hc2) | (refine i64_k hc ?_ ?_ ?_ ; omega; omega; (clear hc; intro hc; subst hc)) | (refine u64_k hc ?_ ?_ ?_ ; omega; omega; (clear hc; intro hc; subst hc)) | (refine u8_k hc ?_ ?_ ?_ ; omega; omega; (clear hc; intro hc; subst hc)) | subst hc | skip)) | (apply Exists.intro; apply And.intro; (focus (repeat (first | assumption | exact AH.set_same _ _ _ | ((first | refine AH.get_ne ?_ ?_ | refine AH.getd_ne ?_ ?_); (first | assumption | omega | exact Ne.symm (by assumption) | exact AH.ne_none (by assumption) (by assumption) | exact AH.none_ne (by assumption) (by assumption) | exact (AH.none_set (by assumption)).1 | exact Ne.symm (AH.none_set (by assumption)).1)))); done)) | (apply Exists.intro; apply And.intro; first | (with_reducible assumption) | ((try simp only [List.getElem?_drop, Nat.mul_one, Nat.add_zero, Nat.zero_add]); first | (with_reducible assumption) | (refine u8s_get ?_; omega) | (refine iS_get ?_; omega) | assumption | rfl)) | (apply And.intro; (first | rfl | (with_reducible assumption) | exact Nat.le_of_ble_eq_true rfl | omega | (exact Int.ofNat_lt.2 (Nat.lt_of_lt_of_eq (by with_reducible assumption) (by decide +kernel))) | assumption | (simp <;> fail) | (simp <;> omega) | (focus (repeat' (first | exact one_u8s _ | exact one_iS _ _ | rfl | apply one_take | apply one_drop | apply one_append)); done))))) <;> (try (conv => whnf))
  ((repeat' (first | refine HLe.set_of _ _ ?_ ?_ | refine HLe.del _ ?_ ?_)) <;> (first | assumption | exact HLe.refl _ | exact HLe.none (by assumption) (by assumption) | (simp_all; done)))

/-- A product with a digit: what is done, and the digit behind it. -/
def mulSt (a : List Nat) (y : Nat) : Nat → List Nat × Nat
  | 0 => ([], 0)
  | i + 1 => ((mulSt a y i).1 ++ [((mulSt a y i).2 + a.getD i 0 * y) % 10000], ((mulSt a y i).2 + a.getD i 0 * y) / 10000)
structure MuOk (a : List Nat) (y i : Nat) : Prop where
  ok : DOk (mulSt a y i).1
  len : (mulSt a y i).1.length = i
  c : (mulSt a y i).2 < 10000
  sum : dv (mulSt a y i).1 + 10000 ^ i * (mulSt a y i).2 = dv (a.take i) * y
theorem mul_bd {x y c : Nat} (hx : x < 10000) (hy : y < 10000) (hc : c < 10000) : c + x * y < 100000000 := by
  have h1 : x * y ≤ 9999 * y := Nat.mul_le_mul_right _ (by omega)
  omega
theorem mul_ok {a : List Nat} (ha : DOk a) {y : Nat} (hy : y < 10000) : ∀ i, MuOk a y i
  | 0 => ⟨DOk.nil, rfl, show (0 : Nat) < 10000 by decide, by simp [mulSt, dv]⟩
  | i + 1 => by
    obtain ⟨h1, h2, h3, h4⟩ := mul_ok ha hy i
    have p1 := ha.at i
    have hb := mul_bd p1 hy h3
    refine ⟨h1.app (DOk.one (Nat.mod_lt _ (by decide))), ?_, ?_, ?_⟩
    · show ((mulSt a y i).1 ++ [_]).length = _
      rw [List.length_append, List.length_singleton, h2]
    · show ((mulSt a y i).2 + a.getD i 0 * y) / 10000 < 10000
      omega
    · show dv ((mulSt a y i).1 ++ [((mulSt a y i).2 + a.getD i 0 * y) % 10000]) + 10000 ^ (i + 1) * (((mulSt a y i).2 + a.getD i 0 * y) / 10000) = _
      rw [dv_app, h2, dv_take_succ, Nat.pow_succ, Nat.mul_assoc, Nat.add_mul, Nat.mul_assoc]
      generalize a.getD i 0 * y = x at *
      generalize (mulSt a y i).2 = c at *
      have e : dv [(c + x) % 10000] = (c + x) % 10000 := by simp [dv]
      have e2 : 10000 ^ i * ((c + x) % 10000) + 10000 ^ i * (10000 * ((c + x) / 10000)) = 10000 ^ i * c + 10000 ^ i * x := by
        rw [← Nat.mul_add, ← Nat.mul_add]; congr 1; omega
      rw [e]; omega
theorem dA_wr {l : List Nat} {i : Nat} (h : i < l.length) (d : Nat) : wrA (dA l) i [.int .i64 (d : Nat)] = dA (l.set i d) := by
  unfold wrA dA
  rw [List.set_eq_take_append_cons_drop, if_pos h]
  simp [List.map_take, List.map_drop]
theorem dA_zeros (n : Nat) : (List.replicate n [AV.int .i64 0]).flatten = dA (List.replicate n 0) := by
  induction n with
  | zero => rfl
  | succ n ih => rw [List.replicate_succ, List.flatten_cons, ih, List.replicate_succ]; rfl
theorem dok_zeros (n : Nat) : DOk (List.replicate n 0) := fun d hd => by rw [List.eq_of_mem_replicate hd]; decide
theorem dv_zeros (n : Nat) : dv (List.replicate n 0) = 0 := by
  induction n with
  | zero => rfl
  | succ n ih => rw [List.replicate_succ]; show 0 + 10000 * dv _ = 0; rw [ih]
theorem set_at {α : Type} (a c : List α) (x y : α) : (a ++ x :: c).set a.length y = a ++ y :: c := by
  rw [List.set_append_right _ _ (Nat.le_refl _), Nat.sub_self]; rfl

set_option maxHeartbeats 4000000 in
set_option maxRecDepth 8000 in
theorem mul_c (g k : Bool) (x y : Nat) (hx : (dg x).length ≤ 50000000) (hy0 : y ≠ 0) (hy : y < 10000) (H : AH) :
    ACall Try.prog 68 [nR g x, nR k y] H (fun v H' => v = nN (g != k) (x * y) ∧ H' = H) := by
  refine ACall.back ?_
  unfold nR
  rw [dg_one hy hy0]
  have hv := dv_dg x
  have oa := dok_dg x
  have hall := mul_ok oa hy
  obtain ⟨a, ha⟩ : ∃ a, a = dg x := ⟨_, rfl⟩
  rw [← ha] at hx hv oa hall ⊢
  have hal : (dA a).length = a.length := by simp
  have hres : DOk ((mulSt a y a.length).1 ++ [(mulSt a y a.length).2]) ∧ dv ((mulSt a y a.length).1 ++ [(mulSt a y a.length).2]) = x * y := by
    have h := hall a.length
    refine ⟨h.ok.app (DOk.one h.c), ?_⟩
    have hs := h.sum
    rw [List.take_length, hv] at hs
    rw [dv_app, h.len, ← hs]
    simp [dv]
  have hnm := fun H => normal_k (g != k) ((mulSt a y a.length).1 ++ [(mulSt a y a.length).2]) hres.1 (by rw [List.length_append, (hall a.length).len]; simp; omega) H
  rw [hres.2] at hnm
  have e0 : IntKind.i64.wrap ((a.length : Int) + ([y] : List Nat).length) = (a.length + 1 : Nat) := by
    rw [show (([y] : List Nat).length : Int) = 1 from rfl, IntKind.wrap_i64]; omega
  refine ACall_of tt_ok (dok _) Try.func68 rfl (by decide) rfl ?_
  (repeat' ((conv => whnf); first | left | refine OpsA.cons ?_ | refine OpsA.nil ?_ | refine AWq.seq ?_ | refine AWq.region ?_ | refine AWq.cond ?_ | refine AWq.block ?_ | refine AWq.skip ?_ | refine AWq.ret ?_ | refine AWq.exit ?_ | refine AWq.loop ?_ | refine DrawA.consD ?_ | refine DrawA.nil ?_ | refine AWq.draw (by decide +kernel) ?_ | (refine Both.mk ?_ ?_ <;> intro hc <;> (first | exact Bool.noConfusion hc | exact absurd (by with_reducible rfl) hc | exact (hc : False).elim | exact absurd (by assumption) hc | exact absurd hc (by assumption) | (exfalso; omega) | exact absurd hc (by decide) | skip)) | (intro c hc; (try (simp only [AH.none_iff] at hc; repeat (have hn := hc.1; replace hc := hc.2))); (first | (have hc2 := Eq.trans hc (by with_reducible assumption); clear hc; subst hc2) | (refine i64_k hc ?_ ?_ ?_ ; omega; omega; (clear hc; intro hc; subst hc)) | (refine u64_k hc ?_ ?_ ?_ ; omega; omega; (clear hc; intro hc; subst hc)) | (refine u8_k hc ?_ ?_ ?_ ; omega; omega; (clear hc; intro hc; subst hc)) | subst hc | skip)) | (apply Exists.intro; apply And.intro; (focus (repeat (first | assumption | exact AH.set_same _ _ _ | ((first | refine AH.get_ne ?_ ?_ | refine AH.getd_ne ?_ ?_); (first | assumption | omega | exact Ne.symm (by assumption) | exact AH.ne_none (by assumption) (by assumption) | exact AH.none_ne (by assumption) (by assumption) | exact (AH.none_set (by assumption)).1 | exact Ne.symm (AH.none_set (by assumption)).1)))); done)) | (apply Exists.intro; apply And.intro; first | (with_reducible assumption) | ((try simp only [List.getElem?_drop, Nat.mul_one, Nat.add_zero, Nat.zero_add]); first | (with_reducible assumption) | (refine u8s_get ?_; omega) | (refine iS_get ?_; omega) | assumption | rfl)) | (apply And.intro; (first | rfl | (with_reducible assumption) | exact Nat.le_of_ble_eq_true rfl | omega | (exact Int.ofNat_lt.2 (Nat.lt_of_lt_of_eq (by with_reducible assumption) (by decide +kernel))) | assumption | (simp <;> fail) | (simp <;> omega) | (focus (repeat' (first | exact one_u8s _ | exact one_iS _ _ | rfl | apply one_take | apply one_drop | apply one_append)); done))))) <;> (try (conv => whnf))
  refine Then.mk (AWq.in ?_)
  rename_i p2 hp2 p3 n32 hp3 n43
  obtain ⟨p4, rfl⟩ : ∃ p4, p4 = c := ⟨c, rfl⟩
  have hp4 : H p4 = none := by assumption
  have m32 : p3 ≠ p2 := by assumption
  have m43 : p4 ≠ p3 := by assumption
  have m42 : p4 ≠ p2 := by assumption
  show AWp _ _ _ _ _ _ _ _ _ (((AH.set H p2 (.row [.bool g, .cs (dA a) a.length] 0)).set p3 (.row [.bool k, .cs (dA [y]) 1] 0)).set p4 (.row [.bool false, .nils] 0))
  have b2 : (((AH.set H p2 (.row [.bool g, .cs (dA a) a.length] 0)).set p3 (.row [.bool k, .cs (dA [y]) 1] 0)).set p4 (.row [.bool false, .nils] 0)) p2 = some (.row [.bool g, .cs (dA a) a.length] 0) := by rw [AH.set_ne _ _ (Ne.symm m42), AH.set_ne _ _ (Ne.symm m32), AH.set_same]
  have b3 : (((AH.set H p2 (.row [.bool g, .cs (dA a) a.length] 0)).set p3 (.row [.bool k, .cs (dA [y]) 1] 0)).set p4 (.row [.bool false, .nils] 0)) p3 = some (.row [.bool k, .cs (dA [y]) 1] 0) := by rw [AH.set_ne _ _ (Ne.symm m43), AH.set_same]
  have b4 : (((AH.set H p2 (.row [.bool g, .cs (dA a) a.length] 0)).set p3 (.row [.bool k, .cs (dA [y]) 1] 0)).set p4 (.row [.bool false, .nils] 0)) p4 = some (.row [.bool false, .nils] 0) := AH.set_same _ _ _
  have bl : HLe H (((AH.set H p2 (.row [.bool g, .cs (dA a) a.length] 0)).set p3 (.row [.bool k, .cs (dA [y]) 1] 0)).set p4 (.row [.bool false, .nils] 0)) := HLe.set_of _ _ (HLe.set_of _ _ (HLe.fresh _ hp2) hp3) hp4
  generalize (((AH.set H p2 (.row [.bool g, .cs (dA a) a.length] 0)).set p3 (.row [.bool k, .cs (dA [y]) 1] 0)).set p4 (.row [.bool false, .nils] 0)) = HB at *
  refine AWp.of tt_ok (dok _) rfl ?_
  have e1 : IntKind.i64.wrap ((a.length : Int) + 1) = (a.length + 1 : Nat) := by rw [IntKind.wrap_i64]; omega
  (repeat' ((conv => whnf); first | left | refine OpsA.cons ?_ | refine OpsA.nil ?_ | refine AWq.seq ?_ | refine AWq.region ?_ | refine AWq.cond ?_ | refine AWq.block ?_ | refine AWq.skip ?_ | refine AWq.ret ?_ | refine AWq.exit ?_ | refine AWq.loop ?_ | refine DrawA.consD ?_ | refine DrawA.nil ?_ | refine AWq.draw (by decide +kernel) ?_ | (refine Both.mk ?_ ?_ <;> intro hc <;> (first | exact Bool.noConfusion hc | exact absurd (by with_reducible rfl) hc | exact (hc : False).elim | exact absurd (by assumption) hc | exact absurd hc (by assumption) | (exfalso; omega) | exact absurd hc (by decide) | skip)) | (intro c hc; (try (simp only [AH.none_iff] at hc; repeat (have hn := hc.1; replace hc := hc.2))); (first | (have hc2 := Eq.trans hc (by with_reducible assumption); clear hc; subst hc2) | (refine i64_k hc ?_ ?_ ?_ ; omega; omega; (clear hc; intro hc; subst hc)) | (refine u64_k hc ?_ ?_ ?_ ; omega; omega; (clear hc; intro hc; subst hc)) | (refine u8_k hc ?_ ?_ ?_ ; omega; omega; (clear hc; intro hc; subst hc)) | subst hc | skip)) | (apply Exists.intro; apply And.intro; (focus (repeat (first | assumption | exact AH.set_same _ _ _ | ((first | refine AH.get_ne ?_ ?_ | refine AH.getd_ne ?_ ?_); (first | assumption | omega | exact Ne.symm (by assumption) | exact AH.ne_none (by assumption) (by assumption) | exact AH.none_ne (by assumption) (by assumption) | exact (AH.none_set (by assumption)).1 | exact Ne.symm (AH.none_set (by assumption)).1)))); done)) | (apply Exists.intro; apply And.intro; first | (with_reducible assumption) | ((try simp only [List.getElem?_drop, Nat.mul_one, Nat.add_zero, Nat.zero_add]); first | (with_reducible assumption) | (refine u8s_get ?_; omega) | (refine iS_get ?_; omega) | assumption | rfl)) | (apply And.intro; (first | rfl | (with_reducible assumption) | exact Nat.le_of_ble_eq_true rfl | omega | (exact Int.ofNat_lt.2 (Nat.lt_of_lt_of_eq (by with_reducible assumption) (by decide +kernel))) | assumption | (simp <;> fail) | (simp <;> omega) | (focus (repeat' (first | exact one_u8s _ | exact one_iS _ _ | rfl | apply one_take | apply one_drop | apply one_append)); done))))) <;> (try (conv => whnf))
  refine Then.mk ?_
  (repeat' ((conv => whnf); first | left | refine OpsA.cons ?_ | refine OpsA.nil ?_ | refine AWq.seq ?_ | refine AWq.region ?_ | refine AWq.cond ?_ | refine AWq.block ?_ | refine AWq.skip ?_ | refine AWq.ret ?_ | refine AWq.exit ?_ | refine AWq.loop ?_ | refine DrawA.consD ?_ | refine DrawA.nil ?_ | refine AWq.draw (by decide +kernel) ?_ | (refine Both.mk ?_ ?_ <;> intro hc <;> (first | exact Bool.noConfusion hc | exact absurd (by with_reducible rfl) hc | exact (hc : False).elim | exact absurd (by assumption) hc | exact absurd hc (by assumption) | (exfalso; omega) | exact absurd hc (by decide) | skip)) | (intro c hc; (try (simp only [AH.none_iff] at hc; repeat (have hn := hc.1; replace hc := hc.2))); (first | (have hc2 := Eq.trans hc (by with_reducible assumption); clear hc; subst hc2) | (refine i64_k hc ?_ ?_ ?_ ; omega; omega; (clear hc; intro hc; subst hc)) | (refine u64_k hc ?_ ?_ ?_ ; omega; omega; (clear hc; intro hc; subst hc)) | (refine u8_k hc ?_ ?_ ?_ ; omega; omega; (clear hc; intro hc; subst hc)) | subst hc | skip)) | (apply Exists.intro; apply And.intro; (focus (repeat (first | assumption | exact AH.set_same _ _ _ | ((first | refine AH.get_ne ?_ ?_ | refine AH.getd_ne ?_ ?_); (first | assumption | omega | exact Ne.symm (by assumption) | exact AH.ne_none (by assumption) (by assumption) | exact AH.none_ne (by assumption) (by assumption) | exact (AH.none_set (by assumption)).1 | exact Ne.symm (AH.none_set (by assumption)).1)))); done)) | (apply Exists.intro; apply And.intro; first | (with_reducible assumption) | ((try simp only [List.getElem?_drop, Nat.mul_one, Nat.add_zero, Nat.zero_add]); first | (with_reducible assumption) | (refine u8s_get ?_; omega) | (refine iS_get ?_; omega) | assumption | rfl)) | (apply And.intro; (first | rfl | (with_reducible assumption) | exact Nat.le_of_ble_eq_true rfl | omega | (exact Int.ofNat_lt.2 (Nat.lt_of_lt_of_eq (by with_reducible assumption) (by decide +kernel))) | assumption | (simp <;> fail) | (simp <;> omega) | (focus (repeat' (first | exact one_u8s _ | exact one_iS _ _ | rfl | apply one_take | apply one_drop | apply one_append)); done))))) <;> (try (conv => whnf))
  refine Then.mk (AWq.in ?_)
  have hpc2 : p2 ≠ c := AH.ne_none hc b2
  have hpc3 : p3 ≠ c := AH.ne_none hc b3
  have hpc4 : p4 ≠ c := AH.ne_none hc b4
  have hcH : HB c = none := hc
  have hL1 : ((a.length : Int) + 1).toNat = a.length + 1 := by omega
  refine AWp_cut (H2 := HB.set c (.row (dA (List.replicate (a.length + 1) 0)) 0)) [(2, .ptr p2 0 0), (3, .ptr p3 0 0), (4, .ptr p4 0 0), (5, .sl c 0 1 0 (a.length + 1) none), (6, .int .i64 0)] ⟨rfl, rfl, rfl, congrArg (fun n => AV.sl c 0 1 0 n none) hL1, rfl, trivial⟩ (fun _ => rfl) (HLe.of_eq ?_) ?_
  · rw [← dA_zeros, ← hL1]
    rfl
  refine AWp.of tt_ok (dok _) rfl ?_
  (repeat' ((conv => whnf); first | refine Then.mk ?_ | left | refine OpsA.cons ?_ | refine OpsA.nil ?_ | refine AWq.seq ?_ | refine AWq.region ?_ | refine AWq.cond ?_ | refine AWq.block ?_ | refine AWq.skip ?_ | refine AWq.ret ?_ | refine AWq.exit ?_ | refine AWq.loop ?_ | refine DrawA.consD ?_ | refine DrawA.nil ?_ | refine AWq.draw (by decide +kernel) ?_ | (refine Both.mk ?_ ?_ <;> intro hc <;> (first | exact Bool.noConfusion hc | exact absurd (by with_reducible rfl) hc | exact (hc : False).elim | exact absurd (by assumption) hc | exact absurd hc (by assumption) | (exfalso; omega) | exact absurd hc (by decide) | skip)) | (intro c hc; (try (simp only [AH.none_iff] at hc; repeat (have hn := hc.1; replace hc := hc.2))); (first | (have hc2 := Eq.trans hc (by with_reducible assumption); clear hc; subst hc2) | (refine i64_k hc ?_ ?_ ?_ ; omega; omega; (clear hc; intro hc; subst hc)) | (refine u64_k hc ?_ ?_ ?_ ; omega; omega; (clear hc; intro hc; subst hc)) | (refine u8_k hc ?_ ?_ ?_ ; omega; omega; (clear hc; intro hc; subst hc)) | subst hc | skip)) | (apply Exists.intro; apply And.intro; (focus (repeat (first | assumption | exact AH.set_same _ _ _ | ((first | refine AH.get_ne ?_ ?_ | refine AH.getd_ne ?_ ?_); (first | assumption | omega | exact Ne.symm (by assumption) | exact AH.ne_none (by assumption) (by assumption) | exact AH.none_ne (by assumption) (by assumption) | exact (AH.none_set (by assumption)).1 | exact Ne.symm (AH.none_set (by assumption)).1)))); done)) | (apply Exists.intro; apply And.intro; first | (with_reducible assumption) | ((try simp only [List.getElem?_drop, Nat.mul_one, Nat.add_zero, Nat.zero_add]); first | (with_reducible assumption) | (refine u8s_get ?_; omega) | (refine iS_get ?_; omega) | assumption | rfl)) | (apply And.intro; (first | rfl | (with_reducible assumption) | exact Nat.le_of_ble_eq_true rfl | omega | (exact Int.ofNat_lt.2 (Nat.lt_of_lt_of_eq (by with_reducible assumption) (by decide +kernel))) | assumption | (simp <;> fail) | (simp <;> omega) | (focus (repeat' (first | exact one_u8s _ | exact one_iS _ _ | rfl | apply one_take | apply one_drop | apply one_append)); done))))) <;> (try (conv => whnf))
  refine AWp_loop (σ := Nat) (6 :: 7 :: 8 :: 9 :: 18 :: 19 :: 20 :: 21 :: 22 :: 23 :: 24 :: 25 :: 26 :: 27 :: 28 :: 29 :: 30 :: 31 :: 32 :: 33 :: 34 :: 35 :: 36 :: 37 :: 38 :: 39 :: 40 :: 41 :: 42 :: 43 :: 44 :: 45 :: 46 :: 47 :: 48 :: 49 :: 50 :: 51 :: 52 :: 53 :: 54 :: 55 :: 56 :: 57 :: 58 :: 59 :: 60 :: 61 :: 62 :: 63 :: 64 :: 65 :: 66 :: 67 :: 68 :: []) (fun i => [(6, .int .i64 i)]) (fun i => HB.set c (.row (dA ((mulSt a y i).1 ++ (mulSt a y i).2 :: List.replicate (a.length - i) 0)) 0)) (fun i => i ≤ a.length) (fun i => a.length - i) 0 rfl (Nat.zero_le _) ⟨rfl, trivial⟩ ?_ ?_
  · exact HLe.refl _
  · intro i hi
    dsimp only at hi ⊢
    refine AWp.of tt_ok (dok _) rfl ?_
    have hok := hall i
    have hbd := mul_bd (oa.at i) hy hok.c
    have k2 : (HB.set c (.row (dA ((mulSt a y i).1 ++ (mulSt a y i).2 :: List.replicate (a.length - i) 0)) 0)) p2 = some (.row [.bool g, .cs (dA a) a.length] 0) := by rw [AH.set_ne _ _ hpc2]; exact b2
    have k3 : (HB.set c (.row (dA ((mulSt a y i).1 ++ (mulSt a y i).2 :: List.replicate (a.length - i) 0)) 0)) p3 = some (.row [.bool k, .cs (dA [y]) 1] 0) := by rw [AH.set_ne _ _ hpc3]; exact b3
    have k4 : (HB.set c (.row (dA ((mulSt a y i).1 ++ (mulSt a y i).2 :: List.replicate (a.length - i) 0)) 0)) p4 = some (.row [.bool false, .nils] 0) := by rw [AH.set_ne _ _ hpc4]; exact b4
    by_cases hil : i < a.length
    · have hnx : mulSt a y (i + 1) = ((mulSt a y i).1 ++ [((mulSt a y i).2 + a.getD i 0 * y) % 10000], ((mulSt a y i).2 + a.getD i 0 * y) / 10000) := rfl
      have hga := dA_gi hil
      have hl1 := hok.len
      have hc0 := hok.c
      have hxb := oa.at i
      generalize a.getD i 0 = x0 at *
      generalize (mulSt a y i).1 = lo at *
      generalize (mulSt a y i).2 = hi0 at *
      obtain ⟨v, hv2⟩ : ∃ v, v = hi0 + x0 * y := ⟨_, rfl⟩
      rw [← hv2] at hnx hbd
      obtain ⟨m, hm⟩ : ∃ m, a.length - i = m + 1 := ⟨a.length - i - 1, by omega⟩
      rw [hm] at k2 k3 k4 ⊢
      have hxy : x0 * y ≤ 99999999 := by omega
      have hxyi : (x0 : Int) * y = (x0 * y : Nat) := (Int.natCast_mul _ _).symm
      have e2 : IntKind.i64.wrap ((x0 : Int) * y) = (x0 * y : Nat) := by rw [hxyi, IntKind.wrap_i64]; omega
      have e3 : IntKind.i64.wrap ((hi0 : Int) + (x0 * y : Nat)) = v := by rw [IntKind.wrap_i64]; omega
      have e4 : IntKind.i64.wrap ((v : Int) + 0) = v := by rw [IntKind.wrap_i64]; omega
      have e7 : IntKind.i64.wrap ((i : Int) + ((0 : Nat) : Int)) = i := by rw [IntKind.wrap_i64]; omega
      have e5 : (v : Int).tmod 10000 = (v % 10000 : Nat) := by rw [Int.tmod_eq_emod_of_nonneg (by omega)]; omega
      have e6 : IntKind.i64.wrap ((v : Int).tdiv 10000) = (v / 10000 : Nat) := by rw [Int.tdiv_eq_ediv_of_nonneg (by omega), IntKind.wrap_i64]; omega
      have f1 : ∀ z : Nat, (dA (lo ++ z :: List.replicate (m + 1) 0))[(i : Int).toNat]? = some (.int .i64 z) := fun z => by
        rw [Int.toNat_natCast, dA_get (by simp; omega), ← hl1]
        simp
      have f2 : ∀ (z : Nat) (w : Nat), wrA (dA (lo ++ z :: List.replicate (m + 1) 0)) (0 + (i : Int).toNat * 1) [.int .i64 w] = dA (lo ++ w :: List.replicate (m + 1) 0) := fun z w => by
        rw [Nat.zero_add, Nat.mul_one, Int.toNat_natCast, dA_wr (by simp; omega), ← hl1, set_at]
      have f3 : ∀ (z : Nat) (w : Nat), wrA (dA (lo ++ z :: List.replicate (m + 1) 0)) (0 + ((i : Int) + 1).toNat * 1) [.int .i64 w] = dA ((lo ++ [z]) ++ w :: List.replicate m 0) := fun z w => by
        have e : lo ++ z :: List.replicate (m + 1) 0 = (lo ++ [z]) ++ 0 :: List.replicate m 0 := by rw [List.replicate_succ]; simp
        rw [Nat.zero_add, Nat.mul_one, show ((i : Int) + 1).toNat = i + 1 by omega, e, dA_wr (by simp; omega)]
        have e2 : i + 1 = (lo ++ [z]).length := by simp [hl1]
        rw [e2, set_at]
      have hgy : (dA [y])[Int.toNat 0]? = some (.int .i64 y) := rfl
      have hyl : (dA [y]).length = 1 := rfl
      have hrl : ∀ z : Nat, (dA (lo ++ z :: List.replicate (m + 1) 0)).length = a.length + 1 := fun z => by simp; omega
      have hset : ∀ l l', (HB.set c (.row l 0)).set c (.row l' 0) = HB.set c (.row l' 0) := fun l l' => AH.set_set _ _ _ _
      (repeat' ((conv => whnf); first | refine Then.mk ?_ | left | refine OpsA.cons ?_ | refine OpsA.nil ?_ | refine AWq.seq ?_ | refine AWq.region ?_ | refine AWq.cond ?_ | refine AWq.block ?_ | refine AWq.skip ?_ | refine AWq.ret ?_ | refine AWq.exit ?_ | refine AWq.loop ?_ | refine DrawA.consD ?_ | refine DrawA.nil ?_ | refine AWq.draw (by decide +kernel) ?_ | (refine Both.mk ?_ ?_ <;> intro hc <;> (first | exact Bool.noConfusion hc | exact absurd (by with_reducible rfl) hc | exact (hc : False).elim | exact absurd (by assumption) hc | exact absurd hc (by assumption) | (exfalso; omega) | exact absurd hc (by decide) | skip)) | (intro c hc; (try (simp only [AH.none_iff] at hc; repeat (have hn := hc.1; replace hc := hc.2))); (first | (have hc2 := Eq.trans hc (by with_reducible assumption); clear hc; subst hc2) | (refine i64_k hc ?_ ?_ ?_ ; omega; omega; (clear hc; intro hc; subst hc)) | (refine u64_k hc ?_ ?_ ?_ ; omega; omega; (clear hc; intro hc; subst hc)) | (refine u8_k hc ?_ ?_ ?_ ; omega; omega; (clear hc; intro hc; subst hc)) | subst hc | skip)) | (apply Exists.intro; apply And.intro; (focus (repeat (first | assumption | exact AH.set_same _ _ _ | ((first | refine AH.get_ne ?_ ?_ | refine AH.getd_ne ?_ ?_); (first | assumption | omega | exact Ne.symm (by assumption) | exact AH.ne_none (by assumption) (by assumption) | exact AH.none_ne (by assumption) (by assumption) | exact (AH.none_set (by assumption)).1 | exact Ne.symm (AH.none_set (by assumption)).1)))); done)) | (apply Exists.intro; apply And.intro; first | (with_reducible assumption) | ((try simp only [List.getElem?_drop, Nat.mul_one, Nat.add_zero, Nat.zero_add]); first | (with_reducible assumption) | (refine u8s_get ?_; omega) | (refine iS_get ?_; omega) | assumption | rfl)) | (apply And.intro; (first | rfl | (with_reducible assumption) | exact Nat.le_of_ble_eq_true rfl | omega | (exact Int.ofNat_lt.2 (Nat.lt_of_lt_of_eq (by with_reducible assumption) (by decide +kernel))) | assumption | (simp <;> fail) | (simp <;> omega) | (focus (repeat' (first | exact one_u8s _ | exact one_iS _ _ | rfl | apply one_take | apply one_drop | apply one_append)); done))))) <;> (try (conv => whnf))
      refine AWp_loop (σ := Nat) (7 :: 8 :: 9 :: 25 :: 26 :: 27 :: 28 :: 29 :: 30 :: 31 :: 32 :: 33 :: 34 :: 35 :: 36 :: 37 :: 38 :: 39 :: 40 :: 41 :: 42 :: 43 :: 44 :: 45 :: 46 :: 47 :: 48 :: 49 :: 50 :: 51 :: 52 :: 53 :: 54 :: 55 :: 56 :: 57 :: 58 :: 59 :: 60 :: []) (fun j => [(7, .int .i64 (if j = 0 then 0 else (v / 10000 : Nat))), (8, .int .i64 j)]) (fun j => HB.set c (.row (dA (lo ++ (if j = 0 then hi0 else v % 10000) :: List.replicate (m + 1) 0)) 0)) (fun j => j ≤ 1) (fun j => 1 - j) 0 rfl (Nat.zero_le _) ⟨rfl, rfl, trivial⟩ (HLe.refl _) ?_
      intro j hj
      refine AWp.of tt_ok (dok _) rfl ?_
      dsimp only at hj ⊢
      by_cases hj0 : j = 0
      · subst hj0
        rw [if_pos rfl, if_pos rfl]
        have g1 := f1 hi0
        have g2 := f2 hi0 (v % 10000)
        have g3 := hrl hi0
        have kc : (HB.set c (.row (dA (lo ++ hi0 :: List.replicate (m + 1) 0)) 0)) c = some (.row (dA (lo ++ hi0 :: List.replicate (m + 1) 0)) 0) := AH.set_same _ _ _
        have hfin : (HB.set c (.row (dA (lo ++ hi0 :: List.replicate (m + 1) 0)) 0)).set c (.row (wrA (dA (lo ++ hi0 :: List.replicate (m + 1) 0)) (0 + (i : Int).toNat * 1) [.int .i64 (v % 10000 : Nat)]) 0) = HB.set c (.row (dA (lo ++ (if 1 = 0 then hi0 else v % 10000) :: List.replicate (m + 1) 0)) 0) := by
          rw [hset, g2, if_neg (by decide)]
        generalize (HB.set c (.row (dA (lo ++ hi0 :: List.replicate (m + 1) 0)) 0)) = G at *
        generalize dA (lo ++ hi0 :: List.replicate (m + 1) 0) = R at *
        (repeat' ((conv => whnf); first | refine Then.mk ?_ | left | refine OpsA.cons ?_ | refine OpsA.nil ?_ | refine AWq.seq ?_ | refine AWq.region ?_ | refine AWq.cond ?_ | refine AWq.block ?_ | refine AWq.skip ?_ | refine AWq.ret ?_ | refine AWq.exit ?_ | refine AWq.loop ?_ | refine DrawA.consD ?_ | refine DrawA.nil ?_ | refine AWq.draw (by decide +kernel) ?_ | (refine Both.mk ?_ ?_ <;> intro hc <;> (first | exact Bool.noConfusion hc | exact absurd (by with_reducible rfl) hc | exact (hc : False).elim | exact absurd (by assumption) hc | exact absurd hc (by assumption) | (exfalso; omega) | exact absurd hc (by decide) | skip)) | (intro c hc; (try (simp only [AH.none_iff] at hc; repeat (have hn := hc.1; replace hc := hc.2))); (first | (have hc2 := Eq.trans hc (by with_reducible assumption); clear hc; subst hc2) | (refine i64_k hc ?_ ?_ ?_ ; omega; omega; (clear hc; intro hc; subst hc)) | (refine u64_k hc ?_ ?_ ?_ ; omega; omega; (clear hc; intro hc; subst hc)) | (refine u8_k hc ?_ ?_ ?_ ; omega; omega; (clear hc; intro hc; subst hc)) | subst hc | skip)) | (apply Exists.intro; apply And.intro; (focus (repeat (first | assumption | exact AH.set_same _ _ _ | ((first | refine AH.get_ne ?_ ?_ | refine AH.getd_ne ?_ ?_); (first | assumption | omega | exact Ne.symm (by assumption) | exact AH.ne_none (by assumption) (by assumption) | exact AH.none_ne (by assumption) (by assumption) | exact (AH.none_set (by assumption)).1 | exact Ne.symm (AH.none_set (by assumption)).1)))); done)) | (apply Exists.intro; apply And.intro; first | (with_reducible assumption) | ((try simp only [List.getElem?_drop, Nat.mul_one, Nat.add_zero, Nat.zero_add]); first | (with_reducible assumption) | (refine u8s_get ?_; omega) | (refine iS_get ?_; omega) | assumption | rfl)) | (apply And.intro; (first | rfl | (with_reducible assumption) | exact Nat.le_of_ble_eq_true rfl | omega | (exact Int.ofNat_lt.2 (Nat.lt_of_lt_of_eq (by with_reducible assumption) (by decide +kernel))) | assumption | (simp <;> fail) | (simp <;> omega) | (focus (repeat' (first | exact one_u8s _ | exact one_iS _ _ | rfl | apply one_take | apply one_drop | apply one_append)); done))))) <;> (try (conv => whnf))
        exact ⟨1, Nat.le_refl _, by decide, ⟨rfl, rfl, trivial⟩, HLe.of_eq hfin.symm⟩
      · have hj1 : j = 1 := by omega
        subst hj1
        rw [if_neg hj0, if_neg hj0]
        have g2 := f3 (v % 10000) (v / 10000)
        have g3 := hrl (v % 10000)
        have kc : (HB.set c (.row (dA (lo ++ v % 10000 :: List.replicate (m + 1) 0)) 0)) c = some (.row (dA (lo ++ v % 10000 :: List.replicate (m + 1) 0)) 0) := AH.set_same _ _ _
        have k2 : (HB.set c (.row (dA (lo ++ v % 10000 :: List.replicate (m + 1) 0)) 0)) p2 = some (.row [.bool g, .cs (dA a) a.length] 0) := by rw [AH.set_ne _ _ hpc2]; exact b2
        have k3 : (HB.set c (.row (dA (lo ++ v % 10000 :: List.replicate (m + 1) 0)) 0)) p3 = some (.row [.bool k, .cs (dA [y]) 1] 0) := by rw [AH.set_ne _ _ hpc3]; exact b3
        have hfin : (HB.set c (.row (dA (lo ++ v % 10000 :: List.replicate (m + 1) 0)) 0)).set c (.row (wrA (dA (lo ++ v % 10000 :: List.replicate (m + 1) 0)) (0 + ((i : Int) + 1).toNat * 1) [.int .i64 (v / 10000 : Nat)]) 0) = HB.set c (.row (dA ((mulSt a y (i + 1)).1 ++ (mulSt a y (i + 1)).2 :: List.replicate (a.length - (i + 1)) 0)) 0) := by
          rw [hset, g2, hnx, show a.length - (i + 1) = m by omega]
        generalize (HB.set c (.row (dA (lo ++ v % 10000 :: List.replicate (m + 1) 0)) 0)) = G at *
        generalize dA (lo ++ v % 10000 :: List.replicate (m + 1) 0) = R at *
        (repeat' ((conv => whnf); first | refine Then.mk ?_ | left | refine OpsA.cons ?_ | refine OpsA.nil ?_ | refine AWq.seq ?_ | refine AWq.region ?_ | refine AWq.cond ?_ | refine AWq.block ?_ | refine AWq.skip ?_ | refine AWq.ret ?_ | refine AWq.exit ?_ | refine AWq.loop ?_ | refine DrawA.consD ?_ | refine DrawA.nil ?_ | refine AWq.draw (by decide +kernel) ?_ | (refine Both.mk ?_ ?_ <;> intro hc <;> (first | exact Bool.noConfusion hc | exact absurd (by with_reducible rfl) hc | exact (hc : False).elim | exact absurd (by assumption) hc | exact absurd hc (by assumption) | (exfalso; omega) | exact absurd hc (by decide) | skip)) | (intro c hc; (try (simp only [AH.none_iff] at hc; repeat (have hn := hc.1; replace hc := hc.2))); (first | (have hc2 := Eq.trans hc (by with_reducible assumption); clear hc; subst hc2) | (refine i64_k hc ?_ ?_ ?_ ; omega; omega; (clear hc; intro hc; subst hc)) | (refine u64_k hc ?_ ?_ ?_ ; omega; omega; (clear hc; intro hc; subst hc)) | (refine u8_k hc ?_ ?_ ?_ ; omega; omega; (clear hc; intro hc; subst hc)) | subst hc | skip)) | (apply Exists.intro; apply And.intro; (focus (repeat (first | assumption | exact AH.set_same _ _ _ | ((first | refine AH.get_ne ?_ ?_ | refine AH.getd_ne ?_ ?_); (first | assumption | omega | exact Ne.symm (by assumption) | exact AH.ne_none (by assumption) (by assumption) | exact AH.none_ne (by assumption) (by assumption) | exact (AH.none_set (by assumption)).1 | exact Ne.symm (AH.none_set (by assumption)).1)))); done)) | (apply Exists.intro; apply And.intro; first | (with_reducible assumption) | ((try simp only [List.getElem?_drop, Nat.mul_one, Nat.add_zero, Nat.zero_add]); first | (with_reducible assumption) | (refine u8s_get ?_; omega) | (refine iS_get ?_; omega) | assumption | rfl)) | (apply And.intro; (first | rfl | (with_reducible assumption) | exact Nat.le_of_ble_eq_true rfl | omega | (exact Int.ofNat_lt.2 (Nat.lt_of_lt_of_eq (by with_reducible assumption) (by decide +kernel))) | assumption | (simp <;> fail) | (simp <;> omega) | (focus (repeat' (first | exact one_u8s _ | exact one_iS _ _ | rfl | apply one_take | apply one_drop | apply one_append)); done))))) <;> (try (conv => whnf))
        exact ⟨i + 1, hil, by omega, ⟨congrArg (AV.int .i64) (by omega), trivial⟩, HLe.of_eq hfin.symm⟩
    · have hie : i = a.length := by omega
      rw [hie, Nat.sub_self] at k2 k3 k4 ⊢
      have hlen : (dA ((mulSt a y a.length).1 ++ [(mulSt a y a.length).2])).length = (a.length + 1) * 1 := by
        rw [dA_len, List.length_append, (hall a.length).len]; simp
      have hll2 : ((mulSt a y a.length).1 ++ [(mulSt a y a.length).2]).length = a.length + 1 := by
        rw [List.length_append, (hall a.length).len]; simp
      rw [hll2] at hnm
      have e3 : (mulSt a y a.length).1 ++ (mulSt a y a.length).2 :: List.replicate 0 0 = (mulSt a y a.length).1 ++ [(mulSt a y a.length).2] := rfl
      rw [e3] at k2 k3 k4 ⊢
      generalize (mulSt a y a.length).1 ++ [(mulSt a y a.length).2] = R at *
      unfold nN at hnm ⊢
      cases g <;> cases k
      all_goals
        (repeat' ((conv => whnf); first | refine Then.mk ?_ | left | refine OpsA.cons ?_ | refine OpsA.nil ?_ | refine AWq.seq ?_ | refine AWq.region ?_ | refine AWq.cond ?_ | refine AWq.block ?_ | refine AWq.skip ?_ | refine AWq.ret ?_ | refine AWq.exit ?_ | refine AWq.loop ?_ | refine DrawA.consD ?_ | refine DrawA.nil ?_ | refine AWq.draw (by decide +kernel) ?_ | (refine Both.mk ?_ ?_ <;> intro hc <;> (first | exact Bool.noConfusion hc | exact absurd (by with_reducible rfl) hc | exact (hc : False).elim | exact absurd (by assumption) hc | exact absurd hc (by assumption) | (exfalso; omega) | exact absurd hc (by decide) | skip)) | (intro c hc; (try (simp only [AH.none_iff] at hc; repeat (have hn := hc.1; replace hc := hc.2))); (first | (have hc2 := Eq.trans hc (by with_reducible assumption); clear hc; subst hc2) | (refine i64_k hc ?_ ?_ ?_ ; omega; omega; (clear hc; intro hc; subst hc)) | (refine u64_k hc ?_ ?_ ?_ ; omega; omega; (clear hc; intro hc; subst hc)) | (refine u8_k hc ?_ ?_ ?_ ; omega; omega; (clear hc; intro hc; subst hc)) | subst hc | skip)) | (apply Exists.intro; apply And.intro; (focus (repeat (first | assumption | exact AH.set_same _ _ _ | ((first | refine AH.get_ne ?_ ?_ | refine AH.getd_ne ?_ ?_); (first | assumption | omega | exact Ne.symm (by assumption) | exact AH.ne_none (by assumption) (by assumption) | exact AH.none_ne (by assumption) (by assumption) | exact (AH.none_set (by assumption)).1 | exact Ne.symm (AH.none_set (by assumption)).1)))); done)) | (apply Exists.intro; apply And.intro; first | (with_reducible assumption) | ((try simp only [List.getElem?_drop, Nat.mul_one, Nat.add_zero, Nat.zero_add]); first | (with_reducible assumption) | (refine u8s_get ?_; omega) | (refine iS_get ?_; omega) | assumption | rfl)) | (apply And.intro; (first | rfl | (with_reducible assumption) | exact Nat.le_of_ble_eq_true rfl | omega | (exact Int.ofNat_lt.2 (Nat.lt_of_lt_of_eq (by with_reducible assumption) (by decide +kernel))) | assumption | (simp <;> fail) | (simp <;> omega) | (focus (repeat' (first | exact one_u8s _ | exact one_iS _ _ | rfl | apply one_take | apply one_drop | apply one_append)); done))))) <;> (try (conv => whnf))
        refine ACall.frz (pre := [_]) (post := []) (r := c) (v := 0) (es := 1) (n := a.length + 1) (cells := dA R) (AH.set_same _ _ _) hlen ?_
        rw [AH.del_set _ _ _ hcH]
        refine ACall.to (hnm _) ?_
        (repeat' ((conv => whnf); first | refine Then.mk ?_ | left | refine OpsA.cons ?_ | refine OpsA.nil ?_ | refine AWq.seq ?_ | refine AWq.region ?_ | refine AWq.cond ?_ | refine AWq.block ?_ | refine AWq.skip ?_ | refine AWq.ret ?_ | refine AWq.exit ?_ | refine AWq.loop ?_ | refine DrawA.consD ?_ | refine DrawA.nil ?_ | refine AWq.draw (by decide +kernel) ?_ | (refine Both.mk ?_ ?_ <;> intro hc <;> (first | exact Bool.noConfusion hc | exact absurd (by with_reducible rfl) hc | exact (hc : False).elim | exact absurd (by assumption) hc | exact absurd hc (by assumption) | (exfalso; omega) | exact absurd hc (by decide) | skip)) | (intro c hc; (try (simp only [AH.none_iff] at hc; repeat (have hn := hc.1; replace hc := hc.2))); (first | (have hc2 := Eq.trans hc (by with_reducible assumption); clear hc; subst hc2) | (refine i64_k hc ?_ ?_ ?_ ; omega; omega; (clear hc; intro hc; subst hc)) | (refine u64_k hc ?_ ?_ ?_ ; omega; omega; (clear hc; intro hc; subst hc)) | (refine u8_k hc ?_ ?_ ?_ ; omega; omega; (clear hc; intro hc; subst hc)) | subst hc | skip)) | (apply Exists.intro; apply And.intro; (focus (repeat (first | assumption | exact AH.set_same _ _ _ | ((first | refine AH.get_ne ?_ ?_ | refine AH.getd_ne ?_ ?_); (first | assumption | omega | exact Ne.symm (by assumption) | exact AH.ne_none (by assumption) (by assumption) | exact AH.none_ne (by assumption) (by assumption) | exact (AH.none_set (by assumption)).1 | exact Ne.symm (AH.none_set (by assumption)).1)))); done)) | (apply Exists.intro; apply And.intro; first | (with_reducible assumption) | ((try simp only [List.getElem?_drop, Nat.mul_one, Nat.add_zero, Nat.zero_add]); first | (with_reducible assumption) | (refine u8s_get ?_; omega) | (refine iS_get ?_; omega) | assumption | rfl)) | (apply And.intro; (first | rfl | (with_reducible assumption) | exact Nat.le_of_ble_eq_true rfl | omega | (exact Int.ofNat_lt.2 (Nat.lt_of_lt_of_eq (by with_reducible assumption) (by decide +kernel))) | assumption | (simp <;> fail) | (simp <;> omega) | (focus (repeat' (first | exact one_u8s _ | exact one_iS _ _ | rfl | apply one_take | apply one_drop | apply one_append)); done))))) <;> (try (conv => whnf))
        exact HLe.set_of _ _ bl hp4
end Go.Proofs.Ytgmooalikccbiaa
/- The reference's integers: division by a digit. -/
namespace Go.Proofs.Ytgmooalikccbiaa
open Go.Fw Go
set_option linter.unusedVariables false
set_option linter.unusedSimpArgs false

set_option maxRecDepth 8000 in
theorem mul0_c (g k : Bool) (x : Nat) (hx : (dg x).length ≤ 50000000) (H : AH) :
    ACall Try.prog 68 [nR g x, nR k 0] H (fun v H' => v = nN (g != k) 0 ∧ H' = H) := by
  refine ACall.back ?_
  unfold nR
  rw [dg_zero]
  obtain ⟨a, ha⟩ : ∃ a, a = dg x := ⟨_, rfl⟩
  rw [← ha] at hx ⊢
  have hal : (dA a).length = a.length := by simp
  have hnm := fun H => normal_k (g != k) (List.replicate a.length 0) (dok_zeros _) (by simp; omega) H
  rw [dv_zeros, List.length_replicate] at hnm
  have hz0 : (dA (List.replicate a.length 0)).length = a.length * 1 := by simp
  refine ACall_of tt_ok (dok _) Try.func68 rfl (by decide) rfl ?_
  (repeat' ((conv => whnf); first | left | refine OpsA.cons ?_ | refine OpsA.nil ?_ | refine AWq.seq ?_ | refine AWq.region ?_ | refine AWq.cond ?_ | refine AWq.block ?_ | refine AWq.skip ?_ | refine AWq.ret ?_ | refine AWq.exit ?_ | refine AWq.loop ?_ | refine DrawA.consD ?_ | refine DrawA.nil ?_ | refine AWq.draw (by decide +kernel) ?_ | (refine Both.mk ?_ ?_ <;> intro hc <;> (first | exact Bool.noConfusion hc | exact absurd (by with_reducible rfl) hc | exact (hc : False).elim | exact absurd (by assumption) hc | exact absurd hc (by assumption) | (exfalso; omega) | exact absurd hc (by decide) | skip)) | (intro c hc; (try (simp only [AH.none_iff] at hc; repeat (have hn := hc.1; replace hc := hc.2))); (first | (have hc2 := Eq.trans hc (by with_reducible assumption); clear hc; subst hc2) | (refine i64_k hc ?_ ?_ ?_ ; omega; omega; (clear hc; intro hc; subst hc)) | (refine u64_k hc ?_ ?_ ?_ ; omega; omega; (clear hc; intro hc; subst hc)) | (refine u8_k hc ?_ ?_ ?_ ; omega; omega; (clear hc; intro hc; subst hc)) | subst hc | skip)) | (apply Exists.intro; apply And.intro; (focus (repeat (first | assumption | exact AH.set_same _ _ _ | ((first | refine AH.get_ne ?_ ?_ | refine AH.getd_ne ?_ ?_); (first | assumption | omega | exact Ne.symm (by assumption) | exact AH.ne_none (by assumption) (by assumption) | exact AH.none_ne (by assumption) (by assumption) | exact (AH.none_set (by assumption)).1 | exact Ne.symm (AH.none_set (by assumption)).1)))); done)) | (apply Exists.intro; apply And.intro; first | (with_reducible assumption) | ((try simp only [List.getElem?_drop, Nat.mul_one, Nat.add_zero, Nat.zero_add]); first | (with_reducible assumption) | (refine u8s_get ?_; omega) | (refine iS_get ?_; omega) | assumption | rfl)) | (apply And.intro; (first | rfl | (with_reducible assumption) | exact Nat.le_of_ble_eq_true rfl | omega | (exact Int.ofNat_lt.2 (Nat.lt_of_lt_of_eq (by with_reducible assumption) (by decide +kernel))) | assumption | (simp <;> fail) | (simp <;> omega) | (focus (repeat' (first | exact one_u8s _ | exact one_iS _ _ | rfl | apply one_take | apply one_drop | apply one_append)); done))))) <;> (try (conv => whnf))
  refine Then.mk (AWq.in ?_)
  rename_i p2 hp2 p3 n32 hp3 n43
  obtain ⟨p4, rfl⟩ : ∃ p4, p4 = c := ⟨c, rfl⟩
  have hp4 : H p4 = none := by assumption
  have m32 : p3 ≠ p2 := by assumption
  have m43 : p4 ≠ p3 := by assumption
  have m42 : p4 ≠ p2 := by assumption
  show AWp _ _ _ _ _ _ _ _ _ (((AH.set H p2 (.row [.bool g, .cs (dA a) a.length] 0)).set p3 (.row [.bool k, .cs [] 0] 0)).set p4 (.row [.bool false, .nils] 0))
  have b2 : (((AH.set H p2 (.row [.bool g, .cs (dA a) a.length] 0)).set p3 (.row [.bool k, .cs [] 0] 0)).set p4 (.row [.bool false, .nils] 0)) p2 = some (.row [.bool g, .cs (dA a) a.length] 0) := by rw [AH.set_ne _ _ (Ne.symm m42), AH.set_ne _ _ (Ne.symm m32), AH.set_same]
  have b3 : (((AH.set H p2 (.row [.bool g, .cs (dA a) a.length] 0)).set p3 (.row [.bool k, .cs [] 0] 0)).set p4 (.row [.bool false, .nils] 0)) p3 = some (.row [.bool k, .cs [] 0] 0) := by rw [AH.set_ne _ _ (Ne.symm m43), AH.set_same]
  have b4 : (((AH.set H p2 (.row [.bool g, .cs (dA a) a.length] 0)).set p3 (.row [.bool k, .cs [] 0] 0)).set p4 (.row [.bool false, .nils] 0)) p4 = some (.row [.bool false, .nils] 0) := AH.set_same _ _ _
  have bl : HLe H (((AH.set H p2 (.row [.bool g, .cs (dA a) a.length] 0)).set p3 (.row [.bool k, .cs [] 0] 0)).set p4 (.row [.bool false, .nils] 0)) := HLe.set_of _ _ (HLe.set_of _ _ (HLe.fresh _ hp2) hp3) hp4
  generalize (((AH.set H p2 (.row [.bool g, .cs (dA a) a.length] 0)).set p3 (.row [.bool k, .cs [] 0] 0)).set p4 (.row [.bool false, .nils] 0)) = HB at *
  refine AWp.of tt_ok (dok _) rfl ?_
  have e1 : IntKind.i64.wrap ((a.length : Int) + ((0 : Nat) : Int)) = (a.length : Nat) := by rw [IntKind.wrap_i64]; omega
  (repeat' ((conv => whnf); first | left | refine OpsA.cons ?_ | refine OpsA.nil ?_ | refine AWq.seq ?_ | refine AWq.region ?_ | refine AWq.cond ?_ | refine AWq.block ?_ | refine AWq.skip ?_ | refine AWq.ret ?_ | refine AWq.exit ?_ | refine AWq.loop ?_ | refine DrawA.consD ?_ | refine DrawA.nil ?_ | refine AWq.draw (by decide +kernel) ?_ | (refine Both.mk ?_ ?_ <;> intro hc <;> (first | exact Bool.noConfusion hc | exact absurd (by with_reducible rfl) hc | exact (hc : False).elim | exact absurd (by assumption) hc | exact absurd hc (by assumption) | (exfalso; omega) | exact absurd hc (by decide) | skip)) | (intro c hc; (try (simp only [AH.none_iff] at hc; repeat (have hn := hc.1; replace hc := hc.2))); (first | (have hc2 := Eq.trans hc (by with_reducible assumption); clear hc; subst hc2) | (refine i64_k hc ?_ ?_ ?_ ; omega; omega; (clear hc; intro hc; subst hc)) | (refine u64_k hc ?_ ?_ ?_ ; omega; omega; (clear hc; intro hc; subst hc)) | (refine u8_k hc ?_ ?_ ?_ ; omega; omega; (clear hc; intro hc; subst hc)) | subst hc | skip)) | (apply Exists.intro; apply And.intro; (focus (repeat (first | assumption | exact AH.set_same _ _ _ | ((first | refine AH.get_ne ?_ ?_ | refine AH.getd_ne ?_ ?_); (first | assumption | omega | exact Ne.symm (by assumption) | exact AH.ne_none (by assumption) (by assumption) | exact AH.none_ne (by assumption) (by assumption) | exact (AH.none_set (by assumption)).1 | exact Ne.symm (AH.none_set (by assumption)).1)))); done)) | (apply Exists.intro; apply And.intro; first | (with_reducible assumption) | ((try simp only [List.getElem?_drop, Nat.mul_one, Nat.add_zero, Nat.zero_add]); first | (with_reducible assumption) | (refine u8s_get ?_; omega) | (refine iS_get ?_; omega) | assumption | rfl)) | (apply And.intro; (first | rfl | (with_reducible assumption) | exact Nat.le_of_ble_eq_true rfl | omega | (exact Int.ofNat_lt.2 (Nat.lt_of_lt_of_eq (by with_reducible assumption) (by decide +kernel))) | assumption | (simp <;> fail) | (simp <;> omega) | (focus (repeat' (first | exact one_u8s _ | exact one_iS _ _ | rfl | apply one_take | apply one_drop | apply one_append)); done))))) <;> (try (conv => whnf))
  refine Then.mk ?_
  (repeat' ((conv => whnf); first | left | refine OpsA.cons ?_ | refine OpsA.nil ?_ | refine AWq.seq ?_ | refine AWq.region ?_ | refine AWq.cond ?_ | refine AWq.block ?_ | refine AWq.skip ?_ | refine AWq.ret ?_ | refine AWq.exit ?_ | refine AWq.loop ?_ | refine DrawA.consD ?_ | refine DrawA.nil ?_ | refine AWq.draw (by decide +kernel) ?_ | (refine Both.mk ?_ ?_ <;> intro hc <;> (first | exact Bool.noConfusion hc | exact absurd (by with_reducible rfl) hc | exact (hc : False).elim | exact absurd (by assumption) hc | exact absurd hc (by assumption) | (exfalso; omega) | exact absurd hc (by decide) | skip)) | (intro c hc; (try (simp only [AH.none_iff] at hc; repeat (have hn := hc.1; replace hc := hc.2))); (first | (have hc2 := Eq.trans hc (by with_reducible assumption); clear hc; subst hc2) | (refine i64_k hc ?_ ?_ ?_ ; omega; omega; (clear hc; intro hc; subst hc)) | (refine u64_k hc ?_ ?_ ?_ ; omega; omega; (clear hc; intro hc; subst hc)) | (refine u8_k hc ?_ ?_ ?_ ; omega; omega; (clear hc; intro hc; subst hc)) | subst hc | skip)) | (apply Exists.intro; apply And.intro; (focus (repeat (first | assumption | exact AH.set_same _ _ _ | ((first | refine AH.get_ne ?_ ?_ | refine AH.getd_ne ?_ ?_); (first | assumption | omega | exact Ne.symm (by assumption) | exact AH.ne_none (by assumption) (by assumption) | exact AH.none_ne (by assumption) (by assumption) | exact (AH.none_set (by assumption)).1 | exact Ne.symm (AH.none_set (by assumption)).1)))); done)) | (apply Exists.intro; apply And.intro; first | (with_reducible assumption) | ((try simp only [List.getElem?_drop, Nat.mul_one, Nat.add_zero, Nat.zero_add]); first | (with_reducible assumption) | (refine u8s_get ?_; omega) | (refine iS_get ?_; omega) | assumption | rfl)) | (apply And.intro; (first | rfl | (with_reducible assumption) | exact Nat.le_of_ble_eq_true rfl | omega | (exact Int.ofNat_lt.2 (Nat.lt_of_lt_of_eq (by with_reducible assumption) (by decide +kernel))) | assumption | (simp <;> fail) | (simp <;> omega) | (focus (repeat' (first | exact one_u8s _ | exact one_iS _ _ | rfl | apply one_take | apply one_drop | apply one_append)); done))))) <;> (try (conv => whnf))
  refine Then.mk (AWq.in ?_)
  have hpc2 : p2 ≠ c := AH.ne_none hc b2
  have hpc3 : p3 ≠ c := AH.ne_none hc b3
  have hpc4 : p4 ≠ c := AH.ne_none hc b4
  have hcH : HB c = none := hc
  refine AWp_cut (H2 := HB.set c (.row (dA (List.replicate a.length 0)) 0)) [(2, .ptr p2 0 0), (3, .ptr p3 0 0), (4, .ptr p4 0 0), (5, .sl c 0 1 0 a.length none), (6, .int .i64 0)] ⟨rfl, rfl, rfl, rfl, rfl, trivial⟩ (fun _ => rfl) (HLe.of_eq ?_) ?_
  · rw [← dA_zeros]
    rfl
  refine AWp.of tt_ok (dok _) rfl ?_
  (repeat' ((conv => whnf); first | refine Then.mk ?_ | left | refine OpsA.cons ?_ | refine OpsA.nil ?_ | refine AWq.seq ?_ | refine AWq.region ?_ | refine AWq.cond ?_ | refine AWq.block ?_ | refine AWq.skip ?_ | refine AWq.ret ?_ | refine AWq.exit ?_ | refine AWq.loop ?_ | refine DrawA.consD ?_ | refine DrawA.nil ?_ | refine AWq.draw (by decide +kernel) ?_ | (refine Both.mk ?_ ?_ <;> intro hc <;> (first | exact Bool.noConfusion hc | exact absurd (by with_reducible rfl) hc | exact (hc : False).elim | exact absurd (by assumption) hc | exact absurd hc (by assumption) | (exfalso; omega) | exact absurd hc (by decide) | skip)) | (intro c hc; (try (simp only [AH.none_iff] at hc; repeat (have hn := hc.1; replace hc := hc.2))); (first | (have hc2 := Eq.trans hc (by with_reducible assumption); clear hc; subst hc2) | (refine i64_k hc ?_ ?_ ?_ ; omega; omega; (clear hc; intro hc; subst hc)) | (refine u64_k hc ?_ ?_ ?_ ; omega; omega; (clear hc; intro hc; subst hc)) | (refine u8_k hc ?_ ?_ ?_ ; omega; omega; (clear hc; intro hc; subst hc)) | subst hc | skip)) | (apply Exists.intro; apply And.intro; (focus (repeat (first | assumption | exact AH.set_same _ _ _ | ((first | refine AH.get_ne ?_ ?_ | refine AH.getd_ne ?_ ?_); (first | assumption | omega | exact Ne.symm (by assumption) | exact AH.ne_none (by assumption) (by assumption) | exact AH.none_ne (by assumption) (by assumption) | exact (AH.none_set (by assumption)).1 | exact Ne.symm (AH.none_set (by assumption)).1)))); done)) | (apply Exists.intro; apply And.intro; first | (with_reducible assumption) | ((try simp only [List.getElem?_drop, Nat.mul_one, Nat.add_zero, Nat.zero_add]); first | (with_reducible assumption) | (refine u8s_get ?_; omega) | (refine iS_get ?_; omega) | assumption | rfl)) | (apply And.intro; (first | rfl | (with_reducible assumption) | exact Nat.le_of_ble_eq_true rfl | omega | (exact Int.ofNat_lt.2 (Nat.lt_of_lt_of_eq (by with_reducible assumption) (by decide +kernel))) | assumption | (simp <;> fail) | (simp <;> omega) | (focus (repeat' (first | exact one_u8s _ | exact one_iS _ _ | rfl | apply one_take | apply one_drop | apply one_append)); done))))) <;> (try (conv => whnf))
  have k2 : (HB.set c (.row (dA (List.replicate a.length 0)) 0)) p2 = some (.row [.bool g, .cs (dA a) a.length] 0) := by rw [AH.set_ne _ _ hpc2]; exact b2
  have k3 : (HB.set c (.row (dA (List.replicate a.length 0)) 0)) p3 = some (.row [.bool k, .cs [] 0] 0) := by rw [AH.set_ne _ _ hpc3]; exact b3
  have k4 : (HB.set c (.row (dA (List.replicate a.length 0)) 0)) p4 = some (.row [.bool false, .nils] 0) := by rw [AH.set_ne _ _ hpc4]; exact b4
  have kc : (HB.set c (.row (dA (List.replicate a.length 0)) 0)) c = some (.row (dA (List.replicate a.length 0)) 0) := AH.set_same _ _ _
  refine AWp_loop (σ := Nat) (6 :: 7 :: 8 :: 9 :: 18 :: 19 :: 20 :: 21 :: 22 :: 23 :: 24 :: 25 :: 26 :: 27 :: 28 :: 29 :: 30 :: 31 :: 32 :: 33 :: 34 :: 35 :: 36 :: 37 :: 38 :: 39 :: 40 :: 41 :: 42 :: 43 :: 44 :: 45 :: 46 :: 47 :: 48 :: 49 :: 50 :: 51 :: 52 :: 53 :: 54 :: 55 :: 56 :: 57 :: 58 :: 59 :: 60 :: 61 :: 62 :: 63 :: 64 :: 65 :: 66 :: 67 :: 68 :: []) (fun i => [(6, .int .i64 i)]) (fun i => HB.set c (.row (dA (List.replicate a.length 0)) 0)) (fun i => i ≤ a.length) (fun i => a.length - i) 0 rfl (Nat.zero_le _) ⟨rfl, trivial⟩ (HLe.refl _) ?_
  intro i hi
  dsimp only at hi ⊢
  refine AWp.of tt_ok (dok _) rfl ?_
  by_cases hil : i < a.length
  · have hw : (HB.set c (.row (dA (List.replicate a.length 0)) 0)).set c (.row (wrA (dA (List.replicate a.length 0)) (0 + ((i : Int) + 0).toNat * 1) [.int .i64 0]) 0) = HB.set c (.row (dA (List.replicate a.length 0)) 0) := by
      have e : wrA (dA (List.replicate a.length 0)) (0 + ((i : Int) + 0).toNat * 1) [.int .i64 0] = dA (List.replicate a.length 0) := by
        rw [show 0 + ((i : Int) + 0).toNat * 1 = i by omega]
        refine (dA_wr (by simp; omega) 0).trans ?_
        congr 1
        apply List.ext_getElem?
        intro j
        rw [List.getElem?_set]
        split
        · rename_i hij
          subst hij
          rw [if_pos (by simpa using hil)]
          simp [hil]
        · rfl
      rw [e, AH.set_set]
    generalize (HB.set c (.row (dA (List.replicate a.length 0)) 0)) = G at *
    generalize dA (List.replicate a.length 0) = R at *
    (repeat' ((conv => whnf); first | refine Then.mk ?_ | left | refine OpsA.cons ?_ | refine OpsA.nil ?_ | refine AWq.seq ?_ | refine AWq.region ?_ | refine AWq.cond ?_ | refine AWq.block ?_ | refine AWq.skip ?_ | refine AWq.ret ?_ | refine AWq.exit ?_ | refine AWq.loop ?_ | refine DrawA.consD ?_ | refine DrawA.nil ?_ | refine AWq.draw (by decide +kernel) ?_ | (refine Both.mk ?_ ?_ <;> intro hc <;> (first | exact Bool.noConfusion hc | exact absurd (by with_reducible rfl) hc | exact (hc : False).elim | exact absurd (by assumption) hc | exact absurd hc (by assumption) | (exfalso; omega) | exact absurd hc (by decide) | skip)) | (intro c hc; (try (simp only [AH.none_iff] at hc; repeat (have hn := hc.1; replace hc := hc.2))); (first | (have hc2 := Eq.trans hc (by with_reducible assumption); clear hc; subst hc2) | (refine i64_k hc ?_ ?_ ?_ ; omega; omega; (clear hc; intro hc; subst hc)) | (refine u64_k hc ?_ ?_ ?_ ; omega; omega; (clear hc; intro hc; subst hc)) | (refine u8_k hc ?_ ?_ ?_ ; omega; omega; (clear hc; intro hc; subst hc)) | subst hc | skip)) | (apply Exists.intro; apply And.intro; (focus (repeat (first | assumption | exact AH.set_same _ _ _ | ((first | refine AH.get_ne ?_ ?_ | refine AH.getd_ne ?_ ?_); (first | assumption | omega | exact Ne.symm (by assumption) | exact AH.ne_none (by assumption) (by assumption) | exact AH.none_ne (by assumption) (by assumption) | exact (AH.none_set (by assumption)).1 | exact Ne.symm (AH.none_set (by assumption)).1)))); done)) | (apply Exists.intro; apply And.intro; first | (with_reducible assumption) | ((try simp only [List.getElem?_drop, Nat.mul_one, Nat.add_zero, Nat.zero_add]); first | (with_reducible assumption) | (refine u8s_get ?_; omega) | (refine iS_get ?_; omega) | assumption | rfl)) | (apply And.intro; (first | rfl | (with_reducible assumption) | exact Nat.le_of_ble_eq_true rfl | omega | (exact Int.ofNat_lt.2 (Nat.lt_of_lt_of_eq (by with_reducible assumption) (by decide +kernel))) | assumption | (simp <;> fail) | (simp <;> omega) | (focus (repeat' (first | exact one_u8s _ | exact one_iS _ _ | rfl | apply one_take | apply one_drop | apply one_append)); done))))) <;> (try (conv => whnf))
    refine AWp_loop (σ := Unit) (7 :: 8 :: 9 :: 25 :: 26 :: 27 :: 28 :: 29 :: 30 :: 31 :: 32 :: 33 :: 34 :: 35 :: 36 :: 37 :: 38 :: 39 :: 40 :: 41 :: 42 :: 43 :: 44 :: 45 :: 46 :: 47 :: 48 :: 49 :: 50 :: 51 :: 52 :: 53 :: 54 :: 55 :: 56 :: 57 :: 58 :: 59 :: 60 :: []) (fun j => [(7, .int .i64 0), (8, .int .i64 0)]) (fun j => G) (fun j => True) (fun j => 0) () rfl trivial ⟨rfl, rfl, trivial⟩ (HLe.refl _) ?_
    rintro _ _
    refine AWp.of tt_ok (dok _) rfl ?_
    dsimp only
    (repeat' ((conv => whnf); first | refine Then.mk ?_ | left | refine OpsA.cons ?_ | refine OpsA.nil ?_ | refine AWq.seq ?_ | refine AWq.region ?_ | refine AWq.cond ?_ | refine AWq.block ?_ | refine AWq.skip ?_ | refine AWq.ret ?_ | refine AWq.exit ?_ | refine AWq.loop ?_ | refine DrawA.consD ?_ | refine DrawA.nil ?_ | refine AWq.draw (by decide +kernel) ?_ | (refine Both.mk ?_ ?_ <;> intro hc <;> (first | exact Bool.noConfusion hc | exact absurd (by with_reducible rfl) hc | exact (hc : False).elim | exact absurd (by assumption) hc | exact absurd hc (by assumption) | (exfalso; omega) | exact absurd hc (by decide) | skip)) | (intro c hc; (try (simp only [AH.none_iff] at hc; repeat (have hn := hc.1; replace hc := hc.2))); (first | (have hc2 := Eq.trans hc (by with_reducible assumption); clear hc; subst hc2) | (refine i64_k hc ?_ ?_ ?_ ; omega; omega; (clear hc; intro hc; subst hc)) | (refine u64_k hc ?_ ?_ ?_ ; omega; omega; (clear hc; intro hc; subst hc)) | (refine u8_k hc ?_ ?_ ?_ ; omega; omega; (clear hc; intro hc; subst hc)) | subst hc | skip)) | (apply Exists.intro; apply And.intro; (focus (repeat (first | assumption | exact AH.set_same _ _ _ | ((first | refine AH.get_ne ?_ ?_ | refine AH.getd_ne ?_ ?_); (first | assumption | omega | exact Ne.symm (by assumption) | exact AH.ne_none (by assumption) (by assumption) | exact AH.none_ne (by assumption) (by assumption) | exact (AH.none_set (by assumption)).1 | exact Ne.symm (AH.none_set (by assumption)).1)))); done)) | (apply Exists.intro; apply And.intro; first | (with_reducible assumption) | ((try simp only [List.getElem?_drop, Nat.mul_one, Nat.add_zero, Nat.zero_add]); first | (with_reducible assumption) | (refine u8s_get ?_; omega) | (refine iS_get ?_; omega) | assumption | rfl)) | (apply And.intro; (first | rfl | (with_reducible assumption) | exact Nat.le_of_ble_eq_true rfl | omega | (exact Int.ofNat_lt.2 (Nat.lt_of_lt_of_eq (by with_reducible assumption) (by decide +kernel))) | assumption | (simp <;> fail) | (simp <;> omega) | (focus (repeat' (first | exact one_u8s _ | exact one_iS _ _ | rfl | apply one_take | apply one_drop | apply one_append)); done))))) <;> (try (conv => whnf))
    exact ⟨i + 1, hil, by omega, ⟨congrArg (AV.int .i64) (by omega), trivial⟩, HLe.of_eq hw.symm⟩
  · unfold nN at hnm ⊢
    cases g <;> cases k
    all_goals
      (repeat' ((conv => whnf); first | refine Then.mk ?_ | left | refine OpsA.cons ?_ | refine OpsA.nil ?_ | refine AWq.seq ?_ | refine AWq.region ?_ | refine AWq.cond ?_ | refine AWq.block ?_ | refine AWq.skip ?_ | refine AWq.ret ?_ | refine AWq.exit ?_ | refine AWq.loop ?_ | refine DrawA.consD ?_ | refine DrawA.nil ?_ | refine AWq.draw (by decide +kernel) ?_ | (refine Both.mk ?_ ?_ <;> intro hc <;> (first | exact Bool.noConfusion hc | exact absurd (by with_reducible rfl) hc | exact (hc : False).elim | exact absurd (by assumption) hc | exact absurd hc (by assumption) | (exfalso; omega) | exact absurd hc (by decide) | skip)) | (intro c hc; (try (simp only [AH.none_iff] at hc; repeat (have hn := hc.1; replace hc := hc.2))); (first | (have hc2 := Eq.trans hc (by with_reducible assumption); clear hc; subst hc2) | (refine i64_k hc ?_ ?_ ?_ ; omega; omega; (clear hc; intro hc; subst hc)) | (refine u64_k hc ?_ ?_ ?_ ; omega; omega; (clear hc; intro hc; subst hc)) | (refine u8_k hc ?_ ?_ ?_ ; omega; omega; (clear hc; intro hc; subst hc)) | subst hc | skip)) | (apply Exists.intro; apply And.intro; (focus (repeat (first | assumption | exact AH.set_same _ _ _ | ((first | refine AH.get_ne ?_ ?_ | refine AH.getd_ne ?_ ?_); (first | assumption | omega | exact Ne.symm (by assumption) | exact AH.ne_none (by assumption) (by assumption) | exact AH.none_ne (by assumption) (by assumption) | exact (AH.none_set (by assumption)).1 | exact Ne.symm (AH.none_set (by assumption)).1)))); done)) | (apply Exists.intro; apply And.intro; first | (with_reducible assumption) | ((try simp only [List.getElem?_drop, Nat.mul_one, Nat.add_zero, Nat.zero_add]); first | (with_reducible assumption) | (refine u8s_get ?_; omega) | (refine iS_get ?_; omega) | assumption | rfl)) | (apply And.intro; (first | rfl | (with_reducible assumption) | exact Nat.le_of_ble_eq_true rfl | omega | (exact Int.ofNat_lt.2 (Nat.lt_of_lt_of_eq (by with_reducible assumption) (by decide +kernel))) | assumption | (simp <;> fail) | (simp <;> omega) | (focus (repeat' (first | exact one_u8s _ | exact one_iS _ _ | rfl | apply one_take | apply one_drop | apply one_append)); done))))) <;> (try (conv => whnf))
      refine ACall.frz (pre := [_]) (post := []) (r := c) (v := 0) (es := 1) (n := a.length) (cells := dA (List.replicate a.length 0)) (AH.set_same _ _ _) hz0 ?_
      rw [AH.del_set _ _ _ hcH]
      refine ACall.to (hnm _) ?_
      (repeat' ((conv => whnf); first | refine Then.mk ?_ | left | refine OpsA.cons ?_ | refine OpsA.nil ?_ | refine AWq.seq ?_ | refine AWq.region ?_ | refine AWq.cond ?_ | refine AWq.block ?_ | refine AWq.skip ?_ | refine AWq.ret ?_ | refine AWq.exit ?_ | refine AWq.loop ?_ | refine DrawA.consD ?_ | refine DrawA.nil ?_ | refine AWq.draw (by decide +kernel) ?_ | (refine Both.mk ?_ ?_ <;> intro hc <;> (first | exact Bool.noConfusion hc | exact absurd (by with_reducible rfl) hc | exact (hc : False).elim | exact absurd (by assumption) hc | exact absurd hc (by assumption) | (exfalso; omega) | exact absurd hc (by decide) | skip)) | (intro c hc; (try (simp only [AH.none_iff] at hc; repeat (have hn := hc.1; replace hc := hc.2))); (first | (have hc2 := Eq.trans hc (by with_reducible assumption); clear hc; subst hc2) | (refine i64_k hc ?_ ?_ ?_ ; omega; omega; (clear hc; intro hc; subst hc)) | (refine u64_k hc ?_ ?_ ?_ ; omega; omega; (clear hc; intro hc; subst hc)) | (refine u8_k hc ?_ ?_ ?_ ; omega; omega; (clear hc; intro hc; subst hc)) | subst hc | skip)) | (apply Exists.intro; apply And.intro; (focus (repeat (first | assumption | exact AH.set_same _ _ _ | ((first | refine AH.get_ne ?_ ?_ | refine AH.getd_ne ?_ ?_); (first | assumption | omega | exact Ne.symm (by assumption) | exact AH.ne_none (by assumption) (by assumption) | exact AH.none_ne (by assumption) (by assumption) | exact (AH.none_set (by assumption)).1 | exact Ne.symm (AH.none_set (by assumption)).1)))); done)) | (apply Exists.intro; apply And.intro; first | (with_reducible assumption) | ((try simp only [List.getElem?_drop, Nat.mul_one, Nat.add_zero, Nat.zero_add]); first | (with_reducible assumption) | (refine u8s_get ?_; omega) | (refine iS_get ?_; omega) | assumption | rfl)) | (apply And.intro; (first | rfl | (with_reducible assumption) | exact Nat.le_of_ble_eq_true rfl | omega | (exact Int.ofNat_lt.2 (Nat.lt_of_lt_of_eq (by with_reducible assumption) (by decide +kernel))) | assumption | (simp <;> fail) | (simp <;> omega) | (focus (repeat' (first | exact one_u8s _ | exact one_iS _ _ | rfl | apply one_take | apply one_drop | apply one_append)); done))))) <;> (try (conv => whnf))
      exact HLe.set_of _ _ bl hp4

set_option maxRecDepth 8000 in
theorem small_c (d k : Nat) (hd0 : d ≠ 0) (hd : d < 10000) (hk : k < 10000) (H : AH) :
    ACall Try.prog 81 [.cs (dA [d]) 1, .int .i64 k] H (fun y H' => y = .cs (dA (dg (d * k))) (dg (d * k)).length ∧ H' = H) := by
  refine ACall.back ?_
  have h1 : ∀ H, ACall Try.prog 64 [.int .i64 k] H (fun y H' => y = nR false k ∧ H' = H) := fun H => by
    have := of_c (k : Int) (by omega) H
    rw [decide_eq_false (by omega), show ab (k : Int) = k from rfl] at this
    exact this
  have hl1 : (dg d).length ≤ 50000000 := by rw [dg_one hd hd0]; simp
  have h2 : ∀ H, ACall Try.prog 68 [nR false d, nR false k] H (fun v H' => v = nN false (d * k) ∧ H' = H) := fun H => by
    by_cases h0 : k = 0
    · subst h0
      exact mul0_c false false d hl1 H
    · exact mul_c false false d k hl1 h0 hk H
  unfold nN nR at *
  rw [dg_one hd hd0] at h2
  have h2 : ∀ H, ACall Try.prog 68 [.agg [.bool false, .cs (dA [d]) 1], .agg [.bool false, .cs (dA (dg k)) (dg k).length]] H (fun v H' => v = .agg [.bool false, .cs (dA (dg (d * k))) (dg (d * k)).length] ∧ H' = H) := h2
  refine ACall_of tt_ok (dok _) Try.func81 rfl (by decide) rfl ?_
  (repeat' ((conv => whnf); first | refine Then.mk ?_ | left | refine OpsA.cons ?_ | refine OpsA.nil ?_ | refine AWq.seq ?_ | refine AWq.region ?_ | refine AWq.cond ?_ | refine AWq.skip ?_ | refine AWq.ret ?_ | (refine ACall.to (h1 _) ?_) | (refine ACall.to (h2 _) ?_) | (refine Both.mk ?_ ?_ <;> intro hc <;> (first | exact Bool.noConfusion hc | exact absurd (by with_reducible rfl) hc | exact (hc : False).elim | exact absurd (by assumption) hc | exact absurd hc (by assumption) | (exfalso; omega) | exact absurd hc (by decide) | skip)) | (intro c hc; (try (simp only [AH.none_iff] at hc; repeat (have hn := hc.1; replace hc := hc.2))); (first | (have hc2 := Eq.trans hc (by with_reducible assumption); clear hc; subst hc2) | (refine i64_k hc ?_ ?_ ?_ ; omega; omega; (clear hc; intro hc; subst hc)) | (refine u64_k hc ?_ ?_ ?_ ; omega; omega; (clear hc; intro hc; subst hc)) | (refine u8_k hc ?_ ?_ ?_ ; omega; omega; (clear hc; intro hc; subst hc)) | subst hc | skip)) | (apply Exists.intro; apply And.intro; (focus (repeat (first | assumption | exact AH.set_same _ _ _ | ((first | refine AH.get_ne ?_ ?_ | refine AH.getd_ne ?_ ?_); (first | assumption | omega | exact Ne.symm (by assumption) | exact AH.ne_none (by assumption) (by assumption) | exact AH.none_ne (by assumption) (by assumption) | exact (AH.none_set (by assumption)).1 | exact Ne.symm (AH.none_set (by assumption)).1)))); done)) | (apply Exists.intro; apply And.intro; first | (with_reducible assumption) | ((try simp only [List.getElem?_drop, Nat.mul_one, Nat.add_zero, Nat.zero_add]); first | (with_reducible assumption) | (refine u8s_get ?_; omega) | (refine iS_get ?_; omega) | assumption | rfl)) | (apply And.intro; (first | rfl | (with_reducible assumption) | exact Nat.le_of_ble_eq_true rfl | omega | (exact Int.ofNat_lt.2 (Nat.lt_of_lt_of_eq (by with_reducible assumption) (by decide +kernel))) | assumption | (simp <;> fail) | (simp <;> omega) | (focus (repeat' (first | exact one_u8s _ | exact one_iS _ _ | rfl | apply one_take | apply one_drop | apply one_append)); done))))) <;> (try (conv => whnf))
  ((repeat' (first | refine HLe.set_of _ _ ?_ ?_ | refine HLe.del _ ?_ ?_)) <;> (first | assumption | exact HLe.refl _ | exact HLe.none (by assumption) (by assumption) | (simp_all; done)))

set_option maxRecDepth 8000 in
theorem digits_c (a : List Nat) (i : Int) (hi : -9223372036854775808 ≤ i ∧ i ≤ 9223372036854775807) (H : AH) :
    ACall Try.prog 85 [.cs (dA a) a.length, .int .i64 i] H (fun y H' => y = .int .i64 (if 0 ≤ i then (a.getD i.toNat 0 : Nat) else 0) ∧ H' = H) := by
  by_cases h0 : i < 0
  · rw [if_neg (by omega)]
    refine ACall_of tt_ok (dok _) Try.func85 rfl (by decide) rfl ?_
    (repeat' ((conv => whnf); first | refine Then.mk ?_ | left | refine OpsA.cons ?_ | refine OpsA.nil ?_ | refine AWq.seq ?_ | refine AWq.region ?_ | refine AWq.cond ?_ | refine AWq.skip ?_ | refine AWq.ret ?_ | (refine Both.mk ?_ ?_ <;> intro hc <;> (first | exact Bool.noConfusion hc | exact absurd (by with_reducible rfl) hc | exact (hc : False).elim | exact absurd (by assumption) hc | exact absurd hc (by assumption) | (exfalso; omega) | exact absurd hc (by decide) | skip)) | (intro c hc; (try (simp only [AH.none_iff] at hc; repeat (have hn := hc.1; replace hc := hc.2))); (first | (have hc2 := Eq.trans hc (by with_reducible assumption); clear hc; subst hc2) | (refine i64_k hc ?_ ?_ ?_ ; omega; omega; (clear hc; intro hc; subst hc)) | (refine u64_k hc ?_ ?_ ?_ ; omega; omega; (clear hc; intro hc; subst hc)) | (refine u8_k hc ?_ ?_ ?_ ; omega; omega; (clear hc; intro hc; subst hc)) | subst hc | skip)) | (apply Exists.intro; apply And.intro; (focus (repeat (first | assumption | exact AH.set_same _ _ _ | ((first | refine AH.get_ne ?_ ?_ | refine AH.getd_ne ?_ ?_); (first | assumption | omega | exact Ne.symm (by assumption) | exact AH.ne_none (by assumption) (by assumption) | exact AH.none_ne (by assumption) (by assumption) | exact (AH.none_set (by assumption)).1 | exact Ne.symm (AH.none_set (by assumption)).1)))); done)) | (apply Exists.intro; apply And.intro; first | (with_reducible assumption) | ((try simp only [List.getElem?_drop, Nat.mul_one, Nat.add_zero, Nat.zero_add]); first | (with_reducible assumption) | (refine u8s_get ?_; omega) | (refine iS_get ?_; omega) | assumption | rfl)) | (apply And.intro; (first | rfl | (with_reducible assumption) | exact Nat.le_of_ble_eq_true rfl | omega | (exact Int.ofNat_lt.2 (Nat.lt_of_lt_of_eq (by with_reducible assumption) (by decide +kernel))) | assumption | (simp <;> fail) | (simp <;> omega) | (focus (repeat' (first | exact one_u8s _ | exact one_iS _ _ | rfl | apply one_take | apply one_drop | apply one_append)); done))))) <;> (try (conv => whnf))
  · rw [if_pos (by omega)]
    by_cases h1 : i < a.length
    · have hg : (dA a)[i.toNat]? = some (.int .i64 (a.getD i.toNat 0 : Nat)) := dA_get (by omega)
      have hal : (dA a).length = a.length := by simp
      generalize a.getD i.toNat 0 = z at *
      refine ACall_of tt_ok (dok _) Try.func85 rfl (by decide) rfl ?_
      (repeat' ((conv => whnf); first | refine Then.mk ?_ | left | refine OpsA.cons ?_ | refine OpsA.nil ?_ | refine AWq.seq ?_ | refine AWq.region ?_ | refine AWq.cond ?_ | refine AWq.skip ?_ | refine AWq.ret ?_ | (refine Both.mk ?_ ?_ <;> intro hc <;> (first | exact Bool.noConfusion hc | exact absurd (by with_reducible rfl) hc | exact (hc : False).elim | exact absurd (by assumption) hc | exact absurd hc (by assumption) | (exfalso; omega) | exact absurd hc (by decide) | skip)) | (intro c hc; (try (simp only [AH.none_iff] at hc; repeat (have hn := hc.1; replace hc := hc.2))); (first | (have hc2 := Eq.trans hc (by with_reducible assumption); clear hc; subst hc2) | (refine i64_k hc ?_ ?_ ?_ ; omega; omega; (clear hc; intro hc; subst hc)) | (refine u64_k hc ?_ ?_ ?_ ; omega; omega; (clear hc; intro hc; subst hc)) | (refine u8_k hc ?_ ?_ ?_ ; omega; omega; (clear hc; intro hc; subst hc)) | subst hc | skip)) | (apply Exists.intro; apply And.intro; (focus (repeat (first | assumption | exact AH.set_same _ _ _ | ((first | refine AH.get_ne ?_ ?_ | refine AH.getd_ne ?_ ?_); (first | assumption | omega | exact Ne.symm (by assumption) | exact AH.ne_none (by assumption) (by assumption) | exact AH.none_ne (by assumption) (by assumption) | exact (AH.none_set (by assumption)).1 | exact Ne.symm (AH.none_set (by assumption)).1)))); done)) | (apply Exists.intro; apply And.intro; first | (with_reducible assumption) | ((try simp only [List.getElem?_drop, Nat.mul_one, Nat.add_zero, Nat.zero_add]); first | (with_reducible assumption) | (refine u8s_get ?_; omega) | (refine iS_get ?_; omega) | assumption | rfl)) | (apply And.intro; (first | rfl | (with_reducible assumption) | exact Nat.le_of_ble_eq_true rfl | omega | (exact Int.ofNat_lt.2 (Nat.lt_of_lt_of_eq (by with_reducible assumption) (by decide +kernel))) | assumption | (simp <;> fail) | (simp <;> omega) | (focus (repeat' (first | exact one_u8s _ | exact one_iS _ _ | rfl | apply one_take | apply one_drop | apply one_append)); done))))) <;> (try (conv => whnf))
    · have hz : a.getD i.toNat 0 = 0 := by rw [List.getD_eq_getElem?_getD, List.getElem?_eq_none (by omega)]; rfl
      rw [hz]
      refine ACall_of tt_ok (dok _) Try.func85 rfl (by decide) rfl ?_
      (repeat' ((conv => whnf); first | refine Then.mk ?_ | left | refine OpsA.cons ?_ | refine OpsA.nil ?_ | refine AWq.seq ?_ | refine AWq.region ?_ | refine AWq.cond ?_ | refine AWq.skip ?_ | refine AWq.ret ?_ | (refine Both.mk ?_ ?_ <;> intro hc <;> (first | exact Bool.noConfusion hc | exact absurd (by with_reducible rfl) hc | exact (hc : False).elim | exact absurd (by assumption) hc | exact absurd hc (by assumption) | (exfalso; omega) | exact absurd hc (by decide) | skip)) | (intro c hc; (try (simp only [AH.none_iff] at hc; repeat (have hn := hc.1; replace hc := hc.2))); (first | (have hc2 := Eq.trans hc (by with_reducible assumption); clear hc; subst hc2) | (refine i64_k hc ?_ ?_ ?_ ; omega; omega; (clear hc; intro hc; subst hc)) | (refine u64_k hc ?_ ?_ ?_ ; omega; omega; (clear hc; intro hc; subst hc)) | (refine u8_k hc ?_ ?_ ?_ ; omega; omega; (clear hc; intro hc; subst hc)) | subst hc | skip)) | (apply Exists.intro; apply And.intro; (focus (repeat (first | assumption | exact AH.set_same _ _ _ | ((first | refine AH.get_ne ?_ ?_ | refine AH.getd_ne ?_ ?_); (first | assumption | omega | exact Ne.symm (by assumption) | exact AH.ne_none (by assumption) (by assumption) | exact AH.none_ne (by assumption) (by assumption) | exact (AH.none_set (by assumption)).1 | exact Ne.symm (AH.none_set (by assumption)).1)))); done)) | (apply Exists.intro; apply And.intro; first | (with_reducible assumption) | ((try simp only [List.getElem?_drop, Nat.mul_one, Nat.add_zero, Nat.zero_add]); first | (with_reducible assumption) | (refine u8s_get ?_; omega) | (refine iS_get ?_; omega) | assumption | rfl)) | (apply And.intro; (first | rfl | (with_reducible assumption) | exact Nat.le_of_ble_eq_true rfl | omega | (exact Int.ofNat_lt.2 (Nat.lt_of_lt_of_eq (by with_reducible assumption) (by decide +kernel))) | assumption | (simp <;> fail) | (simp <;> omega) | (focus (repeat' (first | exact one_u8s _ | exact one_iS _ _ | rfl | apply one_take | apply one_drop | apply one_append)); done))))) <;> (try (conv => whnf))
end Go.Proofs.Ytgmooalikccbiaa
