/- The walk of the generator of values. -/
import Derived.Test.YtlelhddchgipeaaWireM
namespace Go.Proofs.Ytlelhddchgipeaa
open Go.Fw Go
set_option linter.unusedVariables false
set_option linter.unusedSimpArgs false

def aro (n : Int) (m : Nat) : Nat := ((if n < 0 then -(n + 1) else n).tmod m).toNat
theorem aro_lt {n : Int} {m : Nat} (hm : 1 ≤ m) : aro n m < m := by
  unfold aro
  have hlt : ∀ x : Int, 0 ≤ x → x.tmod m < m := fun x h => Int.tmod_lt_of_pos _ (by omega)
  have := hlt (if n < 0 then -(n + 1) else n) (by split <;> omega)
  omega

set_option maxRecDepth 8000 in
theorem around_f (n : Int) (h1 : -9223372036854775808 ≤ n) (h2 : n ≤ 9223372036854775807) (m : Nat) (hm : 1 ≤ m) (hm2 : m ≤ 1000000) (H : AH) :
    ACall Try.prog 11 [.int .i64 n, .int .i64 m] H (fun y H' => y = .int .i64 (aro n m) ∧ H' = H) := by
  unfold aro
  by_cases hn : n < 0
  · have hp : 0 ≤ (-(n + 1)).tmod m := Int.tmod_nonneg _ (by omega)
    rw [if_pos hn, Int.toNat_of_nonneg hp]
    refine ACall_of tt_ok (dok _) Try.func11 rfl (by decide) rfl ?_
    (repeat' ((conv => whnf); first | refine Then.mk ?_ | left | refine OpsA.cons ?_ | refine OpsA.nil ?_ | refine AWq.seq ?_ | refine AWq.region ?_ | refine AWq.cond ?_ | refine AWq.block ?_ | refine AWq.skip ?_ | refine AWq.ret ?_ | refine AWq.exit ?_ | refine AWq.loop ?_ | refine AWq.rangeFunc ?_ | refine DrawA.consD ?_ | refine DrawA.nil ?_ | refine AWq.draw (by decide +kernel) ?_ | (refine Both.mk ?_ ?_ <;> intro hc <;> (first | exact Bool.noConfusion hc | exact absurd (by with_reducible rfl) hc | exact (hc : False).elim | exact absurd (by assumption) hc | exact absurd hc (by assumption) | (exfalso; omega) | exact absurd hc (by decide) | skip)) | (intro c hc; (try (simp only [AH.none_iff] at hc; repeat (have hn := hc.1; replace hc := hc.2))); (first | (refine i64_k hc ?_ ?_ ?_ ; omega; omega; (clear hc; intro hc; subst hc)) | (refine u64_k hc ?_ ?_ ?_ ; omega; omega; (clear hc; intro hc; subst hc)) | (refine u8_k hc ?_ ?_ ?_ ; omega; omega; (clear hc; intro hc; subst hc)) | subst hc | skip)) | (apply Exists.intro; apply And.intro; (focus (repeat (first | assumption | exact AH.set_same _ _ _ | ((first | refine AH.get_ne ?_ ?_ | refine AH.getd_ne ?_ ?_); (first | assumption | omega | exact Ne.symm (by assumption) | exact AH.ne_none (by assumption) (by assumption) | exact AH.none_ne (by assumption) (by assumption) | exact (AH.none_set (by assumption)).1 | exact Ne.symm (AH.none_set (by assumption)).1)))); done)) | (apply Exists.intro; apply And.intro; (try simp only [List.getElem?_drop, Nat.mul_one, Nat.add_zero, Nat.zero_add]); first | (refine u8s_get ?_; omega) | (refine iS_get ?_; omega) | assumption | rfl | fail) | (apply And.intro; (first | rfl | assumption | exact Nat.le_of_ble_eq_true rfl | omega | (simp <;> fail) | (simp <;> omega) | (focus (repeat' (first | exact one_u8s _ | exact one_iS _ _ | rfl | apply one_take | apply one_drop | apply one_append)); done) | fail)) | fail)) <;> (try (conv => whnf))
  · have hp : 0 ≤ n.tmod m := Int.tmod_nonneg _ (by omega)
    rw [if_neg hn, Int.toNat_of_nonneg hp]
    refine ACall_of tt_ok (dok _) Try.func11 rfl (by decide) rfl ?_
    (repeat' ((conv => whnf); first | refine Then.mk ?_ | left | refine OpsA.cons ?_ | refine OpsA.nil ?_ | refine AWq.seq ?_ | refine AWq.region ?_ | refine AWq.cond ?_ | refine AWq.block ?_ | refine AWq.skip ?_ | refine AWq.ret ?_ | refine AWq.exit ?_ | refine AWq.loop ?_ | refine AWq.rangeFunc ?_ | refine DrawA.consD ?_ | refine DrawA.nil ?_ | refine AWq.draw (by decide +kernel) ?_ | (refine Both.mk ?_ ?_ <;> intro hc <;> (first | exact Bool.noConfusion hc | exact absurd (by with_reducible rfl) hc | exact (hc : False).elim | exact absurd (by assumption) hc | exact absurd hc (by assumption) | (exfalso; omega) | exact absurd hc (by decide) | skip)) | (intro c hc; (try (simp only [AH.none_iff] at hc; repeat (have hn := hc.1; replace hc := hc.2))); (first | (refine i64_k hc ?_ ?_ ?_ ; omega; omega; (clear hc; intro hc; subst hc)) | (refine u64_k hc ?_ ?_ ?_ ; omega; omega; (clear hc; intro hc; subst hc)) | (refine u8_k hc ?_ ?_ ?_ ; omega; omega; (clear hc; intro hc; subst hc)) | subst hc | skip)) | (apply Exists.intro; apply And.intro; (focus (repeat (first | assumption | exact AH.set_same _ _ _ | ((first | refine AH.get_ne ?_ ?_ | refine AH.getd_ne ?_ ?_); (first | assumption | omega | exact Ne.symm (by assumption) | exact AH.ne_none (by assumption) (by assumption) | exact AH.none_ne (by assumption) (by assumption) | exact (AH.none_set (by assumption)).1 | exact Ne.symm (AH.none_set (by assumption)).1)))); done)) | (apply Exists.intro; apply And.intro; (try simp only [List.getElem?_drop, Nat.mul_one, Nat.add_zero, Nat.zero_add]); first | (refine u8s_get ?_; omega) | (refine iS_get ?_; omega) | assumption | rfl | fail) | (apply And.intro; (first | rfl | assumption | exact Nat.le_of_ble_eq_true rfl | omega | (simp <;> fail) | (simp <;> omega) | (focus (repeat' (first | exact one_u8s _ | exact one_iS _ _ | rfl | apply one_take | apply one_drop | apply one_append)); done) | fail)) | fail)) <;> (try (conv => whnf))

def byteOf (x : Int) (j : Nat) : UInt8 := UInt8.ofNat ((x.fdiv (2 ^ j)) % 256).toNat
def bytesOf (x : Int) (n : Nat) : List UInt8 := (List.range n).map (byteOf x)
def intsOf (x : Int) (n : Nat) : List Int := (List.range n).map fun j => x.fdiv (2 ^ (13 * j))
/-- The value that a number makes. -/
def valOf (x : Int) : V :=
  if aro x 6 = 0 then ⟨0, (x % 18446744073709551616).toNat / 2 ^ aro (x.tdiv 6) 63, 0, [], []⟩
  else if aro x 6 = 1 then ⟨1, 0, x.fdiv (2 ^ aro (x.tdiv 6) 63), [], []⟩
  else if aro x 6 = 2 then ⟨2, 0, (aro (x.tdiv 6) 63 % 2 : Nat), [], []⟩
  else if aro x 6 = 3 then ⟨3, 0, 0, bytesOf x (aro (x.tdiv 6) 63 % 10), []⟩
  else if aro x 6 = 4 then ⟨4, 0, 0, bytesOf x (aro (x.tdiv 6) 63 % 10), []⟩
  else ⟨5, 0, 0, [], intsOf x (aro (x.tdiv 6) 63 % 5)⟩

/-- A value's cells, as they come. -/
def vN (v : V) : List AV := [.int .i64 v.kind, .int .u64 v.u, .int .i64 v.n, if v.kind = 3 ∨ v.kind = 4 then .cs (u8s v.b) v.b.length else .nils, if v.kind = 5 then .cs (iS .i64 v.l) v.l.length else .nils]
def vsN (l : List V) : List AV := l.flatMap vN
theorem vsN_len : ∀ l : List V, (vsN l).length = l.length * 5
  | [] => rfl
  | v :: l => by
    have := vsN_len l
    simp only [vsN, List.flatMap_cons, List.length_append, List.length_cons] at this ⊢
    rw [this]; simp [vN]; omega

theorem valOf_b (x : Int) : ¬ ((valOf x).kind = 3 ∨ (valOf x).kind = 4) → (valOf x).b = [] := by
  unfold valOf
  repeat' split
  all_goals simp
theorem valOf_l (x : Int) : ¬ (valOf x).kind = 5 → (valOf x).l = [] := by
  unfold valOf
  repeat' split
  all_goals simp

theorem vN_le (x : Int) : AVles (vN (valOf x)) (vA (valOf x)) := by
  have hb := valOf_b x
  have hl := valOf_l x
  unfold vN vA
  refine AVles.cons (AVle.refl _) (AVles.cons (AVle.refl _) (AVles.cons (AVle.refl _) (AVles.cons ?_ (AVles.cons ?_ AVles.nil))))
  · split
    · exact AVle.refl _
    · rename_i h; rw [hb h]; exact AVle.nils
  · split
    · exact AVle.refl _
    · rename_i h; rw [hl h]; exact AVle.nils
theorem vsN_le : ∀ l : List Int, AVles (vsN (l.map valOf)) (vsA (l.map valOf))
  | [] => AVles.nil
  | x :: l => by
    have := vsN_le l
    simp only [List.map_cons, vsN, vsA, List.flatMap_cons] at this ⊢
    exact AVles.append (vN_le x) this

theorem bytesOf_len (x : Int) (n : Nat) : (bytesOf x n).length = n := by simp [bytesOf]
theorem bytesOf_take (x : Int) {j n : Nat} (h : j < n) : (bytesOf x n).take (j + 1) = (bytesOf x n).take j ++ [byteOf x j] := by
  rw [List.take_add_one]; simp [bytesOf, h]
theorem intsOf_len (x : Int) (n : Nat) : (intsOf x n).length = n := by simp [intsOf]
theorem intsOf_take (x : Int) {j n : Nat} (h : j < n) : (intsOf x n).take (j + 1) = (intsOf x n).take j ++ [x.fdiv (2 ^ (13 * j))] := by
  rw [List.take_add_one]; simp [intsOf, h]

set_option maxHeartbeats 4000000 in
set_option maxRecDepth 8000 in
theorem vals_x (l : List Int) (hl : l.length ≤ 9223372036854775807) (hr : ∀ x ∈ l, I64 x) (H : AH) :
    ACall Try.prog 19 [.cs (iS .i64 l) l.length] H (fun y H' => ∃ r, H r = none ∧ ∃ v, y = .sl r v 5 0 ((l.take 8).map valOf).length none ∧ H' = H.set r (.row (vsN ((l.take 8).map valOf)) v)) := by
  obtain ⟨vs, hvs⟩ : ∃ vs, vs = (l.take 8).map valOf := ⟨_, rfl⟩
  rw [← hvs]
  have hvl : vs.length = min 8 l.length := by rw [hvs]; simp
  have hvt : ∀ i (h : i < vs.length), vsN (vs.take (i + 1)) = vsN (vs.take i) ++ vN (valOf (l.getD i 0)) := by
    intro i h
    rw [List.take_add_one, List.getElem?_eq_getElem h]
    unfold vsN
    rw [List.flatMap_append]
    congr 1
    have : vs[i] = valOf (l.getD i 0) := by
      simp [hvs, show i < l.length by omega]
    rw [this]; simp
  refine ACall_of tt_ok (dok _) Try.func19 rfl (by decide) rfl ?_
  (repeat' ((conv => whnf); first | refine Then.mk ?_ | left | refine OpsA.cons ?_ | refine OpsA.nil ?_ | refine AWq.seq ?_ | refine AWq.region ?_ | refine AWq.cond ?_ | refine AWq.block ?_ | refine AWq.skip ?_ | refine AWq.ret ?_ | refine AWq.exit ?_ | refine AWq.loop ?_ | refine AWq.rangeFunc ?_ | refine DrawA.consD ?_ | refine DrawA.nil ?_ | refine AWq.draw (by decide +kernel) ?_ | (refine Both.mk ?_ ?_ <;> intro hc <;> (first | exact Bool.noConfusion hc | exact absurd (by with_reducible rfl) hc | exact (hc : False).elim | exact absurd (by assumption) hc | exact absurd hc (by assumption) | (exfalso; omega) | exact absurd hc (by decide) | skip)) | (intro c hc; (try (simp only [AH.none_iff] at hc; repeat (have hn := hc.1; replace hc := hc.2))); (first | (refine i64_k hc ?_ ?_ ?_ ; omega; omega; (clear hc; intro hc; subst hc)) | (refine u64_k hc ?_ ?_ ?_ ; omega; omega; (clear hc; intro hc; subst hc)) | (refine u8_k hc ?_ ?_ ?_ ; omega; omega; (clear hc; intro hc; subst hc)) | subst hc | skip)) | (apply Exists.intro; apply And.intro; (focus (repeat (first | assumption | exact AH.set_same _ _ _ | ((first | refine AH.get_ne ?_ ?_ | refine AH.getd_ne ?_ ?_); (first | assumption | omega | exact Ne.symm (by assumption) | exact AH.ne_none (by assumption) (by assumption) | exact AH.none_ne (by assumption) (by assumption) | exact (AH.none_set (by assumption)).1 | exact Ne.symm (AH.none_set (by assumption)).1)))); done)) | (apply Exists.intro; apply And.intro; (try simp only [List.getElem?_drop, Nat.mul_one, Nat.add_zero, Nat.zero_add]); first | (refine u8s_get ?_; omega) | (refine iS_get ?_; omega) | assumption | rfl | fail) | (apply And.intro; (first | rfl | assumption | exact Nat.le_of_ble_eq_true rfl | omega | (simp <;> fail) | (simp <;> omega) | (focus (repeat' (first | exact one_u8s _ | exact one_iS _ _ | rfl | apply one_take | apply one_drop | apply one_append)); done) | fail)) | fail)) <;> (try (conv => whnf))
  refine AWp_nilrow1 3 5 rfl rfl fun r hr0 => ?_
  refine AWp_loop (σ := Nat × Nat) (3 :: 4 :: 5 :: 6 :: 7 :: 8 :: 9 :: 10 :: 11 :: 12 :: 13 :: 14 :: 15 :: 16 :: 17 :: 18 :: 19 :: 20 :: 21 :: 22 :: 23 :: 24 :: 25 :: 26 :: 27 :: 28 :: 29 :: 30 :: 31 :: 32 :: 33 :: 34 :: 35 :: 36 :: 37 :: 38 :: 39 :: 40 :: 41 :: 42 :: 43 :: 44 :: 45 :: 46 :: 47 :: 48 :: 49 :: 50 :: 51 :: 52 :: 53 :: 54 :: 55 :: 56 :: 57 :: 58 :: 59 :: 60 :: 61 :: 62 :: 63 :: 64 :: 65 :: 66 :: 67 :: 68 :: 69 :: 70 :: 71 :: 72 :: 73 :: 74 :: 75 :: 76 :: 77 :: 78 :: 79 :: 80 :: 81 :: 82 :: 83 :: 84 :: 85 :: 86 :: 87 :: 88 :: 89 :: 90 :: 91 :: 92 :: 93 :: 94 :: 95 :: 96 :: 97 :: 98 :: 99 :: 100 :: 101 :: 102 :: 103 :: 104 :: []) (fun (i, v) => [(4, .int .i64 i), (3, .sl r v 5 0 i none)]) (fun (i, v) => H.set r (.row (vsN (vs.take i)) v)) (fun (i, v) => i ≤ vs.length) (fun (i, v) => vs.length - i) (0, 0) rfl ?_ ?_ ?_ ?_
  · exact Nat.zero_le _
  · exact ⟨rfl, rfl, trivial⟩
  · exact HLe.refl _
  · rintro ⟨i, v⟩ hi
    have hi : i ≤ vs.length := hi
    have hlen := vsN_len (vs.take i)
    rw [List.length_take] at hlen
    refine AWp.of tt_ok (dok _) rfl ?_
    (repeat' ((conv => whnf); first | left | refine OpsA.cons ?_ | refine OpsA.nil ?_ | refine AWq.seq ?_ | refine AWq.region ?_ | refine AWq.cond ?_ | refine AWq.block ?_ | refine AWq.skip ?_ | refine AWq.ret ?_ | refine AWq.exit ?_ | refine AWq.loop ?_ | refine AWq.rangeFunc ?_ | refine DrawA.consD ?_ | refine DrawA.nil ?_ | refine AWq.draw (by decide +kernel) ?_ | (refine Both.mk ?_ ?_ <;> intro hc <;> (first | exact Bool.noConfusion hc | exact absurd (by with_reducible rfl) hc | exact (hc : False).elim | exact absurd (by assumption) hc | exact absurd hc (by assumption) | (exfalso; omega) | exact absurd hc (by decide) | skip)) | (intro c hc; (try (simp only [AH.none_iff] at hc; repeat (have hn := hc.1; replace hc := hc.2))); (first | (refine i64_k hc ?_ ?_ ?_ ; omega; omega; (clear hc; intro hc; subst hc)) | (refine u64_k hc ?_ ?_ ?_ ; omega; omega; (clear hc; intro hc; subst hc)) | (refine u8_k hc ?_ ?_ ?_ ; omega; omega; (clear hc; intro hc; subst hc)) | subst hc | skip)) | (apply Exists.intro; apply And.intro; (focus (repeat (first | assumption | exact AH.set_same _ _ _ | ((first | refine AH.get_ne ?_ ?_ | refine AH.getd_ne ?_ ?_); (first | assumption | omega | exact Ne.symm (by assumption) | exact AH.ne_none (by assumption) (by assumption) | exact AH.none_ne (by assumption) (by assumption) | exact (AH.none_set (by assumption)).1 | exact Ne.symm (AH.none_set (by assumption)).1)))); done)) | (apply Exists.intro; apply And.intro; (try simp only [List.getElem?_drop, Nat.mul_one, Nat.add_zero, Nat.zero_add]); first | (refine u8s_get ?_; omega) | (refine iS_get ?_; omega) | assumption | rfl | fail) | (apply And.intro; (first | rfl | assumption | exact Nat.le_of_ble_eq_true rfl | omega | (simp <;> fail) | (simp <;> omega) | (focus (repeat' (first | exact one_u8s _ | exact one_iS _ _ | rfl | apply one_take | apply one_drop | apply one_append)); done) | fail)) | fail)) <;> (try (conv => whnf))
    · have hil : i < vs.length := by omega
      have hl' : i < l.length := by omega
      have hx : I64 (l.getD i 0) := by
        have : l.getD i 0 = l[i] := by simp [hl']
        rw [this]; exact hr _ (List.getElem_mem hl')
      have hvt := hvt i hil
      obtain ⟨x, hxe⟩ : ∃ x, l.getD (i : Int).toNat 0 = x := ⟨_, rfl⟩
      have hxi : l.getD i 0 = x := hxe
      rw [hxi] at hx hvt
      have hq : -9223372036854775808 ≤ x.tdiv 6 ∧ x.tdiv 6 ≤ 9223372036854775807 := by
        obtain ⟨h1, h2⟩ := hx
        rcases Int.lt_or_le x 0 with h | h
        · have e : x.tdiv 6 = -((-x) / 6) := by
            rw [← Int.tdiv_eq_ediv_of_nonneg (by omega), Int.neg_tdiv, Int.neg_neg]
          omega
        · rw [Int.tdiv_eq_ediv_of_nonneg h]; omega
      obtain ⟨k, hkd⟩ : ∃ k, aro x 6 = k := ⟨_, rfl⟩
      obtain ⟨n, hnd⟩ : ∃ n, aro (x.tdiv 6) 63 = n := ⟨_, rfl⟩
      have hk6 : k < 6 := by rw [← hkd]; exact aro_lt (by omega)
      have hn63 : n < 63 := by rw [← hnd]; exact aro_lt (by omega)
      have a1 : ∀ H, ACall Try.prog 11 [.int .i64 (l.getD (i : Int).toNat 0), .int .i64 (6 : Nat)] H (fun y H' => y = .int .i64 k ∧ H' = H) := fun H => by
        rw [hxe, ← hkd]; exact around_f x hx.1 hx.2 6 (by omega) (by omega) H
      have a2 : ∀ H, ACall Try.prog 11 [.int .i64 (IntKind.i64.wrap ((l.getD (i : Int).toNat 0).tdiv 6)), .int .i64 (63 : Nat)] H (fun y H' => y = .int .i64 n ∧ H' = H) := fun H => by
        rw [hxe, ← hnd, show IntKind.i64.wrap (x.tdiv 6) = x.tdiv 6 by rw [IntKind.wrap_i64]; omega]
        exact around_f (x.tdiv 6) hq.1 hq.2 63 (by omega) (by omega) H
      have hv0 : k = 0 → valOf x = ⟨0, (x % 18446744073709551616).toNat / 2 ^ n, 0, [], []⟩ := fun h => by unfold valOf; rw [hkd, hnd, if_pos h]
      have hv1 : k = 1 → valOf x = ⟨1, 0, x.fdiv (2 ^ n), [], []⟩ := fun h => by unfold valOf; rw [hkd, hnd, if_neg (by omega), if_pos h]
      have hv2 : k = 2 → valOf x = ⟨2, 0, (n % 2 : Nat), [], []⟩ := fun h => by unfold valOf; rw [hkd, hnd, if_neg (by omega), if_neg (by omega), if_pos h]
      have hv3 : k = 3 → valOf x = ⟨3, 0, 0, bytesOf x (n % 10), []⟩ := fun h => by unfold valOf; rw [hkd, hnd, if_neg (by omega), if_neg (by omega), if_neg (by omega), if_pos h]
      have hv4 : k = 4 → valOf x = ⟨4, 0, 0, bytesOf x (n % 10), []⟩ := fun h => by unfold valOf; rw [hkd, hnd, if_neg (by omega), if_neg (by omega), if_neg (by omega), if_neg (by omega), if_pos h]
      have hv5 : k = 5 → valOf x = ⟨5, 0, 0, [], intsOf x (n % 5)⟩ := fun h => by unfold valOf; rw [hkd, hnd, if_neg (by omega), if_neg (by omega), if_neg (by omega), if_neg (by omega), if_neg (by omega)]
      generalize valOf x = w at *
      (repeat' ((conv => whnf); first | refine Then.mk ?_ | left | refine OpsA.cons ?_ | refine OpsA.nil ?_ | refine AWq.seq ?_ | refine AWq.region ?_ | refine AWq.cond ?_ | refine AWq.block ?_ | refine AWq.skip ?_ | refine AWq.ret ?_ | refine AWq.exit ?_ | refine AWq.loop ?_ | refine AWq.rangeFunc ?_ | refine DrawA.consD ?_ | refine DrawA.nil ?_ | refine AWq.draw (by decide +kernel) ?_ | (refine ACall.to (a1 _) ?_) | (refine ACall.to (a2 _) ?_) | (apply Exists.intro; apply And.intro; exact a1 _) | (apply Exists.intro; apply And.intro; exact a2 _) | (apply Exists.intro; apply Exists.intro; apply And.intro; exact a1 _) | (apply Exists.intro; apply Exists.intro; apply And.intro; exact a2 _) | (refine Both.mk ?_ ?_ <;> intro hc <;> (first | exact Bool.noConfusion hc | exact absurd (by with_reducible rfl) hc | exact (hc : False).elim | exact absurd (by assumption) hc | exact absurd hc (by assumption) | (exfalso; omega) | exact absurd hc (by decide) | skip)) | (intro c hc; (try (simp only [AH.none_iff] at hc; repeat (have hn := hc.1; replace hc := hc.2))); (first | (refine i64_k hc ?_ ?_ ?_ ; omega; omega; (clear hc; intro hc; subst hc)) | (refine u64_k hc ?_ ?_ ?_ ; omega; omega; (clear hc; intro hc; subst hc)) | (refine u8_k hc ?_ ?_ ?_ ; omega; omega; (clear hc; intro hc; subst hc)) | subst hc | skip)) | (apply Exists.intro; apply And.intro; (focus (repeat (first | assumption | exact AH.set_same _ _ _ | ((first | refine AH.get_ne ?_ ?_ | refine AH.getd_ne ?_ ?_); (first | assumption | omega | exact Ne.symm (by assumption) | exact AH.ne_none (by assumption) (by assumption) | exact AH.none_ne (by assumption) (by assumption) | exact (AH.none_set (by assumption)).1 | exact Ne.symm (AH.none_set (by assumption)).1)))); done)) | (apply Exists.intro; apply And.intro; (try simp only [List.getElem?_drop, Nat.mul_one, Nat.add_zero, Nat.zero_add]); first | (refine u8s_get ?_; omega) | (refine iS_get ?_; omega) | assumption | rfl | fail) | (apply And.intro; (first | rfl | assumption | exact Nat.le_of_ble_eq_true rfl | omega | (simp <;> fail) | (simp <;> omega) | (focus (repeat' (first | exact one_u8s _ | exact one_iS _ _ | rfl | apply one_take | apply one_drop | apply one_append)); done) | fail)) | fail)) <;> (try (conv => whnf))
      all_goals
        have hcH : H c = none := by assumption
        have hcr : c ≠ r := by assumption
      · obtain rfl : k = 0 := by omega
        rw [hv0 rfl] at hvt
        refine ⟨(i + 1, v + 1), by show i + 1 ≤ vs.length; omega, by show _ - _ < _ - _; omega, ⟨congrArg (AV.int .i64) (by omega), rfl, trivial⟩, ?_⟩
        have e : (((x % 18446744073709551616).toNat / 2 ^ n : Nat) : Int) = (IntKind.u64.wrap (l.getD (i : Int).toNat 0)).fdiv (2 ^ min (n : Int).toNat IntKind.u64.bits) := by
          rw [hxe, wrap_u64', show min (n : Int).toNat IntKind.u64.bits = n by show min (n : Int).toNat 64 = _; omega, Int.fdiv_eq_ediv_of_nonneg _ (Int.le_of_lt (Int.pow_pos (by omega))), Int.natCast_ediv, Int.toNat_of_nonneg (by omega)]
          congr 1
        show HLe (H.set r (.row (vsN (vs.take (i + 1))) (v + 1))) _
        rw [hvt]
        show HLe (H.set r (.row (vsN (vs.take i) ++ [.int .i64 0, .int .u64 (((x % 18446744073709551616).toNat / 2 ^ n : Nat) : Int), .int .i64 0, .nils, .nils]) (v + 1))) _
        rw [e]
        exact HLe.set (HLe.set_of _ _ (HLe.set_of _ _ (HLe.set_of _ _ (HLe.set_of _ _ (HLe.refl _) hr0) hcH) hcH) hcH) _ _
      · obtain rfl : k = 1 := by omega
        rw [hv1 rfl] at hvt
        refine ⟨(i + 1, v + 1), by show i + 1 ≤ vs.length; omega, by show _ - _ < _ - _; omega, ⟨congrArg (AV.int .i64) (by omega), rfl, trivial⟩, ?_⟩
        have e : x.fdiv (2 ^ n) = (l.getD (i : Int).toNat 0).fdiv (2 ^ min (n : Int).toNat IntKind.i64.bits) := by
          rw [hxe, show min (n : Int).toNat IntKind.i64.bits = n by show min (n : Int).toNat 64 = _; omega]
        show HLe (H.set r (.row (vsN (vs.take (i + 1))) (v + 1))) _
        rw [hvt]
        show HLe (H.set r (.row (vsN (vs.take i) ++ [.int .i64 1, .int .u64 0, .int .i64 (x.fdiv (2 ^ n)), .nils, .nils]) (v + 1))) _
        rw [e]
        exact HLe.set (HLe.set_of _ _ (HLe.set_of _ _ (HLe.set_of _ _ (HLe.set_of _ _ (HLe.refl _) hr0) hcH) hcH) hcH) _ _
      · obtain rfl : k = 2 := by omega
        rw [hv2 rfl] at hvt
        refine ⟨(i + 1, v + 1), by show i + 1 ≤ vs.length; omega, by show _ - _ < _ - _; omega, ⟨congrArg (AV.int .i64) (by omega), rfl, trivial⟩, ?_⟩
        have e : ((n % 2 : Nat) : Int) = (n : Int).tmod 2 := by rw [Int.tmod_eq_emod_of_nonneg (by omega)]; omega
        show HLe (H.set r (.row (vsN (vs.take (i + 1))) (v + 1))) _
        rw [hvt]
        show HLe (H.set r (.row (vsN (vs.take i) ++ [.int .i64 2, .int .u64 0, .int .i64 (n % 2 : Nat), .nils, .nils]) (v + 1))) _
        rw [e]
        exact HLe.set (HLe.set_of _ _ (HLe.set_of _ _ (HLe.set_of _ _ (HLe.set_of _ _ (HLe.refl _) hr0) hcH) hcH) hcH) _ _
      · obtain rfl : k = 3 := by omega
        rw [hv3 rfl] at hvt
        refine AWp_nilC 1 [.int .i64 (3 : Nat), .int .u64 0, .int .i64 0] [.nils] (p := c) (u := 0) (by (focus (repeat (first | assumption | exact AH.set_same _ _ _ | ((first | refine AH.get_ne ?_ ?_ | refine AH.getd_ne ?_ ?_); (first | assumption | omega | exact Ne.symm (by assumption) | exact AH.ne_none (by assumption) (by assumption) | exact AH.none_ne (by assumption) (by assumption) | exact (AH.none_set (by assumption)).1 | exact Ne.symm (AH.none_set (by assumption)).1)))); done)) fun r2 hr2 hr2c => ?_
        simp only [AH.none_iff] at hr2
        have h2H : H r2 = none := by simp_all
        have h2r : r2 ≠ r := by simp_all
        have hrc : r ≠ c := Ne.symm hcr
        refine AWp_loop (σ := Nat × Nat) (8 :: 82 :: 83 :: 84 :: 85 :: 86 :: 87 :: 88 :: 89 :: 90 :: 91 :: 92 :: 93 :: 94 :: 95 :: 96 :: 97 :: 98 :: 99 :: 100 :: []) (fun (j, w) => [(8, .int .i64 j)]) (fun (j, w) => ((H.set r (.row (vsN (vs.take i)) v)).set r2 (.row (u8s ((bytesOf x (n % 10)).take j)) w)).set c (.row [.int .i64 (3 : Nat), .int .u64 0, .int .i64 0, .sl r2 w 1 0 j none, .nils] 0)) (fun (j, w) => j ≤ n % 10) (fun (j, w) => n % 10 - j) (0, 0) rfl ?_ ?_ ?_ ?_
        · exact Nat.zero_le _
        · exact ⟨rfl, trivial⟩
        · refine HLe.of_eq ?_
          show (((H.set r (.row (vsN (vs.take i)) v)).set r2 (.row [] 0)).set c _) = _
          ((funext s; simp only [AH.set, AH.del]; repeat' split) <;> (first | rfl | (exfalso; omega)))
        · rintro ⟨j, w⟩ hj
          have hj : j ≤ n % 10 := hj
          have hjl : (bytesOf x (n % 10)).length = n % 10 := bytesOf_len _ _
          refine AWp.of tt_ok (dok _) rfl ?_
          (repeat' ((conv => whnf); first | left | refine OpsA.cons ?_ | refine OpsA.nil ?_ | refine AWq.seq ?_ | refine AWq.region ?_ | refine AWq.cond ?_ | refine AWq.block ?_ | refine AWq.skip ?_ | refine AWq.ret ?_ | refine AWq.exit ?_ | refine AWq.loop ?_ | refine AWq.rangeFunc ?_ | refine DrawA.consD ?_ | refine DrawA.nil ?_ | refine AWq.draw (by decide +kernel) ?_ | (refine Both.mk ?_ ?_ <;> intro hc <;> (first | exact Bool.noConfusion hc | exact absurd (by with_reducible rfl) hc | exact (hc : False).elim | exact absurd (by assumption) hc | exact absurd hc (by assumption) | (exfalso; omega) | exact absurd hc (by decide) | skip)) | (intro c hc; (try (simp only [AH.none_iff] at hc; repeat (have hn := hc.1; replace hc := hc.2))); (first | (refine i64_k hc ?_ ?_ ?_ ; omega; omega; (clear hc; intro hc; subst hc)) | (refine u64_k hc ?_ ?_ ?_ ; omega; omega; (clear hc; intro hc; subst hc)) | (refine u8_k hc ?_ ?_ ?_ ; omega; omega; (clear hc; intro hc; subst hc)) | subst hc | skip)) | (apply Exists.intro; apply And.intro; (focus (repeat (first | assumption | exact AH.set_same _ _ _ | ((first | refine AH.get_ne ?_ ?_ | refine AH.getd_ne ?_ ?_); (first | assumption | omega | exact Ne.symm (by assumption) | exact AH.ne_none (by assumption) (by assumption) | exact AH.none_ne (by assumption) (by assumption) | exact (AH.none_set (by assumption)).1 | exact Ne.symm (AH.none_set (by assumption)).1)))); done)) | (apply Exists.intro; apply And.intro; (try simp only [List.getElem?_drop, Nat.mul_one, Nat.add_zero, Nat.zero_add]); first | (refine u8s_get ?_; omega) | (refine iS_get ?_; omega) | assumption | rfl | fail) | (apply And.intro; (first | rfl | assumption | exact Nat.le_of_ble_eq_true rfl | omega | (simp <;> fail) | (simp <;> omega) | (focus (repeat' (first | exact one_u8s _ | exact one_iS _ _ | rfl | apply one_take | apply one_drop | apply one_append)); done) | fail)) | fail)) <;> (try (conv => whnf))
          · refine Then.mk ?_
            have hjm : j < n % 10 := by
              have : (j : Int) < (n : Int).tmod 10 := by assumption
              rw [Int.tmod_eq_emod_of_nonneg (by omega)] at this
              omega
            have he : IntKind.u8.wrap ((l.getD (i : Int).toNat 0).fdiv (2 ^ min (j : Int).toNat IntKind.i64.bits)) = ((byteOf x j).toNat : Int) := by
              rw [hxe, show min (j : Int).toNat IntKind.i64.bits = j by show min (j : Int).toNat 64 = _; omega]
              unfold byteOf
              generalize x.fdiv (2 ^ j) = y
              rw [u8_ofNat (by omega)]
              show y % 256 = _
              omega
            (repeat' ((conv => whnf); first | refine Then.mk ?_ | left | refine OpsA.cons ?_ | refine OpsA.nil ?_ | refine AWq.seq ?_ | refine AWq.region ?_ | refine AWq.cond ?_ | refine AWq.block ?_ | refine AWq.skip ?_ | refine AWq.ret ?_ | refine AWq.exit ?_ | refine AWq.loop ?_ | refine AWq.rangeFunc ?_ | refine DrawA.consD ?_ | refine DrawA.nil ?_ | refine AWq.draw (by decide +kernel) ?_ | (refine Both.mk ?_ ?_ <;> intro hc <;> (first | exact Bool.noConfusion hc | exact absurd (by with_reducible rfl) hc | exact (hc : False).elim | exact absurd (by assumption) hc | exact absurd hc (by assumption) | (exfalso; omega) | exact absurd hc (by decide) | skip)) | (intro c hc; (try (simp only [AH.none_iff] at hc; repeat (have hn := hc.1; replace hc := hc.2))); (first | (refine i64_k hc ?_ ?_ ?_ ; omega; omega; (clear hc; intro hc; subst hc)) | (refine u64_k hc ?_ ?_ ?_ ; omega; omega; (clear hc; intro hc; subst hc)) | (refine u8_k hc ?_ ?_ ?_ ; omega; omega; (clear hc; intro hc; subst hc)) | subst hc | skip)) | (apply Exists.intro; apply And.intro; (focus (repeat (first | assumption | exact AH.set_same _ _ _ | ((first | refine AH.get_ne ?_ ?_ | refine AH.getd_ne ?_ ?_); (first | assumption | omega | exact Ne.symm (by assumption) | exact AH.ne_none (by assumption) (by assumption) | exact AH.none_ne (by assumption) (by assumption) | exact (AH.none_set (by assumption)).1 | exact Ne.symm (AH.none_set (by assumption)).1)))); done)) | (apply Exists.intro; apply And.intro; (try simp only [List.getElem?_drop, Nat.mul_one, Nat.add_zero, Nat.zero_add]); first | (refine u8s_get ?_; omega) | (refine iS_get ?_; omega) | assumption | rfl | fail) | (apply And.intro; (first | rfl | assumption | exact Nat.le_of_ble_eq_true rfl | omega | (simp <;> fail) | (simp <;> omega) | (focus (repeat' (first | exact one_u8s _ | exact one_iS _ _ | rfl | apply one_take | apply one_drop | apply one_append)); done) | fail)) | fail)) <;> (try (conv => whnf))
            refine ⟨(j + 1, w + 1), by show j + 1 ≤ n % 10; omega, by show n % 10 - (j + 1) < n % 10 - j; omega, ⟨congrArg (AV.int .i64) (by omega), trivial⟩, ?_⟩
            show HLe (((H.set r (.row (vsN (vs.take i)) v)).set r2 (.row (u8s ((bytesOf x (n % 10)).take (j + 1))) (w + 1))).set c (.row [.int .i64 (3 : Nat), .int .u64 0, .int .i64 0, .sl r2 (w + 1) 1 0 (j + 1) none, .nils] 0)) _
            rw [bytesOf_take x hjm, ← u8s_append]
            show HLe (((H.set r (.row (vsN (vs.take i)) v)).set r2 (.row (u8s ((bytesOf x (n % 10)).take j) ++ [.int .u8 ((byteOf x j).toNat : Int)]) (w + 1))).set c (.row [.int .i64 (3 : Nat), .int .u64 0, .int .i64 0, .sl r2 (w + 1) 1 0 (j + 1) none, .nils] 0)) _
            rw [← he]
            refine HLe.of_eq (Eq.symm ?_)
            refine (congrArg (fun X : AH => X.set c _) (AH.set_back _ hr2c _ _ _)).trans ?_
            exact AH.set_set _ _ _ _
          · refine Then.mk ?_
            (repeat' ((conv => whnf); first | left | refine OpsA.cons ?_ | refine OpsA.nil ?_ | refine AWq.seq ?_ | refine AWq.region ?_ | refine AWq.cond ?_ | refine AWq.block ?_ | refine AWq.skip ?_ | refine AWq.ret ?_ | refine AWq.exit ?_ | refine AWq.loop ?_ | refine AWq.rangeFunc ?_ | refine DrawA.consD ?_ | refine DrawA.nil ?_ | refine AWq.draw (by decide +kernel) ?_ | (refine Both.mk ?_ ?_ <;> intro hc <;> (first | exact Bool.noConfusion hc | exact absurd (by with_reducible rfl) hc | exact (hc : False).elim | exact absurd (by assumption) hc | exact absurd hc (by assumption) | (exfalso; omega) | exact absurd hc (by decide) | skip)) | (intro c hc; (try (simp only [AH.none_iff] at hc; repeat (have hn := hc.1; replace hc := hc.2))); (first | (refine i64_k hc ?_ ?_ ?_ ; omega; omega; (clear hc; intro hc; subst hc)) | (refine u64_k hc ?_ ?_ ?_ ; omega; omega; (clear hc; intro hc; subst hc)) | (refine u8_k hc ?_ ?_ ?_ ; omega; omega; (clear hc; intro hc; subst hc)) | subst hc | skip)) | (apply Exists.intro; apply And.intro; (focus (repeat (first | assumption | exact AH.set_same _ _ _ | ((first | refine AH.get_ne ?_ ?_ | refine AH.getd_ne ?_ ?_); (first | assumption | omega | exact Ne.symm (by assumption) | exact AH.ne_none (by assumption) (by assumption) | exact AH.none_ne (by assumption) (by assumption) | exact (AH.none_set (by assumption)).1 | exact Ne.symm (AH.none_set (by assumption)).1)))); done)) | (apply Exists.intro; apply And.intro; (try simp only [List.getElem?_drop, Nat.mul_one, Nat.add_zero, Nat.zero_add]); first | (refine u8s_get ?_; omega) | (refine iS_get ?_; omega) | assumption | rfl | fail) | (apply And.intro; (first | rfl | assumption | exact Nat.le_of_ble_eq_true rfl | omega | (simp <;> fail) | (simp <;> omega) | (focus (repeat' (first | exact one_u8s _ | exact one_iS _ _ | rfl | apply one_take | apply one_drop | apply one_append)); done) | fail)) | fail)) <;> (try (conv => whnf))
            refine Then.mk (AWq.in ?_)
            have hjn : j = n % 10 := by
              have : ¬ (j : Int) < (n : Int).tmod 10 := by assumption
              rw [Int.tmod_eq_emod_of_nonneg (by omega)] at this
              omega
            subst hjn
            refine AWp_freezeC (p := c) (u := 0) (r := r2) (v := w) (es := 1) (n := n % 10) (lim := none) (cells := u8s ((bytesOf x (n % 10)).take (n % 10))) [.int .i64 (3 : Nat), .int .u64 0, .int .i64 0] [.nils] (Ne.symm hr2c) (by (focus (repeat (first | assumption | exact AH.set_same _ _ _ | ((first | refine AH.get_ne ?_ ?_ | refine AH.getd_ne ?_ ?_); (first | assumption | omega | exact Ne.symm (by assumption) | exact AH.ne_none (by assumption) (by assumption) | exact AH.none_ne (by assumption) (by assumption) | exact (AH.none_set (by assumption)).1 | exact Ne.symm (AH.none_set (by assumption)).1)))); done)) (by (focus (repeat (first | assumption | exact AH.set_same _ _ _ | ((first | refine AH.get_ne ?_ ?_ | refine AH.getd_ne ?_ ?_); (first | assumption | omega | exact Ne.symm (by assumption) | exact AH.ne_none (by assumption) (by assumption) | exact AH.none_ne (by assumption) (by assumption) | exact (AH.none_set (by assumption)).1 | exact Ne.symm (AH.none_set (by assumption)).1)))); done)) (by simp [hjl]) ?_
            refine AWp.of tt_ok (dok _) rfl ?_
            (repeat' ((conv => whnf); first | refine Then.mk ?_ | left | refine OpsA.cons ?_ | refine OpsA.nil ?_ | refine AWq.seq ?_ | refine AWq.region ?_ | refine AWq.cond ?_ | refine AWq.block ?_ | refine AWq.skip ?_ | refine AWq.ret ?_ | refine AWq.exit ?_ | refine AWq.loop ?_ | refine AWq.rangeFunc ?_ | refine DrawA.consD ?_ | refine DrawA.nil ?_ | refine AWq.draw (by decide +kernel) ?_ | (refine Both.mk ?_ ?_ <;> intro hc <;> (first | exact Bool.noConfusion hc | exact absurd (by with_reducible rfl) hc | exact (hc : False).elim | exact absurd (by assumption) hc | exact absurd hc (by assumption) | (exfalso; omega) | exact absurd hc (by decide) | skip)) | (intro c hc; (try (simp only [AH.none_iff] at hc; repeat (have hn := hc.1; replace hc := hc.2))); (first | (refine i64_k hc ?_ ?_ ?_ ; omega; omega; (clear hc; intro hc; subst hc)) | (refine u64_k hc ?_ ?_ ?_ ; omega; omega; (clear hc; intro hc; subst hc)) | (refine u8_k hc ?_ ?_ ?_ ; omega; omega; (clear hc; intro hc; subst hc)) | subst hc | skip)) | (apply Exists.intro; apply And.intro; (focus (repeat (first | assumption | exact AH.set_same _ _ _ | ((first | refine AH.get_ne ?_ ?_ | refine AH.getd_ne ?_ ?_); (first | assumption | omega | exact Ne.symm (by assumption) | exact AH.ne_none (by assumption) (by assumption) | exact AH.none_ne (by assumption) (by assumption) | exact (AH.none_set (by assumption)).1 | exact Ne.symm (AH.none_set (by assumption)).1)))); done)) | (apply Exists.intro; apply And.intro; (try simp only [List.getElem?_drop, Nat.mul_one, Nat.add_zero, Nat.zero_add]); first | (refine u8s_get ?_; omega) | (refine iS_get ?_; omega) | assumption | rfl | fail) | (apply And.intro; (first | rfl | assumption | exact Nat.le_of_ble_eq_true rfl | omega | (simp <;> fail) | (simp <;> omega) | (focus (repeat' (first | exact one_u8s _ | exact one_iS _ _ | rfl | apply one_take | apply one_drop | apply one_append)); done) | fail)) | fail)) <;> (try (conv => whnf))
            refine ⟨(i + 1, v + 1), by show i + 1 ≤ vs.length; omega, by show _ - _ < _ - _; omega, ⟨congrArg (AV.int .i64) (by omega), rfl, trivial⟩, ?_⟩
            show HLe (H.set r (.row (vsN (vs.take (i + 1))) (v + 1))) _
            rw [hvt]
            have hN : vN ⟨3, 0, 0, bytesOf x (n % 10), []⟩ = [.int .i64 (3 : Nat), .int .u64 0, .int .i64 0, .cs (u8s ((bytesOf x (n % 10)).take (n % 10))) (n % 10), .nils] := by
              rw [List.take_of_length_le (by omega)]
              show ([.int .i64 (3 : Nat), .int .u64 0, .int .i64 0, .cs (u8s (bytesOf x (n % 10))) (bytesOf x (n % 10)).length, .nils] : List AV) = _
              rw [hjl]
            rw [hN]
            exact HLe.set (HLe.set_of _ _ (HLe.del _ (HLe.set_of _ _ (HLe.set_of _ _ (HLe.set_of _ _ (HLe.refl _) hr0) h2H) hcH) h2H) hcH) _ _
      · obtain rfl : k = 4 := by omega
        rw [hv4 rfl] at hvt
        refine AWp_nilC 1 [.int .i64 (4 : Nat), .int .u64 0, .int .i64 0] [.nils] (p := c) (u := 0) (by (focus (repeat (first | assumption | exact AH.set_same _ _ _ | ((first | refine AH.get_ne ?_ ?_ | refine AH.getd_ne ?_ ?_); (first | assumption | omega | exact Ne.symm (by assumption) | exact AH.ne_none (by assumption) (by assumption) | exact AH.none_ne (by assumption) (by assumption) | exact (AH.none_set (by assumption)).1 | exact Ne.symm (AH.none_set (by assumption)).1)))); done)) fun r2 hr2 hr2c => ?_
        simp only [AH.none_iff] at hr2
        have h2H : H r2 = none := by simp_all
        have h2r : r2 ≠ r := by simp_all
        have hrc : r ≠ c := Ne.symm hcr
        refine AWp_loop (σ := Nat × Nat) (8 :: 82 :: 83 :: 84 :: 85 :: 86 :: 87 :: 88 :: 89 :: 90 :: 91 :: 92 :: 93 :: 94 :: 95 :: 96 :: 97 :: 98 :: 99 :: 100 :: []) (fun (j, w) => [(8, .int .i64 j)]) (fun (j, w) => ((H.set r (.row (vsN (vs.take i)) v)).set r2 (.row (u8s ((bytesOf x (n % 10)).take j)) w)).set c (.row [.int .i64 (4 : Nat), .int .u64 0, .int .i64 0, .sl r2 w 1 0 j none, .nils] 0)) (fun (j, w) => j ≤ n % 10) (fun (j, w) => n % 10 - j) (0, 0) rfl ?_ ?_ ?_ ?_
        · exact Nat.zero_le _
        · exact ⟨rfl, trivial⟩
        · refine HLe.of_eq ?_
          show (((H.set r (.row (vsN (vs.take i)) v)).set r2 (.row [] 0)).set c _) = _
          ((funext s; simp only [AH.set, AH.del]; repeat' split) <;> (first | rfl | (exfalso; omega)))
        · rintro ⟨j, w⟩ hj
          have hj : j ≤ n % 10 := hj
          have hjl : (bytesOf x (n % 10)).length = n % 10 := bytesOf_len _ _
          refine AWp.of tt_ok (dok _) rfl ?_
          (repeat' ((conv => whnf); first | left | refine OpsA.cons ?_ | refine OpsA.nil ?_ | refine AWq.seq ?_ | refine AWq.region ?_ | refine AWq.cond ?_ | refine AWq.block ?_ | refine AWq.skip ?_ | refine AWq.ret ?_ | refine AWq.exit ?_ | refine AWq.loop ?_ | refine AWq.rangeFunc ?_ | refine DrawA.consD ?_ | refine DrawA.nil ?_ | refine AWq.draw (by decide +kernel) ?_ | (refine Both.mk ?_ ?_ <;> intro hc <;> (first | exact Bool.noConfusion hc | exact absurd (by with_reducible rfl) hc | exact (hc : False).elim | exact absurd (by assumption) hc | exact absurd hc (by assumption) | (exfalso; omega) | exact absurd hc (by decide) | skip)) | (intro c hc; (try (simp only [AH.none_iff] at hc; repeat (have hn := hc.1; replace hc := hc.2))); (first | (refine i64_k hc ?_ ?_ ?_ ; omega; omega; (clear hc; intro hc; subst hc)) | (refine u64_k hc ?_ ?_ ?_ ; omega; omega; (clear hc; intro hc; subst hc)) | (refine u8_k hc ?_ ?_ ?_ ; omega; omega; (clear hc; intro hc; subst hc)) | subst hc | skip)) | (apply Exists.intro; apply And.intro; (focus (repeat (first | assumption | exact AH.set_same _ _ _ | ((first | refine AH.get_ne ?_ ?_ | refine AH.getd_ne ?_ ?_); (first | assumption | omega | exact Ne.symm (by assumption) | exact AH.ne_none (by assumption) (by assumption) | exact AH.none_ne (by assumption) (by assumption) | exact (AH.none_set (by assumption)).1 | exact Ne.symm (AH.none_set (by assumption)).1)))); done)) | (apply Exists.intro; apply And.intro; (try simp only [List.getElem?_drop, Nat.mul_one, Nat.add_zero, Nat.zero_add]); first | (refine u8s_get ?_; omega) | (refine iS_get ?_; omega) | assumption | rfl | fail) | (apply And.intro; (first | rfl | assumption | exact Nat.le_of_ble_eq_true rfl | omega | (simp <;> fail) | (simp <;> omega) | (focus (repeat' (first | exact one_u8s _ | exact one_iS _ _ | rfl | apply one_take | apply one_drop | apply one_append)); done) | fail)) | fail)) <;> (try (conv => whnf))
          · refine Then.mk ?_
            have hjm : j < n % 10 := by
              have : (j : Int) < (n : Int).tmod 10 := by assumption
              rw [Int.tmod_eq_emod_of_nonneg (by omega)] at this
              omega
            have he : IntKind.u8.wrap ((l.getD (i : Int).toNat 0).fdiv (2 ^ min (j : Int).toNat IntKind.i64.bits)) = ((byteOf x j).toNat : Int) := by
              rw [hxe, show min (j : Int).toNat IntKind.i64.bits = j by show min (j : Int).toNat 64 = _; omega]
              unfold byteOf
              generalize x.fdiv (2 ^ j) = y
              rw [u8_ofNat (by omega)]
              show y % 256 = _
              omega
            (repeat' ((conv => whnf); first | refine Then.mk ?_ | left | refine OpsA.cons ?_ | refine OpsA.nil ?_ | refine AWq.seq ?_ | refine AWq.region ?_ | refine AWq.cond ?_ | refine AWq.block ?_ | refine AWq.skip ?_ | refine AWq.ret ?_ | refine AWq.exit ?_ | refine AWq.loop ?_ | refine AWq.rangeFunc ?_ | refine DrawA.consD ?_ | refine DrawA.nil ?_ | refine AWq.draw (by decide +kernel) ?_ | (refine Both.mk ?_ ?_ <;> intro hc <;> (first | exact Bool.noConfusion hc | exact absurd (by with_reducible rfl) hc | exact (hc : False).elim | exact absurd (by assumption) hc | exact absurd hc (by assumption) | (exfalso; omega) | exact absurd hc (by decide) | skip)) | (intro c hc; (try (simp only [AH.none_iff] at hc; repeat (have hn := hc.1; replace hc := hc.2))); (first | (refine i64_k hc ?_ ?_ ?_ ; omega; omega; (clear hc; intro hc; subst hc)) | (refine u64_k hc ?_ ?_ ?_ ; omega; omega; (clear hc; intro hc; subst hc)) | (refine u8_k hc ?_ ?_ ?_ ; omega; omega; (clear hc; intro hc; subst hc)) | subst hc | skip)) | (apply Exists.intro; apply And.intro; (focus (repeat (first | assumption | exact AH.set_same _ _ _ | ((first | refine AH.get_ne ?_ ?_ | refine AH.getd_ne ?_ ?_); (first | assumption | omega | exact Ne.symm (by assumption) | exact AH.ne_none (by assumption) (by assumption) | exact AH.none_ne (by assumption) (by assumption) | exact (AH.none_set (by assumption)).1 | exact Ne.symm (AH.none_set (by assumption)).1)))); done)) | (apply Exists.intro; apply And.intro; (try simp only [List.getElem?_drop, Nat.mul_one, Nat.add_zero, Nat.zero_add]); first | (refine u8s_get ?_; omega) | (refine iS_get ?_; omega) | assumption | rfl | fail) | (apply And.intro; (first | rfl | assumption | exact Nat.le_of_ble_eq_true rfl | omega | (simp <;> fail) | (simp <;> omega) | (focus (repeat' (first | exact one_u8s _ | exact one_iS _ _ | rfl | apply one_take | apply one_drop | apply one_append)); done) | fail)) | fail)) <;> (try (conv => whnf))
            refine ⟨(j + 1, w + 1), by show j + 1 ≤ n % 10; omega, by show n % 10 - (j + 1) < n % 10 - j; omega, ⟨congrArg (AV.int .i64) (by omega), trivial⟩, ?_⟩
            show HLe (((H.set r (.row (vsN (vs.take i)) v)).set r2 (.row (u8s ((bytesOf x (n % 10)).take (j + 1))) (w + 1))).set c (.row [.int .i64 (4 : Nat), .int .u64 0, .int .i64 0, .sl r2 (w + 1) 1 0 (j + 1) none, .nils] 0)) _
            rw [bytesOf_take x hjm, ← u8s_append]
            show HLe (((H.set r (.row (vsN (vs.take i)) v)).set r2 (.row (u8s ((bytesOf x (n % 10)).take j) ++ [.int .u8 ((byteOf x j).toNat : Int)]) (w + 1))).set c (.row [.int .i64 (4 : Nat), .int .u64 0, .int .i64 0, .sl r2 (w + 1) 1 0 (j + 1) none, .nils] 0)) _
            rw [← he]
            refine HLe.of_eq (Eq.symm ?_)
            refine (congrArg (fun X : AH => X.set c _) (AH.set_back _ hr2c _ _ _)).trans ?_
            exact AH.set_set _ _ _ _
          · refine Then.mk ?_
            (repeat' ((conv => whnf); first | left | refine OpsA.cons ?_ | refine OpsA.nil ?_ | refine AWq.seq ?_ | refine AWq.region ?_ | refine AWq.cond ?_ | refine AWq.block ?_ | refine AWq.skip ?_ | refine AWq.ret ?_ | refine AWq.exit ?_ | refine AWq.loop ?_ | refine AWq.rangeFunc ?_ | refine DrawA.consD ?_ | refine DrawA.nil ?_ | refine AWq.draw (by decide +kernel) ?_ | (refine Both.mk ?_ ?_ <;> intro hc <;> (first | exact Bool.noConfusion hc | exact absurd (by with_reducible rfl) hc | exact (hc : False).elim | exact absurd (by assumption) hc | exact absurd hc (by assumption) | (exfalso; omega) | exact absurd hc (by decide) | skip)) | (intro c hc; (try (simp only [AH.none_iff] at hc; repeat (have hn := hc.1; replace hc := hc.2))); (first | (refine i64_k hc ?_ ?_ ?_ ; omega; omega; (clear hc; intro hc; subst hc)) | (refine u64_k hc ?_ ?_ ?_ ; omega; omega; (clear hc; intro hc; subst hc)) | (refine u8_k hc ?_ ?_ ?_ ; omega; omega; (clear hc; intro hc; subst hc)) | subst hc | skip)) | (apply Exists.intro; apply And.intro; (focus (repeat (first | assumption | exact AH.set_same _ _ _ | ((first | refine AH.get_ne ?_ ?_ | refine AH.getd_ne ?_ ?_); (first | assumption | omega | exact Ne.symm (by assumption) | exact AH.ne_none (by assumption) (by assumption) | exact AH.none_ne (by assumption) (by assumption) | exact (AH.none_set (by assumption)).1 | exact Ne.symm (AH.none_set (by assumption)).1)))); done)) | (apply Exists.intro; apply And.intro; (try simp only [List.getElem?_drop, Nat.mul_one, Nat.add_zero, Nat.zero_add]); first | (refine u8s_get ?_; omega) | (refine iS_get ?_; omega) | assumption | rfl | fail) | (apply And.intro; (first | rfl | assumption | exact Nat.le_of_ble_eq_true rfl | omega | (simp <;> fail) | (simp <;> omega) | (focus (repeat' (first | exact one_u8s _ | exact one_iS _ _ | rfl | apply one_take | apply one_drop | apply one_append)); done) | fail)) | fail)) <;> (try (conv => whnf))
            refine Then.mk (AWq.in ?_)
            have hjn : j = n % 10 := by
              have : ¬ (j : Int) < (n : Int).tmod 10 := by assumption
              rw [Int.tmod_eq_emod_of_nonneg (by omega)] at this
              omega
            subst hjn
            refine AWp_freezeC (p := c) (u := 0) (r := r2) (v := w) (es := 1) (n := n % 10) (lim := none) (cells := u8s ((bytesOf x (n % 10)).take (n % 10))) [.int .i64 (4 : Nat), .int .u64 0, .int .i64 0] [.nils] (Ne.symm hr2c) (by (focus (repeat (first | assumption | exact AH.set_same _ _ _ | ((first | refine AH.get_ne ?_ ?_ | refine AH.getd_ne ?_ ?_); (first | assumption | omega | exact Ne.symm (by assumption) | exact AH.ne_none (by assumption) (by assumption) | exact AH.none_ne (by assumption) (by assumption) | exact (AH.none_set (by assumption)).1 | exact Ne.symm (AH.none_set (by assumption)).1)))); done)) (by (focus (repeat (first | assumption | exact AH.set_same _ _ _ | ((first | refine AH.get_ne ?_ ?_ | refine AH.getd_ne ?_ ?_); (first | assumption | omega | exact Ne.symm (by assumption) | exact AH.ne_none (by assumption) (by assumption) | exact AH.none_ne (by assumption) (by assumption) | exact (AH.none_set (by assumption)).1 | exact Ne.symm (AH.none_set (by assumption)).1)))); done)) (by simp [hjl]) ?_
            refine AWp.of tt_ok (dok _) rfl ?_
            (repeat' ((conv => whnf); first | refine Then.mk ?_ | left | refine OpsA.cons ?_ | refine OpsA.nil ?_ | refine AWq.seq ?_ | refine AWq.region ?_ | refine AWq.cond ?_ | refine AWq.block ?_ | refine AWq.skip ?_ | refine AWq.ret ?_ | refine AWq.exit ?_ | refine AWq.loop ?_ | refine AWq.rangeFunc ?_ | refine DrawA.consD ?_ | refine DrawA.nil ?_ | refine AWq.draw (by decide +kernel) ?_ | (refine Both.mk ?_ ?_ <;> intro hc <;> (first | exact Bool.noConfusion hc | exact absurd (by with_reducible rfl) hc | exact (hc : False).elim | exact absurd (by assumption) hc | exact absurd hc (by assumption) | (exfalso; omega) | exact absurd hc (by decide) | skip)) | (intro c hc; (try (simp only [AH.none_iff] at hc; repeat (have hn := hc.1; replace hc := hc.2))); (first | (refine i64_k hc ?_ ?_ ?_ ; omega; omega; (clear hc; intro hc; subst hc)) | (refine u64_k hc ?_ ?_ ?_ ; omega; omega; (clear hc; intro hc; subst hc)) | (refine u8_k hc ?_ ?_ ?_ ; omega; omega; (clear hc; intro hc; subst hc)) | subst hc | skip)) | (apply Exists.intro; apply And.intro; (focus (repeat (first | assumption | exact AH.set_same _ _ _ | ((first | refine AH.get_ne ?_ ?_ | refine AH.getd_ne ?_ ?_); (first | assumption | omega | exact Ne.symm (by assumption) | exact AH.ne_none (by assumption) (by assumption) | exact AH.none_ne (by assumption) (by assumption) | exact (AH.none_set (by assumption)).1 | exact Ne.symm (AH.none_set (by assumption)).1)))); done)) | (apply Exists.intro; apply And.intro; (try simp only [List.getElem?_drop, Nat.mul_one, Nat.add_zero, Nat.zero_add]); first | (refine u8s_get ?_; omega) | (refine iS_get ?_; omega) | assumption | rfl | fail) | (apply And.intro; (first | rfl | assumption | exact Nat.le_of_ble_eq_true rfl | omega | (simp <;> fail) | (simp <;> omega) | (focus (repeat' (first | exact one_u8s _ | exact one_iS _ _ | rfl | apply one_take | apply one_drop | apply one_append)); done) | fail)) | fail)) <;> (try (conv => whnf))
            refine ⟨(i + 1, v + 1), by show i + 1 ≤ vs.length; omega, by show _ - _ < _ - _; omega, ⟨congrArg (AV.int .i64) (by omega), rfl, trivial⟩, ?_⟩
            show HLe (H.set r (.row (vsN (vs.take (i + 1))) (v + 1))) _
            rw [hvt]
            have hN : vN ⟨4, 0, 0, bytesOf x (n % 10), []⟩ = [.int .i64 (4 : Nat), .int .u64 0, .int .i64 0, .cs (u8s ((bytesOf x (n % 10)).take (n % 10))) (n % 10), .nils] := by
              rw [List.take_of_length_le (by omega)]
              show ([.int .i64 (4 : Nat), .int .u64 0, .int .i64 0, .cs (u8s (bytesOf x (n % 10))) (bytesOf x (n % 10)).length, .nils] : List AV) = _
              rw [hjl]
            rw [hN]
            exact HLe.set (HLe.set_of _ _ (HLe.del _ (HLe.set_of _ _ (HLe.set_of _ _ (HLe.set_of _ _ (HLe.refl _) hr0) h2H) hcH) h2H) hcH) _ _
      · obtain rfl : k = 5 := by omega
        rw [hv5 rfl] at hvt
        refine AWp_nilC 1 [.int .i64 (5 : Nat), .int .u64 0, .int .i64 0, .nils] [] (p := c) (u := 0) (by (focus (repeat (first | assumption | exact AH.set_same _ _ _ | ((first | refine AH.get_ne ?_ ?_ | refine AH.getd_ne ?_ ?_); (first | assumption | omega | exact Ne.symm (by assumption) | exact AH.ne_none (by assumption) (by assumption) | exact AH.none_ne (by assumption) (by assumption) | exact (AH.none_set (by assumption)).1 | exact Ne.symm (AH.none_set (by assumption)).1)))); done)) fun r2 hr2 hr2c => ?_
        simp only [AH.none_iff] at hr2
        have h2H : H r2 = none := by simp_all
        have h2r : r2 ≠ r := by simp_all
        have hrc : r ≠ c := Ne.symm hcr
        refine AWp_loop (σ := Nat × Nat) (9 :: 34 :: 35 :: 36 :: 37 :: 38 :: 39 :: 40 :: 41 :: 42 :: 43 :: 44 :: 45 :: 46 :: 47 :: 48 :: 49 :: 50 :: 51 :: 52 :: []) (fun (j, w) => [(9, .int .i64 j)]) (fun (j, w) => ((H.set r (.row (vsN (vs.take i)) v)).set r2 (.row (iS .i64 ((intsOf x (n % 5)).take j)) w)).set c (.row [.int .i64 (5 : Nat), .int .u64 0, .int .i64 0, .nils, .sl r2 w 1 0 j none] 0)) (fun (j, w) => j ≤ n % 5) (fun (j, w) => n % 5 - j) (0, 0) rfl ?_ ?_ ?_ ?_
        · exact Nat.zero_le _
        · exact ⟨rfl, trivial⟩
        · refine HLe.of_eq ?_
          show (((H.set r (.row (vsN (vs.take i)) v)).set r2 (.row [] 0)).set c _) = _
          ((funext s; simp only [AH.set, AH.del]; repeat' split) <;> (first | rfl | (exfalso; omega)))
        · rintro ⟨j, w⟩ hj
          have hj : j ≤ n % 5 := hj
          have hjl : (intsOf x (n % 5)).length = n % 5 := intsOf_len _ _
          refine AWp.of tt_ok (dok _) rfl ?_
          (repeat' ((conv => whnf); first | left | refine OpsA.cons ?_ | refine OpsA.nil ?_ | refine AWq.seq ?_ | refine AWq.region ?_ | refine AWq.cond ?_ | refine AWq.block ?_ | refine AWq.skip ?_ | refine AWq.ret ?_ | refine AWq.exit ?_ | refine AWq.loop ?_ | refine AWq.rangeFunc ?_ | refine DrawA.consD ?_ | refine DrawA.nil ?_ | refine AWq.draw (by decide +kernel) ?_ | (refine Both.mk ?_ ?_ <;> intro hc <;> (first | exact Bool.noConfusion hc | exact absurd (by with_reducible rfl) hc | exact (hc : False).elim | exact absurd (by assumption) hc | exact absurd hc (by assumption) | (exfalso; omega) | exact absurd hc (by decide) | skip)) | (intro c hc; (try (simp only [AH.none_iff] at hc; repeat (have hn := hc.1; replace hc := hc.2))); (first | (refine i64_k hc ?_ ?_ ?_ ; omega; omega; (clear hc; intro hc; subst hc)) | (refine u64_k hc ?_ ?_ ?_ ; omega; omega; (clear hc; intro hc; subst hc)) | (refine u8_k hc ?_ ?_ ?_ ; omega; omega; (clear hc; intro hc; subst hc)) | subst hc | skip)) | (apply Exists.intro; apply And.intro; (focus (repeat (first | assumption | exact AH.set_same _ _ _ | ((first | refine AH.get_ne ?_ ?_ | refine AH.getd_ne ?_ ?_); (first | assumption | omega | exact Ne.symm (by assumption) | exact AH.ne_none (by assumption) (by assumption) | exact AH.none_ne (by assumption) (by assumption) | exact (AH.none_set (by assumption)).1 | exact Ne.symm (AH.none_set (by assumption)).1)))); done)) | (apply Exists.intro; apply And.intro; (try simp only [List.getElem?_drop, Nat.mul_one, Nat.add_zero, Nat.zero_add]); first | (refine u8s_get ?_; omega) | (refine iS_get ?_; omega) | assumption | rfl | fail) | (apply And.intro; (first | rfl | assumption | exact Nat.le_of_ble_eq_true rfl | omega | (simp <;> fail) | (simp <;> omega) | (focus (repeat' (first | exact one_u8s _ | exact one_iS _ _ | rfl | apply one_take | apply one_drop | apply one_append)); done) | fail)) | fail)) <;> (try (conv => whnf))
          · refine Then.mk ?_
            have hjm : j < n % 5 := by
              have : (j : Int) < (n : Int).tmod 5 := by assumption
              rw [Int.tmod_eq_emod_of_nonneg (by omega)] at this
              omega
            have he : (l.getD (i : Int).toNat 0).fdiv (2 ^ min (13 * (j : Int)).toNat IntKind.i64.bits) = x.fdiv (2 ^ (13 * j)) := by
              rw [hxe, show min (13 * (j : Int)).toNat IntKind.i64.bits = 13 * j by show min (13 * (j : Int)).toNat 64 = _; omega]
            (repeat' ((conv => whnf); first | refine Then.mk ?_ | left | refine OpsA.cons ?_ | refine OpsA.nil ?_ | refine AWq.seq ?_ | refine AWq.region ?_ | refine AWq.cond ?_ | refine AWq.block ?_ | refine AWq.skip ?_ | refine AWq.ret ?_ | refine AWq.exit ?_ | refine AWq.loop ?_ | refine AWq.rangeFunc ?_ | refine DrawA.consD ?_ | refine DrawA.nil ?_ | refine AWq.draw (by decide +kernel) ?_ | (refine Both.mk ?_ ?_ <;> intro hc <;> (first | exact Bool.noConfusion hc | exact absurd (by with_reducible rfl) hc | exact (hc : False).elim | exact absurd (by assumption) hc | exact absurd hc (by assumption) | (exfalso; omega) | exact absurd hc (by decide) | skip)) | (intro c hc; (try (simp only [AH.none_iff] at hc; repeat (have hn := hc.1; replace hc := hc.2))); (first | (refine i64_k hc ?_ ?_ ?_ ; omega; omega; (clear hc; intro hc; subst hc)) | (refine u64_k hc ?_ ?_ ?_ ; omega; omega; (clear hc; intro hc; subst hc)) | (refine u8_k hc ?_ ?_ ?_ ; omega; omega; (clear hc; intro hc; subst hc)) | subst hc | skip)) | (apply Exists.intro; apply And.intro; (focus (repeat (first | assumption | exact AH.set_same _ _ _ | ((first | refine AH.get_ne ?_ ?_ | refine AH.getd_ne ?_ ?_); (first | assumption | omega | exact Ne.symm (by assumption) | exact AH.ne_none (by assumption) (by assumption) | exact AH.none_ne (by assumption) (by assumption) | exact (AH.none_set (by assumption)).1 | exact Ne.symm (AH.none_set (by assumption)).1)))); done)) | (apply Exists.intro; apply And.intro; (try simp only [List.getElem?_drop, Nat.mul_one, Nat.add_zero, Nat.zero_add]); first | (refine u8s_get ?_; omega) | (refine iS_get ?_; omega) | assumption | rfl | fail) | (apply And.intro; (first | rfl | assumption | exact Nat.le_of_ble_eq_true rfl | omega | (simp <;> fail) | (simp <;> omega) | (focus (repeat' (first | exact one_u8s _ | exact one_iS _ _ | rfl | apply one_take | apply one_drop | apply one_append)); done) | fail)) | fail)) <;> (try (conv => whnf))
            refine ⟨(j + 1, w + 1), by show j + 1 ≤ n % 5; omega, by show n % 5 - (j + 1) < n % 5 - j; omega, ⟨congrArg (AV.int .i64) (by omega), trivial⟩, ?_⟩
            show HLe (((H.set r (.row (vsN (vs.take i)) v)).set r2 (.row (iS .i64 ((intsOf x (n % 5)).take (j + 1))) (w + 1))).set c (.row [.int .i64 (5 : Nat), .int .u64 0, .int .i64 0, .nils, .sl r2 (w + 1) 1 0 (j + 1) none] 0)) _
            rw [intsOf_take x hjm, ← iS_append]
            show HLe (((H.set r (.row (vsN (vs.take i)) v)).set r2 (.row (iS .i64 ((intsOf x (n % 5)).take j) ++ [.int .i64 (x.fdiv (2 ^ (13 * j)))]) (w + 1))).set c (.row [.int .i64 (5 : Nat), .int .u64 0, .int .i64 0, .nils, .sl r2 (w + 1) 1 0 (j + 1) none] 0)) _
            rw [← he]
            refine HLe.of_eq (Eq.symm ?_)
            refine (congrArg (fun X : AH => X.set c _) (AH.set_back _ hr2c _ _ _)).trans ?_
            exact AH.set_set _ _ _ _
          · refine Then.mk ?_
            (repeat' ((conv => whnf); first | left | refine OpsA.cons ?_ | refine OpsA.nil ?_ | refine AWq.seq ?_ | refine AWq.region ?_ | refine AWq.cond ?_ | refine AWq.block ?_ | refine AWq.skip ?_ | refine AWq.ret ?_ | refine AWq.exit ?_ | refine AWq.loop ?_ | refine AWq.rangeFunc ?_ | refine DrawA.consD ?_ | refine DrawA.nil ?_ | refine AWq.draw (by decide +kernel) ?_ | (refine Both.mk ?_ ?_ <;> intro hc <;> (first | exact Bool.noConfusion hc | exact absurd (by with_reducible rfl) hc | exact (hc : False).elim | exact absurd (by assumption) hc | exact absurd hc (by assumption) | (exfalso; omega) | exact absurd hc (by decide) | skip)) | (intro c hc; (try (simp only [AH.none_iff] at hc; repeat (have hn := hc.1; replace hc := hc.2))); (first | (refine i64_k hc ?_ ?_ ?_ ; omega; omega; (clear hc; intro hc; subst hc)) | (refine u64_k hc ?_ ?_ ?_ ; omega; omega; (clear hc; intro hc; subst hc)) | (refine u8_k hc ?_ ?_ ?_ ; omega; omega; (clear hc; intro hc; subst hc)) | subst hc | skip)) | (apply Exists.intro; apply And.intro; (focus (repeat (first | assumption | exact AH.set_same _ _ _ | ((first | refine AH.get_ne ?_ ?_ | refine AH.getd_ne ?_ ?_); (first | assumption | omega | exact Ne.symm (by assumption) | exact AH.ne_none (by assumption) (by assumption) | exact AH.none_ne (by assumption) (by assumption) | exact (AH.none_set (by assumption)).1 | exact Ne.symm (AH.none_set (by assumption)).1)))); done)) | (apply Exists.intro; apply And.intro; (try simp only [List.getElem?_drop, Nat.mul_one, Nat.add_zero, Nat.zero_add]); first | (refine u8s_get ?_; omega) | (refine iS_get ?_; omega) | assumption | rfl | fail) | (apply And.intro; (first | rfl | assumption | exact Nat.le_of_ble_eq_true rfl | omega | (simp <;> fail) | (simp <;> omega) | (focus (repeat' (first | exact one_u8s _ | exact one_iS _ _ | rfl | apply one_take | apply one_drop | apply one_append)); done) | fail)) | fail)) <;> (try (conv => whnf))
            refine Then.mk (AWq.in ?_)
            have hjn : j = n % 5 := by
              have : ¬ (j : Int) < (n : Int).tmod 5 := by assumption
              rw [Int.tmod_eq_emod_of_nonneg (by omega)] at this
              omega
            subst hjn
            refine AWp_freezeC (p := c) (u := 0) (r := r2) (v := w) (es := 1) (n := n % 5) (lim := none) (cells := iS .i64 ((intsOf x (n % 5)).take (n % 5))) [.int .i64 (5 : Nat), .int .u64 0, .int .i64 0, .nils] [] (Ne.symm hr2c) (by (focus (repeat (first | assumption | exact AH.set_same _ _ _ | ((first | refine AH.get_ne ?_ ?_ | refine AH.getd_ne ?_ ?_); (first | assumption | omega | exact Ne.symm (by assumption) | exact AH.ne_none (by assumption) (by assumption) | exact AH.none_ne (by assumption) (by assumption) | exact (AH.none_set (by assumption)).1 | exact Ne.symm (AH.none_set (by assumption)).1)))); done)) (by (focus (repeat (first | assumption | exact AH.set_same _ _ _ | ((first | refine AH.get_ne ?_ ?_ | refine AH.getd_ne ?_ ?_); (first | assumption | omega | exact Ne.symm (by assumption) | exact AH.ne_none (by assumption) (by assumption) | exact AH.none_ne (by assumption) (by assumption) | exact (AH.none_set (by assumption)).1 | exact Ne.symm (AH.none_set (by assumption)).1)))); done)) (by simp [hjl]) ?_
            refine AWp.of tt_ok (dok _) rfl ?_
            (repeat' ((conv => whnf); first | refine Then.mk ?_ | left | refine OpsA.cons ?_ | refine OpsA.nil ?_ | refine AWq.seq ?_ | refine AWq.region ?_ | refine AWq.cond ?_ | refine AWq.block ?_ | refine AWq.skip ?_ | refine AWq.ret ?_ | refine AWq.exit ?_ | refine AWq.loop ?_ | refine AWq.rangeFunc ?_ | refine DrawA.consD ?_ | refine DrawA.nil ?_ | refine AWq.draw (by decide +kernel) ?_ | (refine Both.mk ?_ ?_ <;> intro hc <;> (first | exact Bool.noConfusion hc | exact absurd (by with_reducible rfl) hc | exact (hc : False).elim | exact absurd (by assumption) hc | exact absurd hc (by assumption) | (exfalso; omega) | exact absurd hc (by decide) | skip)) | (intro c hc; (try (simp only [AH.none_iff] at hc; repeat (have hn := hc.1; replace hc := hc.2))); (first | (refine i64_k hc ?_ ?_ ?_ ; omega; omega; (clear hc; intro hc; subst hc)) | (refine u64_k hc ?_ ?_ ?_ ; omega; omega; (clear hc; intro hc; subst hc)) | (refine u8_k hc ?_ ?_ ?_ ; omega; omega; (clear hc; intro hc; subst hc)) | subst hc | skip)) | (apply Exists.intro; apply And.intro; (focus (repeat (first | assumption | exact AH.set_same _ _ _ | ((first | refine AH.get_ne ?_ ?_ | refine AH.getd_ne ?_ ?_); (first | assumption | omega | exact Ne.symm (by assumption) | exact AH.ne_none (by assumption) (by assumption) | exact AH.none_ne (by assumption) (by assumption) | exact (AH.none_set (by assumption)).1 | exact Ne.symm (AH.none_set (by assumption)).1)))); done)) | (apply Exists.intro; apply And.intro; (try simp only [List.getElem?_drop, Nat.mul_one, Nat.add_zero, Nat.zero_add]); first | (refine u8s_get ?_; omega) | (refine iS_get ?_; omega) | assumption | rfl | fail) | (apply And.intro; (first | rfl | assumption | exact Nat.le_of_ble_eq_true rfl | omega | (simp <;> fail) | (simp <;> omega) | (focus (repeat' (first | exact one_u8s _ | exact one_iS _ _ | rfl | apply one_take | apply one_drop | apply one_append)); done) | fail)) | fail)) <;> (try (conv => whnf))
            refine ⟨(i + 1, v + 1), by show i + 1 ≤ vs.length; omega, by show _ - _ < _ - _; omega, ⟨congrArg (AV.int .i64) (by omega), rfl, trivial⟩, ?_⟩
            show HLe (H.set r (.row (vsN (vs.take (i + 1))) (v + 1))) _
            rw [hvt]
            have hN : vN ⟨5, 0, 0, [], intsOf x (n % 5)⟩ = [.int .i64 (5 : Nat), .int .u64 0, .int .i64 0, .nils, .cs (iS .i64 ((intsOf x (n % 5)).take (n % 5))) (n % 5)] := by
              rw [List.take_of_length_le (by omega)]
              show ([.int .i64 (5 : Nat), .int .u64 0, .int .i64 0, .nils, .cs (iS .i64 (intsOf x (n % 5))) (intsOf x (n % 5)).length] : List AV) = _
              rw [hjl]
            rw [hN]
            exact HLe.set (HLe.set_of _ _ (HLe.del _ (HLe.set_of _ _ (HLe.set_of _ _ (HLe.set_of _ _ (HLe.refl _) hr0) h2H) hcH) h2H) hcH) _ _
    · have hin : i = vs.length := by omega
      (repeat' ((conv => whnf); first | refine Then.mk ?_ | refine OpsA.cons ?_ | refine OpsA.nil ?_ | refine AWq.seq ?_ | refine AWq.region ?_ | refine AWq.cond ?_ | refine AWq.block ?_ | refine AWq.skip ?_ | refine AWq.ret ?_ | refine AWq.exit ?_ | refine AWq.loop ?_ | refine AWq.rangeFunc ?_ | refine DrawA.consD ?_ | refine DrawA.nil ?_ | refine AWq.draw (by decide +kernel) ?_ | (refine Both.mk ?_ ?_ <;> intro hc <;> (first | exact Bool.noConfusion hc | exact absurd (by with_reducible rfl) hc | exact (hc : False).elim | exact absurd (by assumption) hc | exact absurd hc (by assumption) | (exfalso; omega) | exact absurd hc (by decide) | skip)) | (intro c hc; (try (simp only [AH.none_iff] at hc; repeat (have hn := hc.1; replace hc := hc.2))); (first | (refine i64_k hc ?_ ?_ ?_ ; omega; omega; (clear hc; intro hc; subst hc)) | (refine u64_k hc ?_ ?_ ?_ ; omega; omega; (clear hc; intro hc; subst hc)) | (refine u8_k hc ?_ ?_ ?_ ; omega; omega; (clear hc; intro hc; subst hc)) | subst hc | skip)) | (apply Exists.intro; apply And.intro; (focus (repeat (first | assumption | exact AH.set_same _ _ _ | ((first | refine AH.get_ne ?_ ?_ | refine AH.getd_ne ?_ ?_); (first | assumption | omega | exact Ne.symm (by assumption) | exact AH.ne_none (by assumption) (by assumption) | exact AH.none_ne (by assumption) (by assumption) | exact (AH.none_set (by assumption)).1 | exact Ne.symm (AH.none_set (by assumption)).1)))); done)) | (apply Exists.intro; apply And.intro; (try simp only [List.getElem?_drop, Nat.mul_one, Nat.add_zero, Nat.zero_add]); first | (refine u8s_get ?_; omega) | (refine iS_get ?_; omega) | assumption | rfl | fail) | (apply And.intro; (first | rfl | assumption | exact Nat.le_of_ble_eq_true rfl | omega | (simp <;> fail) | (simp <;> omega) | (focus (repeat' (first | exact one_u8s _ | exact one_iS _ _ | rfl | apply one_take | apply one_drop | apply one_append)); done) | fail)) | fail)) <;> (try (conv => whnf))
      refine ⟨v, by rw [hin], ?_⟩
      show H.set r (.row (vsN (vs.take i)) v) = _
      rw [hin, List.take_length]
    · have hin : i = vs.length := by omega
      (repeat' ((conv => whnf); first | refine Then.mk ?_ | refine OpsA.cons ?_ | refine OpsA.nil ?_ | refine AWq.seq ?_ | refine AWq.region ?_ | refine AWq.cond ?_ | refine AWq.block ?_ | refine AWq.skip ?_ | refine AWq.ret ?_ | refine AWq.exit ?_ | refine AWq.loop ?_ | refine AWq.rangeFunc ?_ | refine DrawA.consD ?_ | refine DrawA.nil ?_ | refine AWq.draw (by decide +kernel) ?_ | (refine Both.mk ?_ ?_ <;> intro hc <;> (first | exact Bool.noConfusion hc | exact absurd (by with_reducible rfl) hc | exact (hc : False).elim | exact absurd (by assumption) hc | exact absurd hc (by assumption) | (exfalso; omega) | exact absurd hc (by decide) | skip)) | (intro c hc; (try (simp only [AH.none_iff] at hc; repeat (have hn := hc.1; replace hc := hc.2))); (first | (refine i64_k hc ?_ ?_ ?_ ; omega; omega; (clear hc; intro hc; subst hc)) | (refine u64_k hc ?_ ?_ ?_ ; omega; omega; (clear hc; intro hc; subst hc)) | (refine u8_k hc ?_ ?_ ?_ ; omega; omega; (clear hc; intro hc; subst hc)) | subst hc | skip)) | (apply Exists.intro; apply And.intro; (focus (repeat (first | assumption | exact AH.set_same _ _ _ | ((first | refine AH.get_ne ?_ ?_ | refine AH.getd_ne ?_ ?_); (first | assumption | omega | exact Ne.symm (by assumption) | exact AH.ne_none (by assumption) (by assumption) | exact AH.none_ne (by assumption) (by assumption) | exact (AH.none_set (by assumption)).1 | exact Ne.symm (AH.none_set (by assumption)).1)))); done)) | (apply Exists.intro; apply And.intro; (try simp only [List.getElem?_drop, Nat.mul_one, Nat.add_zero, Nat.zero_add]); first | (refine u8s_get ?_; omega) | (refine iS_get ?_; omega) | assumption | rfl | fail) | (apply And.intro; (first | rfl | assumption | exact Nat.le_of_ble_eq_true rfl | omega | (simp <;> fail) | (simp <;> omega) | (focus (repeat' (first | exact one_u8s _ | exact one_iS _ _ | rfl | apply one_take | apply one_drop | apply one_append)); done) | fail)) | fail)) <;> (try (conv => whnf))
      refine ⟨v, by rw [hin], ?_⟩
      show H.set r (.row (vsN (vs.take i)) v) = _
      rw [hin, List.take_length]

theorem vals_c (l : List Int) (hl : l.length ≤ 9223372036854775807) (hr : ∀ x ∈ l, I64 x) (H : AH) :
    ACall Try.prog 19 [.cs (iS .i64 l) l.length] H (fun y H' => y = .cs (vsA ((l.take 8).map valOf)) ((l.take 8).map valOf).length ∧ H' = H) := by
  have hle := vsN_le (l.take 8)
  have hs := ACall.cold (es := 5) (vsN_len _) (vals_x l hl hr H)
  generalize (l.take 8).map valOf = vs at *
  refine ACall.told (hs.mono fun y H' h => ?_)
  exact ⟨_, H', by rw [h.1]; exact AVle.cs hle, HLe.refl _, rfl, h.2⟩
end Go.Proofs.Ytlelhddchgipeaa
