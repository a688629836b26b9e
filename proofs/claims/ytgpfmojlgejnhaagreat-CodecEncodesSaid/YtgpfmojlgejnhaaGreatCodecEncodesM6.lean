/- For the law CodecEncodes, part 6 of 7: the frame of the walk, the walks of the functions, the plain law, the row. No conditions. -/
import Derived.Test.YtgpfmojlgejnhaaGreatCodecEncodesM5
/- The reference's integers: division by a digit, on. -/
namespace Go.Proofs.YtgpfmojlgejnhaaGreat
open Go.Fw Go
set_option linter.unusedVariables false
set_option linter.unusedSimpArgs false
theorem dg_two {R : Nat} (h : R < 100000000) : (dg R).getD 0 0 = R % 10000 ∧ (dg R).getD 1 0 = R / 10000 := by
 by_cases h0 : R = 0
 ·subst h0; rw [dg_zero]; exact ⟨rfl, rfl⟩
 ·rw [dg_pos h0]
  refine ⟨rfl, ?_⟩
  show (dg (R / 10000)).getD 0 0 = _
  by_cases h1 : R / 10000 = 0
  ·rw [h1, dg_zero]; rfl
  ·rw [dg_one (by omega) h1]; rfl
def loV (R d : Nat) : Nat := min 9999 (10000 * R / (10000 * d + 1))
def hiV (R d : Nat) : Nat := min 9999 (10000 * R / (10000 * d))
set_option maxRecDepth 8000 in
theorem digit_c (R d : Nat) (hR : R < 100000000) (hd0 : d ≠ 0) (hd : d < 10000) (H : AH) :
  ACall Tryz.prog 140 [.cs (dA (dg R)) (dg R).length, .cs (dA [d]) 1] H (fun y H' => y = .tup [.int .i64 (loV R d), .int .i64 (hiV R d)] ∧ H' = H) := by
 by_cases h0 : R = 0
 ·subst h0
  have e1 : loV 0 d = 0 := by simp [loV]
  have e2 : hiV 0 d = 0 := by simp [hiV]
  rw [e1, e2, dg_zero]
  refine zQ zU (dok _) Tryz.func140 rfl (by decide) rfl ?_
  (repeat' ((conv => whnf); first | refine Then.mk ?_ | left | refine zd ?_ | (refine Both.mk ?_ ?_ <;> intro hc <;> try exact wX hc) | (intro c hc; (try (simp only [AH.zA] at hc; repeat (have hn := hc.1; replace hc := hc.2)))))) <;> (try (conv => whnf))
 ·have hlen : 1 ≤ (dg R).length := by rw [dg_pos h0, List.length_cons]; omega
  obtain ⟨t1, t2⟩ := dg_two hR
  have q1 : ∀ H, ACall Tryz.prog 143 [.cs (dA (dg R)) (dg R).length, .int .i64 1] H (fun y H' => y = .int .i64 (R / 10000 : Nat) ∧ H' = H) := fun H => by
   have := digits_c (dg R) 1 (by decide) H
   rw [if_pos (by decide), show (1 : Int).toNat = 1 from rfl, t2] at this
   exact this
  have q0 : ∀ H, ACall Tryz.prog 143 [.cs (dA (dg R)) (dg R).length, .int .i64 0] H (fun y H' => y = .int .i64 (R % 10000 : Nat) ∧ H' = H) := fun H => by
   have := digits_c (dg R) 0 (by decide) H
   rw [if_pos (by decide), show (0 : Int).toNat = 0 from rfl, t1] at this
   exact this
  have qm : ∀ H, ACall Tryz.prog 143 [.cs (dA (dg R)) (dg R).length, .int .i64 (-1)] H (fun y H' => y = .int .i64 0 ∧ H' = H) := fun H => digits_c (dg R) (-1) (by decide) H
  have p0 : ∀ H, ACall Tryz.prog 143 [.cs (dA [d]) 1, .int .i64 0] H (fun y H' => y = .int .i64 d ∧ H' = H) := fun H => digits_c [d] 0 (by decide) H
  have pm : ∀ H, ACall Tryz.prog 143 [.cs (dA [d]) 1, .int .i64 (-1)] H (fun y H' => y = .int .i64 0 ∧ H' = H) := fun H => digits_c [d] (-1) (by decide) H
  generalize hLL : (dg R).length = LL at *
  generalize dA (dg R) = a at *
  have hsum : R = R % 10000 + 10000 * (R / 10000) := by omega
  generalize R / 10000 = r1 at *
  have hr0 : R % 10000 < 10000 := Nat.mod_lt _ (by decide)
  generalize R % 10000 = r0 at *
  refine zQ zU (dok _) Tryz.func140 rfl (by decide) rfl ?_
  (repeat' ((conv => whnf); first | refine Then.mk ?_ | left | refine zg ?_ (q1 _) | refine zg ?_ (q0 _) | refine zg ?_ (qm _) | refine zg ?_ (p0 _) | refine zg ?_ (pm _) | refine zgg ?_ (q1 _) | refine zgg ?_ (q0 _) | refine zgg ?_ (qm _) | refine zgg ?_ (p0 _) | refine zgg ?_ (pm _) | refine zd ?_ | (refine Both.mk ?_ ?_ <;> intro hc <;> try exact wX hc) | (intro c hc; (try (simp only [AH.zA] at hc; repeat (have hn := hc.1; replace hc := hc.2)))) | (refine ACall.to (q1 _) ?_) | (refine ACall.to (q0 _) ?_) | (refine ACall.to (qm _) ?_) | (refine ACall.to (p0 _) ?_) | (refine ACall.to (pm _) ?_))) <;> (try (conv => whnf))
  have u1 : (10000 * (10000 * (r1 : Int) + r0) + 0) = ((10000 * R : Nat) : Int) := by omega
  have u2 : (10000 * (d : Int) + 0 + 1) = ((10000 * d + 1 : Nat) : Int) := by omega
  have u3 : (10000 * (d : Int) + 0) = ((10000 * d : Nat) : Int) := by omega
  have v1 : 10000 * R / (10000 * d + 1) ≤ 1000000000000 := Nat.le_trans (Nat.div_le_self _ _) (by omega)
  have v2 : 10000 * R / (10000 * d) ≤ 1000000000000 := Nat.le_trans (Nat.div_le_self _ _) (by omega)
  have hmin : ∀ z : Nat, z ≤ 1000000000000 → min 9999 (IntKind.i64.wrap (z : Int)) = ((min 9999 z : Nat) : Int) := fun z hz => by
   have hw : IntKind.i64.wrap (z : Int) = z := by rw [IntKind.wrap_i64]; omega
   rw [hw]
   rcases Nat.le_total 9999 z with h | h
   ·rw [Nat.min_eq_left h, Int.min_eq_left (by omega)]; rfl
   ·rw [Nat.min_eq_right h, Int.min_eq_right (by omega)]
  have e1 : min 9999 (IntKind.i64.wrap ((10000 * (10000 * (r1 : Int) + r0) + 0).tdiv (10000 * (d : Int) + 0 + 1))) = (loV R d : Int) := by
   rw [u1, u2, ← Int.ofNat_tdiv, hmin _ (by assumption)]; rfl
  have e2 : min 9999 (IntKind.i64.wrap ((10000 * (10000 * (r1 : Int) + r0) + 0).tdiv (10000 * (d : Int) + 0))) = (hiV R d : Int) := by
   rw [u1, u3, ← Int.ofNat_tdiv, hmin _ (by assumption)]; rfl
  rw [e1, e2]
  exact ⟨rfl, rfl⟩
theorem lo_le {R d : Nat} (hd0 : d ≠ 0) : loV R d ≤ R / d := by
 unfold loV
 have h : 10000 * R / (10000 * d + 1) ≤ R / d := by
  rw [Nat.le_div_iff_mul_le (by omega)]
  have h1 := Nat.div_mul_le_self (10000 * R) (10000 * d + 1)
  generalize 10000 * R / (10000 * d + 1) = z at *
  have h2 : z * (10000 * d) ≤ z * (10000 * d + 1) := Nat.mul_le_mul_left _ (by omega)
  have h3 : z * (10000 * d) = 10000 * (z * d) := by rw [← Nat.mul_assoc, Nat.mul_comm z 10000, Nat.mul_assoc]
  omega
 omega
theorem le_hi {R d : Nat} (hd0 : d ≠ 0) (h : R < 10000 * d) : R / d ≤ hiV R d := by
 unfold hiV
 have e : 10000 * R / (10000 * d) = R / d := Nat.mul_div_mul_left _ _ (by decide)
 rw [e]
 have : R / d < 10000 := (Nat.div_lt_iff_lt_mul (by omega)).2 h
 omega
def dq (d : Nat) : List Nat → List Nat × Nat
 | [] => ([], 0)
 | x :: r => ((x + 10000 * (dq d r).2) / d :: (dq d r).1, (x + 10000 * (dq d r).2) % d)
theorem dq_ok {d : Nat} (hd0 : d ≠ 0) : ∀ {l : List Nat}, DOk l → DOk (dq d l).1 ∧ (dq d l).1.length = l.length ∧ dv (dq d l).1 = dv l / d ∧ (dq d l).2 = dv l % d
 | [], _ => ⟨DOk.nil, rfl, by simp [dq, dv], by simp [dq, dv]⟩
 | x :: r, h => by
  have hr : DOk r := fun y hy => h y (by simp [hy])
  have hx := h x (by simp)
  obtain ⟨h1, h2, h3, h4⟩ := dq_ok hd0 hr
  have hs : (dq d r).2 < d := by rw [h4]; exact Nat.mod_lt _ (by omega)
  have e : dq d (x :: r) = ((x + 10000 * (dq d r).2) / d :: (dq d r).1, (x + 10000 * (dq d r).2) % d) := rfl
  have hq : (x + 10000 * (dq d r).2) / d < 10000 := (Nat.div_lt_iff_lt_mul (by omega)).2 (by omega)
  have hv : dv (x :: r) = x + 10000 * dv r := rfl
  have hrep : dv r = d * (dv r / d) + dv r % d := (Nat.div_add_mod _ _).symm
  have hall : dv (x :: r) = (x + 10000 * (dq d r).2) + d * (10000 * (dv r / d)) := by
   rw [hv, h4]
   generalize dv r % d = s at *
   generalize dv r / d = q at *
   rw [hrep, Nat.mul_add, ← Nat.mul_assoc, ← Nat.mul_assoc, Nat.mul_comm 10000 d]; omega
  rw [e]
  refine ⟨?_, by simp [h2], ?_, ?_⟩
  ·intro y hy
   rcases List.mem_cons.1 hy with rfl | hy
   ·exact hq
   ·exact h1 y hy
  ·show (x + 10000 * (dq d r).2) / d + 10000 * dv (dq d r).1 = _
   rw [hall, Nat.add_mul_div_left _ _ (by omega), h3]
  ·show (x + 10000 * (dq d r).2) % d = _
   rw [hall, Nat.add_mul_mod_self_left]
theorem dq_step (d : Nat) (a : List Nat) {j : Nat} (h : j < a.length) : dq d (a.drop j) = ((a.getD j 0 + 10000 * (dq d (a.drop (j + 1))).2) / d :: (dq d (a.drop (j + 1))).1, (a.getD j 0 + 10000 * (dq d (a.drop (j + 1))).2) % d) := by
 rw [List.drop_eq_getElem_cons h]
 have : a.getD j 0 = a[j] := by rw [List.getD_eq_getElem?_getD, List.getElem?_eq_getElem h]; rfl
 rw [this]
 rfl
theorem dA_one (l : List Nat) : (dA l).all one = true := by simp [dA, one]
set_option maxRecDepth 8000 in
set_option maxHeartbeats 4000000 in
theorem divided_c (x d : Nat) (hx : (dg x).length ≤ 50000000) (hd0 : d ≠ 0) (hd : d < 10000) (H : AH) :
  ACall Tryz.prog 133 [.cs (dA (dg x)) (dg x).length, .cs (dA [d]) 1] H (fun y H' => ∃ c, y = .tup [.sl c 0 1 0 (dg x).length none, .cs (dA (dg (x % d))) (dg (x % d)).length] ∧ H c = none ∧ HLe (H.set c (.row (dA (dq d (dg x)).1) 0)) H') := by
 have hv := dv_dg x
 have oa := dok_dg x
 obtain ⟨a, ha⟩ : ∃ a, a = dg x := ⟨_, rfl⟩
 rw [← ha] at hx hv oa ⊢
 have hal : (dA a).length = a.length * 1 := by simp
 have n0 : ∀ H, ACall Tryz.prog 134 [.bool false, .cs (List.drop ((a.length : Int).toNat * 1) (dA a)) (a.length - (a.length : Int).toNat)] H (fun y H' => y = .agg [.bool false, .cs (dA (dg 0)) (dg 0).length] ∧ H' = H) := fun H => by
  have e : List.drop ((a.length : Int).toNat * 1) (dA a) = dA [] := by
   rw [Int.toNat_natCast, Nat.mul_one]; exact List.drop_of_length_le (by simp)
  have e2 : a.length - (a.length : Int).toNat = ([] : List Nat).length := by simp
  rw [e, e2]
  exact normal_k false [] DOk.nil (by decide) H
 have m1 : min (a.length : Int) ((a.length : Int) - ((1 : Nat) : Int) + 1) = a.length := by omega
 have m2 : max 0 (a.length : Int) = a.length := by omega
 refine zQ zU (dok _) Tryz.func133 rfl (by decide) rfl ?_
 (repeat' ((conv => whnf); first | left | refine zd ?_ | (refine Both.mk ?_ ?_ <;> intro hc <;> try exact wX hc) | (intro c hc; (try (simp only [AH.zA] at hc; repeat (have hn := hc.1; replace hc := hc.2)))))) <;> (try (conv => whnf))
 refine Then.mk ?_
 (repeat' ((conv => whnf); first | left | refine zd ?_ | (refine Both.mk ?_ ?_ <;> intro hc <;> try exact wX hc) | (intro c hc; (try (simp only [AH.zA] at hc; repeat (have hn := hc.1; replace hc := hc.2)))))) <;> (try (conv => whnf))
 refine Then.mk ?_
 (repeat' ((conv => whnf); first | left | refine zd ?_ | (refine Both.mk ?_ ?_ <;> intro hc <;> try exact wX hc) | (intro c hc; (try (simp only [AH.zA] at hc; repeat (have hn := hc.1; replace hc := hc.2)))))) <;> (try (conv => whnf))
 obtain ⟨r, rfl⟩ : ∃ r, r = c := ⟨c, rfl⟩
 have hrH : H r = none := by assumption
 refine Then.mk ?_
 (repeat' ((conv => whnf); first | left | refine zg ?_ (n0 _) | refine zgg ?_ (n0 _) | refine zd ?_ | (refine Both.mk ?_ ?_ <;> intro hc <;> try exact wX hc) | (intro c hc; (try (simp only [AH.zA] at hc; repeat (have hn := hc.1; replace hc := hc.2)))) | (refine ACall.to (n0 _) ?_))) <;> (try (conv => whnf))
 refine Then.mk ?_
 (repeat' ((conv => whnf); first | left | refine zd ?_ | (refine Both.mk ?_ ?_ <;> intro hc <;> try exact wX hc) | (intro c hc; (try (simp only [AH.zA] at hc; repeat (have hn := hc.1; replace hc := hc.2)))))) <;> (try (conv => whnf))
 refine Then.mk ?_
 (repeat' ((conv => whnf); first | left | refine zd ?_ | (refine Both.mk ?_ ?_ <;> intro hc <;> try exact wX hc) | (intro c hc; (try (simp only [AH.zA] at hc; repeat (have hn := hc.1; replace hc := hc.2)))))) <;> (try (conv => whnf))
 refine Then.mk (AWq.in ?_)
 have hcr : c ≠ r := by assumption
 have hcH : H c = none := by assumption
 refine AWp_cut (H2 := H.set r (.row (dA (List.replicate a.length 0)) 0)) [(0, .cs (dA a) a.length), (1, .cs (dA [d]) 1), (6, .sl r 0 1 0 a.length none), (9, .cs (dA (dg 0)) (dg 0).length), (10, .int .i64 ((a.length : Int) - 1))] ⟨rfl, rfl, rfl, rfl, rfl, trivial⟩ (fun _ => rfl) ?_ ?_
 ·rw [← dA_zeros]
  exact HLe.set_of _ _ (HLe.set_of _ _ (HLe.refl _) (AH.zA.2 ⟨hcr, hcH⟩)) (AH.zA.2 ⟨hcr, hcH⟩)
 refine AWp.of zU (dok _) rfl ?_
 clear hcr hcH n0 m1 m2
 (repeat' ((conv => whnf); first | refine Then.mk ?_ | left | refine zd ?_ | (refine Both.mk ?_ ?_ <;> intro hc <;> try exact wX hc) | (intro c hc; (try (simp only [AH.zA] at hc; repeat (have hn := hc.1; replace hc := hc.2)))))) <;> (try (conv => whnf))
 refine zT (σ := Nat) (9 :: 10 :: 11 :: 12 :: 13 :: 14 :: 15 :: 37 :: 38 :: 39 :: 40 :: 41 :: 42 :: 43 :: 44 :: 45 :: 46 :: 47 :: 48 :: 49 :: 50 :: 51 :: 52 :: 53 :: 54 :: 55 :: 56 :: 57 :: 58 :: 59 :: 60 :: 61 :: 62 :: 63 :: 64 :: 65 :: 66 :: 67 :: 68 :: 69 :: 70 :: 71 :: 72 :: 73 :: 74 :: 75 :: 76 :: 77 :: 78 :: 79 :: 80 :: 81 :: 82 :: 83 :: 84 :: 85 :: []) (fun k => [(9, .cs (dA (dg (dq d (a.drop k)).2)) (dg (dq d (a.drop k)).2).length), (10, .int .i64 ((k : Int) - 1))]) (fun k => H.set r (.row (dA (List.replicate k 0 ++ (dq d (a.drop k)).1)) 0)) (fun k => k ≤ a.length) (fun k => k) a.length rfl (Nat.le_refl _) ?_ ?_ ?_
 ·rw [List.drop_length]; exact ⟨rfl, rfl, trivial⟩
 ·rw [List.drop_length]
  refine HLe.of_eq ?_
  show H.set r (.row (dA (List.replicate a.length 0 ++ [])) 0) = _
  rw [List.append_nil]
 ·intro k hk
  dsimp only at hk ⊢
  refine AWp.of zU (dok _) rfl ?_
  by_cases h0 : k = 0
  ·subst h0
   rw [List.drop_zero]
   obtain ⟨o1, o2, o3, o4⟩ := dq_ok hd0 oa
   rw [o4, hv]
   (repeat' ((conv => whnf); first | refine Then.mk ?_ | left | refine zd ?_ | (refine Both.mk ?_ ?_ <;> intro hc <;> try exact wX hc) | (intro c hc; (try (simp only [AH.zA] at hc; repeat (have hn := hc.1; replace hc := hc.2)))))) <;> (try (conv => whnf))
   exact HLe.refl _
  ·obtain ⟨j, rfl⟩ : ∃ j, k = j + 1 := ⟨k - 1, by omega⟩
   have hst := dq_step d a (j := j) (by omega)
   have hod := dq_ok hd0 (oa.drop (j + 1))
   have hgj := dA_gi (l := a) (i := j) (by omega)
   have haj := oa.at j
   have hkj : ((j + 1 : Nat) : Int) - 1 = j := by omega
   have hsd : (dq d (a.drop (j + 1))).2 < d := by rw [hod.2.2.2]; exact Nat.mod_lt _ (by omega)
   rw [hkj]
   generalize (dq d (a.drop (j + 1))).2 = s at *
   generalize (dq d (a.drop (j + 1))).1 = qs at *
   generalize a.getD j 0 = x0 at *
   obtain ⟨R, hR⟩ : ∃ R, R = x0 + 10000 * s := ⟨_, rfl⟩
   rw [← hR] at hst
   have hRd : R < 10000 * d := by omega
   have hR8 : R < 100000000 := by omega
   have hnm := fun H => normal_k false (x0 :: dg s) (fun y hy => (List.mem_cons.1 hy).elim (fun e => by rw [e]; exact haj) (dok_dg s y)) (by
    rw [List.length_cons]
    have := dg_len (n := s) (k := 1) (by omega)
    omega) H
   have hdR : dv (x0 :: dg s) = R := by show x0 + 10000 * dv (dg s) = R; rw [dv_dg, hR]
   rw [hdR] at hnm
   unfold nN at hnm
   have hone := dA_one (dg s)
   have hone2 := dA_one (x0 :: dg s)
   have hsl : (dg s).length ≤ 1 := dg_len (n := s) (k := 1) (by omega)
   have hdal : (dA (dg s)).length = (dg s).length := by simp
   have hlx : (x0 :: dg s).length = 1 + (dg s).length := by rw [List.length_cons]; omega
   rw [hlx] at hnm
   have kr : (H.set r (.row (dA (List.replicate (j + 1) 0 ++ qs)) 0)) r = some (.row (dA (List.replicate (j + 1) 0 ++ qs)) 0) := AH.zC _ _ _
   have hbase : HLe H (H.set r (.row (dA (List.replicate (j + 1) 0 ++ qs)) 0)) := HLe.fresh _ hrH
   have hnone : ∀ c, (H.set r (.row (dA (List.replicate (j + 1) 0 ++ qs)) 0)) c = none → H c = none := fun c hc => (AH.none_set hc).2
   generalize (H.set r (.row (dA (List.replicate (j + 1) 0 ++ qs)) 0)) = G at *
   (repeat' ((conv => whnf); first | refine Then.mk ?_ | refine Or.inr (Or.inl ?_) | refine zd ?_ | (refine Both.mk ?_ ?_ <;> intro hc <;> try exact wX hc) | (intro c hc; (try (simp only [AH.zA] at hc; repeat (have hn := hc.1; replace hc := hc.2)))))) <;> (try (conv => whnf))
   have hcG : G c = none := by assumption
   refine ACall.frz (pre := [.bool false]) (post := []) (r := c) (v := 0 + 1) (es := 1) (n := 1 + (dg s).length) (cells := dA (x0 :: dg s)) (AH.zC _ _ _) (by rw [dA_len, hlx]; omega) ?_
   rw [AH.zS, AH.del_set _ _ _ hcG]
   refine ACall.to (hnm _) ?_
   have q1 := fun H => digit_c R d hR8 hd0 hd H
   (repeat' ((conv => whnf); first | refine Then.mk ?_ | left | refine zg ?_ (q1 _) | refine zgg ?_ (q1 _) | refine zd ?_ | (refine Both.mk ?_ ?_ <;> intro hc <;> try exact wX hc) | (intro c hc; (try (simp only [AH.zA] at hc; repeat (have hn := hc.1; replace hc := hc.2)))) | (refine ACall.to (q1 _) ?_))) <;> (try (conv => whnf))
   have q2 := fun m (hm : m < 10000) H => small_c d m hd0 hd hm H
   have hR2 : (dg R).length ≤ 2 := dg_len (n := R) (k := 2) (by omega)
   have hq9 : R / d ≤ 9999 := by
    have : R / d < 10000 := (Nat.div_lt_iff_lt_mul (by omega)).2 hRd
    omega
   have hdm : ∀ m, m < 10000 → (dg (d * m)).length ≤ 2 := fun m hm => dg_len (n := d * m) (k := 2) (Nat.lt_of_lt_of_le (Nat.mul_lt_mul_of_lt_of_le hd (Nat.le_of_lt hm) (by decide)) (by decide))
   have hcmp : ∀ m, m < 10000 → ∀ H, ACall Tryz.prog 138 [.cs (dA (dg (d * m))) (dg (d * m)).length, .cs (dA (dg R)) (dg R).length] H (fun v H' => v = .int .i64 (cmpV (d * m) R) ∧ H' = H) := fun m hm H => compared_c (d * m) R (by have := hdm m hm; omega) (by omega) H
   have hqd : R / d * d ≤ R := Nat.div_mul_le_self _ _
   have hqd2 : d * (R / d) + R % d = R := Nat.div_add_mod _ _
   have hlo := lo_le (R := R) hd0
   have hhi := le_hi hd0 hRd
   have hhi9 : hiV R d ≤ 9999 := by unfold hiV; omega
   have hmq : ∀ m, d * m ≤ R ↔ m ≤ R / d := fun m => by
    rw [Nat.le_div_iff_mul_le (by omega), Nat.mul_comm]
   have hmo := minL_ok (dok_dg R) (dok_dg (d * (R / d))) (by
    by_cases hl : (dg R).length < (dg (d * (R / d))).length
    ·have := dg_short hl; omega
    ·omega) (by rw [dv_dg, dv_dg]; omega)
   obtain ⟨w1, w2, w3⟩ := hmo
   rw [dv_dg, dv_dg, show R - d * (R / d) = R % d by omega] at w2
   have hmin := fun H => minus_c (dg R) (dg (d * (R / d))) (dok_dg R) (dok_dg (d * (R / d))) (by omega) H
   have hnm2 := fun H => normal_k false (minL (dg R) (dg (d * (R / d)))) w1 (by omega) H
   rw [w2, w3] at hnm2
   unfold nN at hnm2
   have hsm := q2 (R / d) (by omega)
   have hrow : wrA (dA (List.replicate (j + 1) 0 ++ qs)) (0 + (j : Int).toNat * 1) [.int .i64 (R / d : Nat)] = dA (List.replicate j 0 ++ (R / d :: qs)) := by
    have e : List.replicate (j + 1) 0 ++ qs = List.replicate j 0 ++ 0 :: qs := by rw [List.replicate_succ']; simp
    rw [Nat.zero_add, Nat.mul_one, Int.toNat_natCast, e, dA_wr (by simp)]
    congr 1
    have := set_at (List.replicate j 0) qs 0 (R / d)
    rwa [List.length_replicate] at this
   have hrl : (dA (List.replicate (j + 1) 0 ++ qs)).length = a.length := by
    have := hod.2.1
    rw [List.length_drop] at this
    simp; omega
   refine zT (σ := Nat × Nat) (12 :: 13 :: 14 :: 57 :: 58 :: 59 :: 60 :: 61 :: 62 :: 63 :: 64 :: 65 :: 66 :: 67 :: 68 :: 69 :: 70 :: 71 :: 72 :: 73 :: []) (fun (lo, hi) => [(12, .int .i64 lo), (13, .int .i64 hi)]) (fun _ => G) (fun (lo, hi) => lo ≤ R / d ∧ R / d ≤ hi ∧ hi ≤ 9999) (fun (lo, hi) => hi - lo) (loV R d, hiV R d) rfl ⟨hlo, hhi, hhi9⟩ ⟨rfl, rfl, trivial⟩ (by (first | ((repeat' (first | (with_reducible exact HLe.refl _) | (with_reducible assumption) | apply HLe.push | refine HLe.set_of _ _ ?_ ?_ | refine HLe.del _ ?_ ?_ | rw [AH.zR _ _ (by (first | assumption | omega | exact Ne.symm (by assumption) | exact AH.ne_none (by assumption) (by assumption) | exact AH.none_ne (by assumption) (by assumption) | exact (AH.none_set (by assumption)).1 | exact Ne.symm (AH.none_set (by assumption)).1))])); done) | ((repeat' (first | refine HLe.set_of _ _ ?_ ?_ | refine HLe.del _ ?_ ?_)) <;> (first | assumption | exact HLe.refl _ | exact HLe.none (by assumption) (by assumption) | (simp_all; done))))) ?_
   rintro ⟨lo, hi⟩ ⟨i1, i2, i3⟩
   dsimp only at i1 i2 i3 ⊢
   refine AWp.of zU (dok _) rfl ?_
   by_cases hlh : lo < hi
   ·obtain ⟨m, hm⟩ : ∃ m, m = (lo + hi + 1) / 2 := ⟨_, rfl⟩
    have em : IntKind.i64.wrap (((lo : Int) + hi + 1).tdiv 2) = m := by rw [Int.tdiv_eq_ediv_of_nonneg (by omega), IntKind.wrap_i64]; omega
    have hsm := q2 m (by omega)
    have hcm := hcmp m (by omega)
    have hcv : cmpV (d * m) R = if d * m < R then -1 else if R < d * m then 1 else 0 := rfl
    have hmm := hmq m
    by_cases hle : d * m ≤ R
    ·have hc0 : cmpV (d * m) R ≤ 0 := by rw [hcv]; split <;> (try split) <;> omega
     generalize cmpV (d * m) R = cv at *
     (repeat' ((conv => whnf); first | refine Then.mk ?_ | left | refine zg ?_ (hsm _) | refine zg ?_ (hcm _) | refine zgg ?_ (hsm _) | refine zgg ?_ (hcm _) | refine zd ?_ | (refine Both.mk ?_ ?_ <;> intro hc <;> try exact wX hc) | (intro c hc; (try (simp only [AH.zA] at hc; repeat (have hn := hc.1; replace hc := hc.2)))) | (refine ACall.to (hsm _) ?_) | (refine ACall.to (hcm _) ?_))) <;> (try (conv => whnf))
     exact ⟨(m, hi), ⟨hmm.1 hle, i2, i3⟩, by show hi - m < hi - lo; omega, ⟨rfl, rfl, trivial⟩, HLe.refl _⟩
    ·have hc0 : 0 < cmpV (d * m) R := by rw [hcv, if_neg (by omega), if_pos (by omega)]; decide
     have hm1 : R / d < m := by
      by_cases h : m ≤ R / d
      ·exact absurd (hmm.2 h) hle
      ·omega
     generalize cmpV (d * m) R = cv at *
     (repeat' ((conv => whnf); first | refine Then.mk ?_ | left | refine zg ?_ (hsm _) | refine zg ?_ (hcm _) | refine zgg ?_ (hsm _) | refine zgg ?_ (hcm _) | refine zd ?_ | (refine Both.mk ?_ ?_ <;> intro hc <;> try exact wX hc) | (intro c hc; (try (simp only [AH.zA] at hc; repeat (have hn := hc.1; replace hc := hc.2)))) | (refine ACall.to (hsm _) ?_) | (refine ACall.to (hcm _) ?_))) <;> (try (conv => whnf))
     exact ⟨(lo, m - 1), ⟨i1, by omega, by omega⟩, by show m - 1 - lo < hi - lo; omega, ⟨rfl, congrArg (AV.int .i64) (by omega), trivial⟩, HLe.refl _⟩
   ·have hlq : lo = R / d := by omega
    subst hlq
    generalize hQ : R / d = Q at *
    generalize hM : R % d = M at *
    generalize minL (dg R) (dg (d * Q)) = mn at *
    (repeat' ((conv => whnf); first | refine Then.mk ?_ | left | refine zg ?_ (hsm _) | refine zg ?_ (hmin _) | refine zg ?_ (hnm2 _) | refine zgg ?_ (hsm _) | refine zgg ?_ (hmin _) | refine zgg ?_ (hnm2 _) | refine zd ?_ | (refine Both.mk ?_ ?_ <;> intro hc <;> try exact wX hc) | (intro c hc; (try (simp only [AH.zA] at hc; repeat (have hn := hc.1; replace hc := hc.2)))) | (refine ACall.to (hsm _) ?_) | (refine ACall.to (hmin _) ?_) | (refine ACall.to (hnm2 _) ?_))) <;> (try (conv => whnf))
    have hcG3 : G c = none := by assumption
    refine ⟨j, by omega, Nat.lt_succ_self _, ⟨?_, rfl, trivial⟩, ?_⟩
    ·rw [hst]; rfl
    ·rw [hst]
     dsimp only
     rw [← hrow]
     exact HLe.set (HLe.set_of _ _ (HLe.set_of _ _ hbase (hnone _ hcG3)) (hnone _ hcG3)) _ _
open Go.Fw Go
set_option maxRecDepth 8000 in
theorem cmpI_c (g k : Bool) (x y : Nat) (hx : (dg x).length ≤ 100000000) (hy : (dg y).length ≤ 100000000) (H : AH) :
  ACall Tryz.prog 136 [nR g x, nR k y] H (fun v H' => v = .int .i64 (if g = k then (if g = true then cmpV y x else cmpV x y) else if g = true then -1 else 1) ∧ H' = H) := by
 refine ACall.back ?_
 have h1 := fun H => compared_c x y hx hy H
 have h2 := fun H => compared_c y x hy hx H
 unfold nR
 generalize cmpV x y = c1 at *
 generalize cmpV y x = c2 at *
 cases g <;> cases k
 all_goals
  simp only [if_true, if_false, reduceCtorEq]
  refine zQ zU (dok _) Tryz.func136 rfl (by decide) rfl ?_
  (repeat' ((conv => whnf); first | refine Then.mk ?_ | left | refine zg ?_ (h1 _) | refine zg ?_ (h2 _) | refine zgg ?_ (h1 _) | refine zgg ?_ (h2 _) | refine zd ?_ | (refine Both.mk ?_ ?_ <;> intro hc <;> try exact wX hc) | (intro c hc; (try (simp only [AH.zA] at hc; repeat (have hn := hc.1; replace hc := hc.2)))) | (refine ACall.to (h1 _) ?_) | (refine ACall.to (h2 _) ?_))) <;> (try (conv => whnf))
  (first | ((repeat' (first | (with_reducible exact HLe.refl _) | (with_reducible assumption) | apply HLe.push | refine HLe.set_of _ _ ?_ ?_ | refine HLe.del _ ?_ ?_ | rw [AH.zR _ _ (by (first | assumption | omega | exact Ne.symm (by assumption) | exact AH.ne_none (by assumption) (by assumption) | exact AH.none_ne (by assumption) (by assumption) | exact (AH.none_set (by assumption)).1 | exact Ne.symm (AH.none_set (by assumption)).1))])); done) | ((repeat' (first | refine HLe.set_of _ _ ?_ ?_ | refine HLe.del _ ?_ ?_)) <;> (first | assumption | exact HLe.refl _ | exact HLe.none (by assumption) (by assumption) | (simp_all; done))))
set_option maxRecDepth 8000 in
theorem smallI_c (r : Nat) (hr : r < 10000) (H : AH) :
  ACall Tryz.prog 118 [nR false r] H (fun v H' => v = .tup [.int .i64 (r : Nat), .bool true] ∧ H' = H) := by
 refine ACall.back ?_
 have hl : (dg r).length ≤ 1 := dg_len (n := r) (k := 1) (by omega)
 have o1 := fun H => of_c 9223372036854775807 (by decide) H
 have o2 := fun H => of_c (-9223372036854775808) (by decide) H
 rw [show (decide ((9223372036854775807 : Int) < 0)) = false from rfl, show ab 9223372036854775807 = 9223372036854775807 from rfl, nN_false] at o1
 rw [show (decide ((-9223372036854775808 : Int) < 0)) = true from rfl, show ab (-9223372036854775808) = 9223372036854775808 from rfl] at o2
 rw [nN_R, show (true && !decide (9223372036854775808 = 0)) = true from rfl] at o2
 have c1 := fun H => cmpI_c false false r 9223372036854775807 (by omega) (Nat.le_trans (dg_len (k := 5) (by decide)) (by decide)) H
 have c2 := fun H => cmpI_c false true r 9223372036854775808 (by omega) (Nat.le_trans (dg_len (k := 5) (by decide)) (by decide)) H
 rw [if_pos rfl, if_neg (by decide), show cmpV r 9223372036854775807 = -1 from by unfold cmpV; rw [if_pos (by omega)]] at c1
 rw [if_neg (by decide), if_neg (by decide)] at c2
 have hd : (dg r).length = 0 ∧ r = 0 ∨ (dg r).length = 1 ∧ (dA (dg r))[(0 : Int).toNat]? = some (.int .i64 (r : Nat)) := by
  by_cases h0 : r = 0
  ·subst h0; rw [dg_zero]; exact .inl ⟨rfl, rfl⟩
  ·rw [dg_one hr h0]; exact .inr ⟨rfl, rfl⟩
 unfold nR at *
 generalize dA (dg 9223372036854775807) = A1 at *
 generalize (dg 9223372036854775807).length = L1 at *
 generalize dA (dg 9223372036854775808) = A2 at *
 generalize (dg 9223372036854775808).length = L2 at *
 generalize dA (dg r) = a at *
 generalize (dg r).length = L at *
 refine zQ zU (dok _) Tryz.func118 rfl (by decide) rfl ?_
 (repeat' ((conv => whnf); first | left | refine zg ?_ (o1 _) | refine zg ?_ (o2 _) | refine zg ?_ (c1 _) | refine zg ?_ (c2 _) | refine zgg ?_ (o1 _) | refine zgg ?_ (o2 _) | refine zgg ?_ (c1 _) | refine zgg ?_ (c2 _) | refine zd ?_ | (refine Both.mk ?_ ?_ <;> intro hc <;> try exact wX hc) | (intro c hc; (try (simp only [AH.zA] at hc; repeat (have hn := hc.1; replace hc := hc.2)))) | (refine ACall.to (o1 _) ?_) | (refine ACall.to (o2 _) ?_) | (refine ACall.to (c1 _) ?_) | (refine ACall.to (c2 _) ?_))) <;> (try (conv => whnf))
 repeat (refine Then.mk ?_; (repeat' ((conv => whnf); first | left | refine zg ?_ (o1 _) | refine zg ?_ (o2 _) | refine zg ?_ (c1 _) | refine zg ?_ (c2 _) | refine zgg ?_ (o1 _) | refine zgg ?_ (o2 _) | refine zgg ?_ (c1 _) | refine zgg ?_ (c2 _) | refine zd ?_ | (refine Both.mk ?_ ?_ <;> intro hc <;> try exact wX hc) | (intro c hc; (try (simp only [AH.zA] at hc; repeat (have hn := hc.1; replace hc := hc.2)))) | (refine ACall.to (o1 _) ?_) | (refine ACall.to (o2 _) ?_) | (refine ACall.to (c1 _) ?_) | (refine ACall.to (c2 _) ?_))) <;> (try (conv => whnf)))
 all_goals
  obtain ⟨b, hb⟩ : ∃ b, b = c := ⟨c, rfl⟩
  have hbH : H c = none := by assumption
  have kb : (H.set c (.row [.bool false, .cs a L] 0)) c = some (.row [.bool false, .cs a L] 0) := AH.zC _ _ _
  have hle : HLe H (H.set c (.row [.bool false, .cs a L] 0)) := HLe.fresh _ hbH
  generalize (H.set c (.row [.bool false, .cs a L] 0)) = G at *
  refine zT (σ := Nat × Nat) (4 :: 5 :: 20 :: 21 :: 22 :: 23 :: 24 :: 25 :: 26 :: 27 :: 28 :: 29 :: 30 :: 31 :: 32 :: 33 :: 34 :: 35 :: 36 :: 37 :: 38 :: 39 :: 40 :: 41 :: []) (fun (k, n) => [(4, .int .i64 n), (5, .int .i64 ((k : Int) - 1))]) (fun _ => G) (fun (k, n) => (k = 0 ∧ n = r) ∨ (k = 1 ∧ L = 1 ∧ n = 0)) (fun (k, n) => k) (L, 0) rfl ?_ ⟨rfl, rfl, trivial⟩ (HLe.refl _) ?_
  ·rcases hd with ⟨h1, h2⟩ | ⟨h1, h2⟩
   ·exact .inl ⟨h1, h2.symm⟩
   ·exact .inr ⟨h1, h1, rfl⟩
  ·rintro ⟨k, n⟩ hi
   dsimp only at hi ⊢
   refine AWp.of zU (dok _) rfl ?_
   rcases hi with ⟨rfl, rfl⟩ | ⟨rfl, h2, rfl⟩
   ·(repeat' ((conv => whnf); first | refine Then.mk ?_ | left | refine zd ?_ | (refine Both.mk ?_ ?_ <;> intro hc <;> try exact wX hc) | (intro c hc; (try (simp only [AH.zA] at hc; repeat (have hn := hc.1; replace hc := hc.2)))))) <;> (try (conv => whnf))
    assumption
   ·subst h2
    have ha : a[Int.toNat 0]? = some (.int .i64 (r : Nat)) := by
     rcases hd with h | h
     ·exact absurd h.1 (by decide)
     ·exact h.2
    (repeat' ((conv => whnf); first | refine Then.mk ?_ | left | refine zd ?_ | (refine Both.mk ?_ ?_ <;> intro hc <;> try exact wX hc) | (intro c hc; (try (simp only [AH.zA] at hc; repeat (have hn := hc.1; replace hc := hc.2)))))) <;> (try (conv => whnf))
    exact ⟨(0, r), .inl ⟨rfl, rfl⟩, Nat.zero_lt_one, ⟨congrArg (AV.int .i64) (by omega), rfl, trivial⟩, HLe.refl _⟩
set_option maxRecDepth 8000 in
set_option maxHeartbeats 4000000 in
theorem div_c (x d : Nat) (hx : (dg x).length ≤ 50000000) (hd0 : d ≠ 0) (hd : d < 10000) (H : AH) :
  ACall Tryz.prog 116 [nR false x, nR false d] H (fun y H' => y = .tup [nN false (x / d), nN false (x % d)] ∧ H' = H) := by
 refine ACall.back ?_
 obtain ⟨o1, o2, o3, o4⟩ := dq_ok hd0 (dok_dg x)
 rw [dv_dg] at o3
 have hdv := fun H => divided_c x d hx hd0 hd H
 have hnm := fun H => normal_k false (dq d (dg x)).1 o1 (by omega) H
 rw [o3, o2] at hnm
 have hm2 : x % d < 10000 := Nat.lt_trans (Nat.mod_lt _ (by omega)) hd
 have hnr := fun H => normal_k false (dg (x % d)) (dok_dg _) (Nat.le_trans (dg_len (k := 1) (by omega)) (by decide)) H
 rw [dv_dg] at hnr
 have hql : (dA (dq d (dg x)).1).length = (dg x).length * 1 := by simp [o2]
 generalize dA (dq d (dg x)).1 = qs at *
 generalize x / d = q at *
 generalize x % d = m at *
 simp only [nN_false] at hnm hnr ⊢
 unfold nR at *
 rw [dg_one hd hd0]
 generalize dA (dg q) = Q at *
 generalize (dg q).length = QL at *
 generalize dA (dg m) = M at *
 generalize (dg m).length = ML at *
 generalize dA (dg x) = X at *
 generalize (dg x).length = XL at *
 have hdk : ∀ H, ACall Tryz.prog 133 [.cs X XL, .cs (dA [d]) 1] H (fun y H' => ∃ c, y = .tup [.sl c 0 1 0 XL none, .cs M ML] ∧ H c = none ∧ H' = H.set c (.row qs 0)) := fun H =>
  ACall.told ((hdv H).mono fun y H' ⟨c, h1, h2, h3⟩ => ⟨y, _, AVle.refl _, h3, c, h1, h2, rfl⟩)
 generalize hD : dA [d] = D at *
 have hD1 : [d].length = 1 := rfl
 rw [hD1]
 clear hdv hD hD1
 refine zQ zU (dok _) Tryz.func116 rfl (by decide) rfl ?_
 (repeat' ((conv => whnf); first | left | refine zd ?_ | (refine Both.mk ?_ ?_ <;> intro hc <;> try exact wX hc) | (intro c hc; (try (simp only [AH.zA] at hc; repeat (have hn := hc.1; replace hc := hc.2)))))) <;> (try (conv => whnf))
 rename_i r2 z2 r3 n32 z3 r4 n43 n42 z4 n54 n53
 obtain ⟨r5, h5⟩ : ∃ r, r = c := ⟨c, rfl⟩
 rw [← h5] at hn n54 n53 ⊢
 have z5 : H r5 = none := h5 ▸ hc
 clear h5 hc
 clear c
 obtain ⟨nm, k0, k1⟩ : ∃ nm : Nat → Nat, nm 0 = r4 ∧ nm 1 = r5 := ⟨fun k => if k = 0 then r4 else r5, rfl, rfl⟩
 subst k0 k1
 refine Then.mk ?_
 (repeat' ((conv => whnf); first | left | refine zd ?_ | (refine Both.mk ?_ ?_ <;> intro hc <;> try exact wX hc) | (intro c hc; (try (simp only [AH.zA] at hc; repeat (have hn := hc.1; replace hc := hc.2)))))) <;> (try (conv => whnf))
 refine (hdk _).mono ?_
 rintro y H' ⟨c9, rfl, h9, rfl⟩
 have h9' := h9
 simp only [AH.zA] at h9'
 obtain ⟨m1, m2, m3, m4, m5⟩ := h9'
 (repeat' ((conv => whnf); first | left | refine zd ?_ | (refine Both.mk ?_ ?_ <;> intro hc <;> try exact wX hc) | (intro c hc; (try (simp only [AH.zA] at hc; repeat (have hn := hc.1; replace hc := hc.2)))))) <;> (try (conv => whnf))
 refine Then.mk ?_
 (repeat' ((conv => whnf); first | left | refine zd ?_ | (refine Both.mk ?_ ?_ <;> intro hc <;> try exact wX hc) | (intro c hc; (try (simp only [AH.zA] at hc; repeat (have hn := hc.1; replace hc := hc.2)))))) <;> (try (conv => whnf))
 refine ACall.frz (pre := [_]) (post := []) (AH.zC _ _ _) hql ?_
 rw [AH.del_set _ _ _ h9]
 (repeat' ((conv => whnf); first | left | refine zg ?_ (hnm _) | refine zgg ?_ (hnm _) | refine zd ?_ | (refine Both.mk ?_ ?_ <;> intro hc <;> try exact wX hc) | (intro c hc; (try (simp only [AH.zA] at hc; repeat (have hn := hc.1; replace hc := hc.2)))) | (refine ACall.to (hnm _) ?_))) <;> (try (conv => whnf))
 refine Then.mk ?_
 (repeat' ((conv => whnf); first | left | refine zg ?_ (hnr _) | refine zgg ?_ (hnr _) | refine zd ?_ | (refine Both.mk ?_ ?_ <;> intro hc <;> try exact wX hc) | (intro c hc; (try (simp only [AH.zA] at hc; repeat (have hn := hc.1; replace hc := hc.2)))) | (refine ACall.to (hnr _) ?_))) <;> (try (conv => whnf))
 refine Then.mk ?_
 (repeat' ((conv => whnf); first | left | refine zd ?_ | (refine Both.mk ?_ ?_ <;> intro hc <;> try exact wX hc) | (intro c hc; (try (simp only [AH.zA] at hc; repeat (have hn := hc.1; replace hc := hc.2)))))) <;> (try (conv => whnf))
 refine Then.mk ?_
 (repeat' ((conv => whnf); first | left | refine zd ?_ | (refine Both.mk ?_ ?_ <;> intro hc <;> try exact wX hc) | (intro c hc; (try (simp only [AH.zA] at hc; repeat (have hn := hc.1; replace hc := hc.2)))))) <;> (try (conv => whnf))
 refine Then.mk ?_
 refine AWq.zI ?_
 refine AWq.drawK mo [(4, 0), (5, 1)] nm ?_ (by decide +kernel) ?_
 ·intro a b ha hb hab
  simp at ha hb
  rcases ha with rfl | rfl <;> rcases hb with rfl | rfl <;> first | rfl | exact absurd hab n54 | exact absurd hab (Ne.symm n54)
 (repeat' ((conv => whnf); first | refine DrawK.consD ?_ | refine DrawK.nil ?_ | (apply And.intro; (focus (repeat (first | exact trivial | (refine And.intro (a := _ ≠ _) (b := offR _ _ _) ?_ ?_; (first | assumption | omega | exact Ne.symm (by assumption) | exact AH.ne_none (by assumption) (by assumption) | exact AH.none_ne (by assumption) (by assumption) | exact (AH.none_set (by assumption)).1 | exact Ne.symm (AH.none_set (by assumption)).1)))); done)) | refine Then.mk ?_ | left | refine zd ?_ | (refine Both.mk ?_ ?_ <;> intro hc <;> try exact wX hc) | (intro c hc; (try (simp only [AH.zA] at hc; repeat (have hn := hc.1; replace hc := hc.2)))))) <;> (try (conv => whnf))
 (first | ((repeat' (first | (with_reducible exact HLe.refl _) | (with_reducible assumption) | apply HLe.push | refine HLe.set_of _ _ ?_ ?_ | refine HLe.del _ ?_ ?_ | rw [AH.zR _ _ (by (first | assumption | omega | exact Ne.symm (by assumption) | exact AH.ne_none (by assumption) (by assumption) | exact AH.none_ne (by assumption) (by assumption) | exact (AH.none_set (by assumption)).1 | exact Ne.symm (AH.none_set (by assumption)).1))])); done) | ((repeat' (first | refine HLe.set_of _ _ ?_ ?_ | refine HLe.del _ ?_ ?_)) <;> (first | assumption | exact HLe.refl _ | exact HLe.none (by assumption) (by assumption) | (simp_all; done))))
open Go.Fw Go
def bvs (ls : List (List UInt8)) : List AV := ls.map fun x => .cs (u8s x) x.length
@[simp] theorem bvs_len (ls : List (List UInt8)) : (bvs ls).length = ls.length := by simp [bvs]
open Go.Fw Go
theorem plc_bd {c : Nat → Nat} {B : Nat} : ∀ {n : Nat}, (∀ k, k < n → c k ≤ B) → plc c n ≤ n * B
 | 0, _ => by simp [plc]
 | n + 1, h => by
  have h1 := plc_bd (n := n) (fun k hk => h k (by omega))
  have h2 := h n (by omega)
  show plc c n + c n ≤ (n + 1) * B
  rw [Nat.add_mul]; omega
set_option maxRecDepth 8000 in
theorem rplace_c {H : AH} {p q n v : Nat} {c : Nat → Nat} (hp : H p = some (.row [.sl q v 1 0 n none] 0)) (hq : H q = some (.row (iL n fun k => (c k : Int)) v)) (hn : n ≤ 1024) (hb : ∀ k, k < n → c k ≤ 40000) (s : Nat) (hs : s ≤ n) :
  ACall Tryz.prog 122 [.ptr p 0 0, .int .i64 s] H (fun y H' => y = .int .i64 (plc c s : Nat) ∧ H' = H) := by
 have hcell := fun i (hi : i < n) => iL_gi (fun k => (c k : Int)) hi
 have hlen : (iL n fun k => (c k : Int)).length = n := iL_len _ _
 have hbd : ∀ i, i ≤ n → plc c i ≤ 50000000 := fun i hi => by
  have h1 := plc_bd (B := 40000) (c := c) (n := i) (fun k hk => hb k (by omega))
  have h2 : i * 40000 ≤ 1024 * 40000 := Nat.mul_le_mul_right _ (by omega)
  omega
 generalize (iL n fun k => (c k : Int)) = cells at *
 refine zQ zU (dok _) Tryz.func122 rfl (by decide) rfl ?_
 (repeat' ((conv => whnf); first | refine Then.mk ?_ | left | refine zd ?_ | (refine Both.mk ?_ ?_ <;> intro hc <;> try exact wX hc) | (intro c hc; (try (simp only [AH.zA] at hc; repeat (have hn := hc.1; replace hc := hc.2)))))) <;> (try (conv => whnf))
 refine zT (σ := Nat) (5 :: 6 :: 7 :: 8 :: 9 :: 10 :: 11 :: 12 :: 13 :: 14 :: 15 :: 16 :: 17 :: 18 :: 19 :: 20 :: []) (fun i => [(6, .int .i64 i), (5, .int .i64 (plc c i : Nat))]) (fun _ => H) (fun i => i ≤ s) (fun i => s - i) 0 rfl (Nat.zero_le _) ⟨rfl, rfl, trivial⟩ (HLe.refl _) ?_
 intro i hi
 dsimp only at hi ⊢
 refine AWp.of zU (dok _) rfl ?_
 have hpl := hbd i (by omega)
 by_cases his : i < s
 ·have hg := hcell i (by omega)
  have hci := hb i (by omega)
  have hps : plc c (i + 1) = plc c i + c i := rfl
  (repeat' ((conv => whnf); first | refine Then.mk ?_ | left | refine zd ?_ | (refine Both.mk ?_ ?_ <;> intro hc <;> try exact wX hc) | (intro c hc; (try (simp only [AH.zA] at hc; repeat (have hn := hc.1; replace hc := hc.2)))))) <;> (try (conv => whnf))
  exact ⟨i + 1, by omega, by omega, ⟨congrArg (AV.int .i64) (by omega), congrArg (AV.int .i64) (by rw [hps]; omega), trivial⟩, HLe.refl _⟩
 ·have hie : i = s := by omega
  subst hie
  (repeat' ((conv => whnf); first | refine Then.mk ?_ | left | refine zd ?_ | (refine Both.mk ?_ ?_ <;> intro hc <;> try exact wX hc) | (intro c hc; (try (simp only [AH.zA] at hc; repeat (have hn := hc.1; replace hc := hc.2)))))) <;> (try (conv => whnf))
structure RmAt (G : AH) (p q n : Nat) (c : Nat → Nat) : Prop where
 hp : G p = some (.row [.sl q n 1 0 n none] 0)
 hq : G q = some (.row (iL n fun k => (c k : Int)) n)
 ne : p ≠ q
 ok : MdOk n c
def rmG (G : AH) (q n : Nat) (c : Nat → Nat) : AH := G.set q (.row (iL n fun k => (c k : Int)) n)
theorem RmAt.set {G : AH} {p q n : Nat} {c d : Nat → Nat} (h : RmAt G p q n c) (hd : MdOk n d) : RmAt (rmG G q n d) p q n d :=
 ⟨by unfold rmG; rw [AH.zR _ _ h.ne]; exact h.hp, AH.zC _ _ _, h.ne, hd⟩
theorem RmAt.same {G G' : AH} {p q n : Nat} {c : Nat → Nat} (h : RmAt G p q n c) (h1 : G' p = G p) (h2 : G' q = G q) : RmAt G' p q n c :=
 ⟨by rw [h1]; exact h.hp, by rw [h2]; exact h.hq, h.ne, h.ok⟩
set_option maxRecDepth 8000 in
set_option maxHeartbeats 4000000 in
theorem rsee_c {H : AH} {p q n : Nat} {c : Nat → Nat} (h : RmAt H p q n c) (s : Nat) (hs : s < n) :
  ACall Tryz.prog 123 [.ptr p 0 0, .int .i64 s] H (fun y H' => y = .int .i64 0 ∧ H' = rmG H q n (seeM n c s)) := by
 obtain ⟨hp, hq, hne, hok⟩ := h
 have hn := hok.hn
 have hqp := Ne.symm hne
 have hcs := hok.le hs
 have hpu : ∀ k, k < n → upM c s k ≤ 32800 := fun k hk => by
  have := hok.le hk
  unfold upM; split <;> omega
 have hu : plc (upM c s) n ≤ 32800 := by
  have := plc_add (c := c) (s := s) (a := 32) (n := n)
  rw [if_pos hs] at this
  have h2 := hok.sum
  have : plc (upM c s) n = plc c n + 32 := this
  omega
 have hpl := rplace_c (H := rmG H q n (upM c s)) (p := p) (q := q) (n := n) (v := n) (c := upM c s) (by unfold rmG; rw [AH.zR _ _ hne]; exact hp) (AH.zC _ _ _) hn (fun k hk => by have := hpu k hk; omega) n (Nat.le_refl _)
 obtain ⟨cells, hce⟩ : ∃ cells, cells = iL n fun k => (c k : Int) := ⟨_, rfl⟩
 have hg : cells[(s : Int).toNat]? = some (.int .i64 (c s)) := by rw [hce]; exact iL_gi (fun k => (c k : Int)) hs
 have hlen : cells.length = n := by rw [hce]; exact iL_len _ _
 have hw : H.set q (.row (wrA cells (0 + (s : Int).toNat * 1) [.int .i64 ((c s : Int) + 32)]) n) = rmG H q n (upM c s) := by
  unfold rmG
  refine congrArg (fun l => H.set q (.row l n)) ?_
  rw [Nat.zero_add, Nat.mul_one, Int.toNat_natCast, hce, iL_wr _ hs]
  refine iL_congr fun k hk => ?_
  unfold upM
  split
  ·rename_i e; rw [e]; omega
  ·rfl
 rw [← hce] at hq
 refine zQ zU (dok _) Tryz.func123 rfl (by decide) rfl ?_
 (repeat' ((conv => whnf); first | refine Then.mk ?_ | left | refine zd ?_ | (refine Both.mk ?_ ?_ <;> intro hc <;> try exact wX hc) | (intro c hc; (try (simp only [AH.zA] at hc; repeat (have hn := hc.1; replace hc := hc.2)))))) <;> (try (conv => whnf))
 have hpl : ACall Tryz.prog 122 [.ptr p 0 0, .int .i64 n] (H.set q (.row (wrA cells (0 + (s : Int).toNat * 1) [.int .i64 ((c s : Int) + 32)]) n)) (fun y H' => y = .int .i64 (plc (upM c s) n : Nat) ∧ H' = rmG H q n (upM c s)) := by rw [hw]; exact hpl
 refine ACall.to hpl ?_
 generalize hT : plc (upM c s) n = T at *
 by_cases hbig : 32768 < T
 ·(repeat' ((conv => whnf); first | refine Then.mk ?_ | left | refine zd ?_ | (refine Both.mk ?_ ?_ <;> intro hc <;> try exact wX hc) | (intro c hc; (try (simp only [AH.zA] at hc; repeat (have hn := hc.1; replace hc := hc.2)))))) <;> (try (conv => whnf))
  refine zT (σ := Nat) (5 :: 39 :: 40 :: 41 :: 42 :: 43 :: 44 :: 45 :: 46 :: 47 :: 48 :: 49 :: 50 :: 51 :: 52 :: 53 :: 54 :: 55 :: 56 :: 57 :: 58 :: 59 :: 60 :: 61 :: 62 :: []) (fun i => [(5, .int .i64 i)]) (fun i => rmG H q n fun k => if k < i then (upM c s k + 1) / 2 else upM c s k) (fun i => i ≤ n) (fun i => n - i) 0 rfl (Nat.zero_le _) ⟨rfl, trivial⟩ ?_ ?_
  ·refine HLe.of_eq ?_
   unfold rmG
   exact congrArg (fun l => H.set q (.row l n)) (iL_congr fun k hk => by dsimp only; rw [if_neg (by omega)])
  ·intro i hi
   dsimp only at hi ⊢
   refine AWp.of zU (dok _) rfl ?_
   have kp : (rmG H q n fun k => if k < i then (upM c s k + 1) / 2 else upM c s k) p = some (.row [.sl q n 1 0 n none] 0) := by unfold rmG; rw [AH.zR _ _ hne]; exact hp
   have kq : (rmG H q n fun k => if k < i then (upM c s k + 1) / 2 else upM c s k) q = some (.row (iL n fun k => ((if k < i then (upM c s k + 1) / 2 else upM c s k : Nat) : Int)) n) := AH.zC _ _ _
   by_cases hin : i < n
   ·obtain ⟨z, hz⟩ : ∃ z, z = iL n fun k => ((if k < i then (upM c s k + 1) / 2 else upM c s k : Nat) : Int) := ⟨_, rfl⟩
    have g1 : z[(i : Int).toNat]? = some (.int .i64 (upM c s i)) := by
     rw [hz]; refine (iL_gi _ hin).trans ?_
     rw [if_neg (by omega)]
    have hzl : z.length = n := by rw [hz]; exact iL_len _ _
    have hui := hpu i hin
    have ht : (((upM c s i : Int) + 1)).tdiv 2 = ((upM c s i + 1) / 2 : Nat) := by
     rw [Int.tdiv_eq_ediv_of_nonneg (by omega)]; omega
    have hx : (upM c s i + 1) / 2 ≤ 16400 := by omega
    have hnew : ((rmG H q n fun k => if k < i then (upM c s k + 1) / 2 else upM c s k).set q (.row (wrA z (0 + (i : Int).toNat * 1) [.int .i64 ((upM c s i + 1) / 2 : Nat)]) n)) = rmG H q n fun k => if k < i + 1 then (upM c s k + 1) / 2 else upM c s k := by
     unfold rmG
     rw [AH.zS]
     refine congrArg (fun l => H.set q (.row l n)) ?_
     rw [Nat.zero_add, Nat.mul_one, Int.toNat_natCast, hz, iL_wr _ hin]
     refine iL_congr fun k hk => ?_
     dsimp only
     by_cases e : k = i
     ·subst e; rw [if_pos rfl, if_pos (by omega)]
     ·rw [if_neg e]
      by_cases e2 : k < i
      ·rw [if_pos e2, if_pos (by omega)]
      ·rw [if_neg e2, if_neg (by omega)]
    rw [← hz] at kq
    have hdv : IntKind.i64.wrap (((upM c s i : Int) + 1).tdiv 2) = ((upM c s i + 1) / 2 : Nat) := by rw [ht, IntKind.wrap_i64]; omega
    generalize (rmG H q n fun k => if k < i then (upM c s k + 1) / 2 else upM c s k) = G at *
    generalize upM c s i = u at *
    (repeat' ((conv => whnf); first | refine Then.mk ?_ | left | refine zd ?_ | (refine Both.mk ?_ ?_ <;> intro hc <;> try exact wX hc) | (intro c hc; (try (simp only [AH.zA] at hc; repeat (have hn := hc.1; replace hc := hc.2)))))) <;> (try (conv => whnf))
    refine ⟨i + 1, hin, by omega, ⟨congrArg (AV.int .i64) (by omega), trivial⟩, HLe.of_eq ?_⟩
    dsimp only
    rw [← hnew]
    rfl
   ·have hie : i = n := by omega
    have hfin : (rmG H q n fun k => if k < i then (upM c s k + 1) / 2 else upM c s k) = rmG H q n (seeM n c s) := by
     have e : seeM n c s = fun k => (upM c s k + 1) / 2 := if_pos (by omega)
     rw [e]
     unfold rmG
     exact congrArg (fun l => H.set q (.row l n)) (iL_congr fun k hk => by dsimp only; rw [if_pos (by omega)])
    generalize (rmG H q n fun k => if k < i then (upM c s k + 1) / 2 else upM c s k) = G at *
    have hcl : (iL n fun k => ((if k < i then (upM c s k + 1) / 2 else upM c s k : Nat) : Int)).length = n := iL_len _ _
    (repeat' ((conv => whnf); first | refine Then.mk ?_ | left | refine zd ?_ | (refine Both.mk ?_ ?_ <;> intro hc <;> try exact wX hc) | (intro c hc; (try (simp only [AH.zA] at hc; repeat (have hn := hc.1; replace hc := hc.2)))))) <;> (try (conv => whnf))
    exact hfin
 ·have hfin : rmG H q n (upM c s) = rmG H q n (seeM n c s) := by
   have e : seeM n c s = upM c s := if_neg (by omega)
   rw [e]
  rw [← hfin]
  generalize rmG H q n (upM c s) = G at *
  (repeat' ((conv => whnf); first | refine Then.mk ?_ | left | refine zd ?_ | (refine Both.mk ?_ ?_ <;> intro hc <;> try exact wX hc) | (intro c hc; (try (simp only [AH.zA] at hc; repeat (have hn := hc.1; replace hc := hc.2)))))) <;> (try (conv => whnf))
theorem iL_snoc1 (n : Nat) : iL n (fun _ => 1) ++ [.int .i64 1] = iL (n + 1) fun _ => 1 := by
 have h := k_iL_app (n := n) (m := 1) (fun _ => 1) (fun _ => 1)
 have e : iL 1 (fun _ => (1 : Int)) = [.int .i64 1] := rfl
 rw [e] at h
 rw [h]
 exact iL_congr fun k hk => by split <;> rfl
set_option maxRecDepth 8000 in
theorem rnew_c (n : Nat) (hn : n ≤ 1024) (H : AH) :
  ACall Tryz.prog 115 [.int .i64 n] H (fun y H' => ∃ p q, H p = none ∧ H q = none ∧ p ≠ q ∧ y = .ptr p 0 0 ∧ H' = (rmG H q n fun _ => 1).set p (.row [.sl q n 1 0 n none] 0)) := by
 refine zQ zU (dok _) Tryz.func115 rfl (by decide) rfl ?_
 (repeat' ((conv => whnf); first | left | refine zd ?_ | (refine Both.mk ?_ ?_ <;> intro hc <;> try exact wX hc) | (intro c hc; (try (simp only [AH.zA] at hc; repeat (have hn := hc.1; replace hc := hc.2)))))) <;> (try (conv => whnf))
 refine Then.mk ?_
 (repeat' ((conv => whnf); first | left | refine zd ?_ | (refine Both.mk ?_ ?_ <;> intro hc <;> try exact wX hc) | (intro c hc; (try (simp only [AH.zA] at hc; repeat (have hn := hc.1; replace hc := hc.2)))))) <;> (try (conv => whnf))
 refine Then.mk (AWq.in ?_)
 refine AWp_nilC 1 [] [] (p := c) (u := 0) (AH.zC _ _ _) fun q hq hqc => ?_
 have hqH := (AH.none_set hq).2
 have hcq := Ne.symm hqc
 refine AWp.of zU (dok _) rfl ?_
 (repeat' ((conv => whnf); first | refine Then.mk ?_ | left | refine zd ?_ | (refine Both.mk ?_ ?_ <;> intro hc <;> try exact wX hc) | (intro c hc; (try (simp only [AH.zA] at hc; repeat (have hn := hc.1; replace hc := hc.2)))))) <;> (try (conv => whnf))
 refine zT (σ := Nat) (4 :: 7 :: 8 :: 9 :: 10 :: 11 :: 12 :: 13 :: 14 :: 15 :: 16 :: 17 :: 18 :: 19 :: 20 :: []) (fun i => [(4, .int .i64 i)]) (fun i => (AH.set H q (.row (iL i fun _ => 1) i)).set c (.row [.sl q i 1 0 i none] 0)) (fun i => i ≤ n) (fun i => n - i) 0 rfl (Nat.zero_le _) ⟨rfl, trivial⟩ ?_ ?_
 ·exact HLe.of_eq ((AH.set_back H hcq _ _ _).trans (AH.set_comm _ _ _ hcq)).symm
 ·intro i hi
  dsimp only at hi ⊢
  refine AWp.of zU (dok _) rfl ?_
  have kc : ((AH.set H q (.row (iL i fun _ => 1) i)).set c (.row [.sl q i 1 0 i none] 0)) c = some (.row [.sl q i 1 0 i none] 0) := AH.zC _ _ _
  have kq : ((AH.set H q (.row (iL i fun _ => 1) i)).set c (.row [.sl q i 1 0 i none] 0)) q = some (.row (iL i fun _ => 1) i) := by rw [AH.zR _ _ hqc, AH.zC]
  have hil : (iL i fun _ => 1).length = i := iL_len _ _
  have hrm : ((AH.set H q (.row (iL i fun _ => 1) i)).set c (.row [.sl q i 1 0 i none] 0)) = (rmG H q i fun _ => 1).set c (.row [.sl q i 1 0 i none] 0) := rfl
  have hs : ∀ A B, (((AH.set H q (.row (iL i fun _ => 1) i)).set c (.row [.sl q i 1 0 i none] 0)).set q A).set c B = (AH.set H q A).set c B := fun A B => by
   rw [AH.set_back _ hqc, AH.zS]
  have hsn := iL_snoc1 i
  generalize ((AH.set H q (.row (iL i fun _ => 1) i)).set c (.row [.sl q i 1 0 i none] 0)) = G at *
  by_cases hin : i < n
  ·(repeat' ((conv => whnf); first | refine Then.mk ?_ | left | refine zd ?_ | (refine Both.mk ?_ ?_ <;> intro hc <;> try exact wX hc) | (intro c hc; (try (simp only [AH.zA] at hc; repeat (have hn := hc.1; replace hc := hc.2)))))) <;> (try (conv => whnf))
   refine ⟨i + 1, hin, by omega, ⟨congrArg (AV.int .i64) (by omega), trivial⟩, HLe.of_eq ?_⟩
   dsimp only
   rw [← hs, ← hsn]
   rfl
  ·have hie : i = n := by omega
   subst hie
   (repeat' ((conv => whnf); first | refine Then.mk ?_ | left | refine zd ?_ | (refine Both.mk ?_ ?_ <;> intro hc <;> try exact wX hc) | (intro c hc; (try (simp only [AH.zA] at hc; repeat (have hn := hc.1; replace hc := hc.2)))))) <;> (try (conv => whnf))
   exact ⟨c, q, by assumption, hqH, hcq, rfl, hrm⟩
open Go.Fw Go
theorem ofN_c (m : Nat) (hm : m ≤ 9223372036854775807) (H : AH) : ACall Tryz.prog 117 [.int .i64 (m : Nat)] H (fun y H' => y = nR false m ∧ H' = H) := by
 have := of_c (m : Int) (by omega) H
 rw [show decide ((m : Int) < 0) = false from by simp, show ab (m : Int) = m from rfl, nN_false] at this
 exact this
theorem addN_c (x y : Nat) (hx : (dg x).length ≤ 50000000) (hy : (dg y).length ≤ 50000000) (H : AH) : ACall Tryz.prog 124 [nR false x, nR false y] H (fun v H' => v = nR false (x + y) ∧ H' = H) := by
 have := add_c false false x y hx hy H
 rwa [if_pos rfl, nN_false] at this
theorem mulN_c (x y : Nat) (hx : (dg x).length ≤ 50000000) (hy0 : y ≠ 0) (hy : y < 10000) (H : AH) : ACall Tryz.prog 119 [nR false x, nR false y] H (fun v H' => v = nR false (x * y) ∧ H' = H) := mul_c false false x y hx hy0 hy H
theorem divN_c (x d : Nat) (hx : (dg x).length ≤ 50000000) (hd0 : d ≠ 0) (hd : d < 10000) (H : AH) : ACall Tryz.prog 116 [nR false x, nR false d] H (fun y H' => y = .tup [nR false (x / d), nR false (x % d)] ∧ H' = H) := div_c x d hx hd0 hd H
theorem dg_room {V L : Nat} (h : V < 4294967296 * 256 ^ L) : (dg V).length ≤ L + 3 := by
 refine dg_len (k := L + 3) (Nat.lt_of_lt_of_le h ?_)
 rw [Nat.pow_add, Nat.mul_comm]
 exact Nat.mul_le_mul (Nat.pow_le_pow_left (by decide) _) (by decide)
def rcL (σ : Cs) : List AV := [.bool false, .cs (dA (dg σ.V)) (dg σ.V).length, .int .i64 σ.W, .int .i64 σ.L]
def rcG (G : AH) (c : Nat) (σ : Cs) : AH := G.set c (.row (rcL σ) 0)
set_option maxRecDepth 8000 in
set_option maxHeartbeats 4000000 in
theorem cstep_c {G : AH} {w : Nat} {σ : Cs} {p k t : Nat} (hG : G w = some (.row (rcL σ) 0)) (hc : CsOk σ) (hs : StOk p k t) (hL : σ.L ≤ 20000000) :
  ACall Tryz.prog 97 [.ptr w 0 0, .int .i64 p, .int .i64 k, .int .i64 t] G (fun y H' => y = .tup [] ∧ H' = rcG G w (stp σ p k t)) := by
 obtain ⟨s1, s2, s3⟩ := hs
 obtain ⟨r1, r2, r3⟩ := nrw_r hc (t := t) (by omega) s3
 obtain ⟨n1, n2, n3, n4⟩ := nrw_ok hc ⟨s1, s2, s3⟩
 have hroom := hc.room
 have hlo := hc.lo
 have hhi := hc.hi
 have e1 : IntKind.i64.wrap ((σ.W : Int).tdiv t) = (σ.W / t : Nat) := by
  rw [← Int.ofNat_tdiv, IntKind.wrap_i64]; omega
 have hb2 : σ.W / t * k ≤ σ.W := by
  have : (nrw σ p k t).W = σ.W / t * k := rfl
  omega
 have hVn : σ.V + σ.W / t * p + σ.W / t * k ≤ σ.V + σ.W := n3
 have hW5 : 512 ≤ σ.W / t * k := n1
 have hst : stp σ p k t = shf 3 ⟨σ.V + σ.W / t * p, σ.W / t * k, σ.L⟩ := rfl
 rw [hst]
 clear hst n1 n2 n3
 have e2 : IntKind.i64.wrap (((σ.W / t : Nat) : Int) * p) = (σ.W / t * p : Nat) := by
  rw [← Int.natCast_mul, IntKind.wrap_i64]; omega
 have e3 : IntKind.i64.wrap (((σ.W / t : Nat) : Int) * k) = (σ.W / t * k : Nat) := by
  rw [← Int.natCast_mul, IntKind.wrap_i64]; omega
 have hd1 : (dg σ.V).length ≤ σ.L + 3 := dg_room (by omega)
 have o1 := fun H => ofN_c (σ.W / t * p) (by omega) H
 have hd2 : (dg (σ.W / t * p)).length ≤ 3 := dg_len (k := 3) (by omega)
 have ad := fun H => addN_c σ.V (σ.W / t * p) (by omega) (by omega) H
 generalize σ.W / t * p = mp at *
 generalize σ.W / t * k = mk at *
 generalize σ.W / t = q at *
 unfold rcL at hG
 have o2 := fun H => ofN_c 256 (by decide) H
 refine zQ zU (dok _) Tryz.func97 rfl (by decide) rfl ?_
 (repeat' ((conv => whnf); first | left | refine zg ?_ (o1 _) | refine zg ?_ (ad _) | refine zgg ?_ (o1 _) | refine zgg ?_ (ad _) | refine zd ?_ | (refine Both.mk ?_ ?_ <;> intro hc <;> try exact wX hc) | (intro c hc; (try (simp only [AH.zA] at hc; repeat (have hn := hc.1; replace hc := hc.2)))) | (refine ACall.to (o1 _) ?_) | (refine ACall.to (ad _) ?_))) <;> (try (conv => whnf))
 repeat (refine Then.mk ?_; (repeat' ((conv => whnf); first | left | refine zg ?_ (o1 _) | refine zg ?_ (ad _) | refine zgg ?_ (o1 _) | refine zgg ?_ (ad _) | refine zd ?_ | (refine Both.mk ?_ ?_ <;> intro hc <;> try exact wX hc) | (intro c hc; (try (simp only [AH.zA] at hc; repeat (have hn := hc.1; replace hc := hc.2)))) | (refine ACall.to (o1 _) ?_) | (refine ACall.to (ad _) ?_))) <;> (try (conv => whnf)))
 refine zT (σ := Nat × Cs) (33 :: 34 :: 35 :: 36 :: 37 :: 38 :: 39 :: 40 :: 41 :: 42 :: 43 :: 44 :: 45 :: 46 :: 47 :: 48 :: 49 :: 50 :: 51 :: 52 :: 53 :: 54 :: 55 :: 56 :: 57 :: 58 :: 59 :: 60 :: 61 :: []) (fun _ => []) (fun (f, τ) => rcG G w τ) (fun (f, τ) => f ≤ 3 ∧ shf f τ = shf 3 ⟨σ.V + mp, mk, σ.L⟩ ∧ 16777216 ≤ τ.W * 256 ^ f ∧ τ.W ≤ 4294967296 ∧ 1 ≤ τ.W ∧ τ.V + τ.W ≤ 4294967296 * 256 ^ τ.L ∧ τ.L + f ≤ σ.L + 3) (fun (f, τ) => f) (3, ⟨σ.V + mp, mk, σ.L⟩) rfl ?_ trivial ?_ ?_
 ·refine ⟨Nat.le_refl _, rfl, ?_, by show mk ≤ _; omega, by show 1 ≤ mk; omega, ?_, Nat.le_refl _⟩
  ·show 16777216 ≤ mk * 256 ^ 3
   rw [show (256 : Nat) ^ 3 = 16777216 by decide]; omega
  ·show σ.V + mp + mk ≤ 4294967296 * 256 ^ σ.L
   omega
 ·refine HLe.of_eq ?_
  unfold rcG
  rw [AH.zS]
  rfl
 ·rintro ⟨f, τ⟩ ⟨i1, i2, i3, i4, i5, i6, i7⟩
  dsimp only at i1 i2 i3 i4 i5 i6 i7 ⊢
  refine AWp.of zU (dok _) rfl ?_
  have kw : rcG G w τ w = some (.row [.bool false, .cs (dA (dg τ.V)) (dg τ.V).length, .int .i64 τ.W, .int .i64 τ.L] 0) := AH.zC _ _ _
  have hg : ∀ o, (rcG G w τ).set w o = G.set w o := fun o => AH.zS _ _ _ _
  by_cases hlt : τ.W < 16777216
  ·obtain ⟨j, rfl⟩ : ∃ j, f = j + 1 := ⟨f - 1, by
    have : f ≠ 0 := fun e => by rw [e, Nat.pow_zero, Nat.mul_one] at i3; omega
    omega⟩
   have hsh : shf (j + 1) τ = shf j ⟨τ.V * 256, τ.W * 256, τ.L + 1⟩ := by
    show (if τ.W < 16777216 then _ else _) = _
    rw [if_pos hlt]
   have hd3 : (dg τ.V).length ≤ τ.L + 3 := dg_room (by omega)
   have ml := fun H => mulN_c τ.V 256 (by omega) (by decide) (by decide) H
   have hdw : IntKind.i64.wrap (256 * (τ.W : Int)) = ((τ.W * 256 : Nat) : Int) := by rw [IntKind.wrap_i64]; omega
   have hp : (256 : Nat) ^ (j + 1) = 256 ^ j * 256 := Nat.pow_succ _ _
   have hpl : (256 : Nat) ^ (τ.L + 1) = 256 ^ τ.L * 256 := Nat.pow_succ _ _
   have hnext : j ≤ 3 ∧ shf j ⟨τ.V * 256, τ.W * 256, τ.L + 1⟩ = shf 3 ⟨σ.V + mp, mk, σ.L⟩ ∧ 16777216 ≤ τ.W * 256 * 256 ^ j ∧ τ.W * 256 ≤ 4294967296 ∧ 1 ≤ τ.W * 256 ∧ τ.V * 256 + τ.W * 256 ≤ 4294967296 * 256 ^ (τ.L + 1) ∧ τ.L + 1 + j ≤ σ.L + 3 := by
    refine ⟨by omega, by rw [← hsh]; exact i2, ?_, by omega, by omega, ?_, by omega⟩
    ·rw [hp] at i3
     rw [Nat.mul_assoc, Nat.mul_comm 256]; exact i3
    ·rw [hpl]
     generalize 256 ^ τ.L = P at *
     omega
   generalize rcG G w τ = G1 at *
   (repeat' ((conv => whnf); first | refine Then.mk ?_ | left | refine zg ?_ (o2 _) | refine zg ?_ (ml _) | refine zgg ?_ (o2 _) | refine zgg ?_ (ml _) | refine zd ?_ | (refine Both.mk ?_ ?_ <;> intro hc <;> try exact wX hc) | (intro c hc; (try (simp only [AH.zA] at hc; repeat (have hn := hc.1; replace hc := hc.2)))) | (refine ACall.to (o2 _) ?_) | (refine ACall.to (ml _) ?_))) <;> (try (conv => whnf))
   refine ⟨(j, ⟨τ.V * 256, τ.W * 256, τ.L + 1⟩), hnext, Nat.lt_succ_self _, trivial, HLe.of_eq ?_⟩
   dsimp only
   rw [AH.zS, AH.zS, hg]
   rfl
  ·have hdone := shf_done (σ := τ) (by omega) f
   have hfin : shf 3 ⟨σ.V + mp, mk, σ.L⟩ = τ := by rw [← i2, hdone]
   rw [hfin]
   generalize rcG G w τ = G1 at *
   (repeat' ((conv => whnf); first | refine Then.mk ?_ | left | refine zd ?_ | (refine Both.mk ?_ ?_ <;> intro hc <;> try exact wX hc) | (intro c hc; (try (simp only [AH.zA] at hc; repeat (have hn := hc.1; replace hc := hc.2)))))) <;> (try (conv => whnf))
set_option maxRecDepth 8000 in
theorem csym_c {G : AH} {w p q n : Nat} {σ : Cs} {c : Nat → Nat} {s : Nat} (hG : G w = some (.row (rcL σ) 0)) (hm : RmAt G p q n c) (h1 : p ≠ w) (h2 : q ≠ w) (hs : s < n) (hc : CsOk σ) (hL : σ.L ≤ 20000000) :
  ACall Tryz.prog 96 [.ptr w 0 0, .ptr p 0 0, .int .i64 s] G (fun y H' => y = .tup [] ∧ H' = rmG (rcG G w (stp σ (plc c s) (c s) (plc c n))) q n (seeM n c s)) := by
 have hb : ∀ k, k < n → c k ≤ 40000 := fun k hk => by have := hm.ok.le hk; omega
 have hn := hm.ok.hn
 have hp := rplace_c hm.hp hm.hq hn hb s (by omega)
 have hpn := rplace_c hm.hp hm.hq hn hb n (by omega)
 have hst : StOk (plc c s) (c s) (plc c n) := ⟨hm.ok.pos s hs, plc_one hs, hm.ok.sum⟩
 have hstep := cstep_c hG hc hst hL
 have hsee := rsee_c (hm.same (G' := rcG G w (stp σ (plc c s) (c s) (plc c n))) (AH.zR _ _ h1) (AH.zR _ _ h2)) s hs
 have hmp := hm.hp
 have hmq := hm.hq
 have hcell := iL_gi (fun k => (c k : Int)) hs
 have hlen : (iL n fun k => (c k : Int)).length = n := iL_len _ _
 generalize (iL n fun k => (c k : Int)) = cells at *
 generalize plc c n = T at *
 generalize plc c s = A at *
 refine zQ zU (dok _) Tryz.func96 rfl (by decide) rfl ?_
 (repeat' ((conv => whnf); first | refine AWq.drawM ([24], []) (by decide +kernel) ?_ | refine Then.mk ?_ | left | refine zg ?_ (hp) | refine zg ?_ (hpn) | refine zg ?_ (hstep) | refine zg ?_ (hsee) | refine zgg ?_ (hp) | refine zgg ?_ (hpn) | refine zgg ?_ (hstep) | refine zgg ?_ (hsee) | refine zd ?_ | (refine Both.mk ?_ ?_ <;> intro hc <;> try exact wX hc) | (intro c hc; (try (simp only [AH.zA] at hc; repeat (have hn := hc.1; replace hc := hc.2)))) | (refine ACall.to (hp) ?_) | (refine ACall.to (hpn) ?_) | (refine ACall.to (hstep) ?_) | (refine ACall.to (hsee) ?_))) <;> (try (conv => whnf))
 done
open Go.Fw Go
def led (V : Nat) (n : Nat) : List Nat := (List.range n).map fun i => V / 256 ^ i % 256
@[simp] theorem led_len (V n : Nat) : (led V n).length = n := by simp [led]
theorem led_succ (V n : Nat) : led V (n + 1) = led V n ++ [V / 256 ^ n % 256] := by simp [led, List.range_succ]
theorem led_at {V n i : Nat} (h : i < n) : (led V n).getD i 0 = V / 256 ^ i % 256 := by
 unfold led
 rw [List.getD_eq_getElem?_getD, List.getElem?_map, List.getElem?_range h]; rfl
theorem dig_led (V N i : Nat) (h : i < N) : ((dig N V).getD (N - 1 - i) 0).toNat = V / 256 ^ i % 256 := by
 rw [dig_getD _ _ _ (by omega), show N - 1 - (N - 1 - i) = i by omega]
 simp
theorem dg_le {x y : Nat} (h : x ≤ y) : (dg x).length ≤ (dg y).length := by
 by_cases hl : (dg y).length < (dg x).length
 ·have := dg_short hl; omega
 ·omega
set_option maxRecDepth 8000 in
set_option maxHeartbeats 4000000 in
theorem ccode_c {G : AH} {w : Nat} {σ : Cs} (hG : G w = some (.row (rcL σ) 0)) (hc : CsOk σ) (hL : σ.L ≤ 20000000) :
  ACall Tryz.prog 98 [.ptr w 0 0] G (fun y H' => y = .cs (u8s (codeS σ)) (codeS σ).length ∧ H' = G) := by
 refine ACall.back ?_
 have hroom := hc.room
 have hlo := hc.lo
 have hd1 : (dg σ.V).length ≤ σ.L + 3 := dg_room (by omega)
 unfold rcL at hG
 have o2 := fun H => ofN_c 256 (by decide) H
 obtain ⟨N, hN⟩ : ∃ N, N = σ.L + 4 := ⟨_, rfl⟩
 obtain ⟨V, hV⟩ : ∃ V, V = σ.V := ⟨_, rfl⟩
 have hcs : codeS σ = (dig N V).take (trimN (dig N V) N) := by
  unfold codeS trim
  rw [dig_len, ← hN, ← hV]
 rw [hcs]
 rw [← hV] at hd1 hG
 refine zQ zU (dok _) Tryz.func98 rfl (by decide) rfl ?_
 (repeat' ((conv => whnf); first | left | refine zd ?_ | (refine Both.mk ?_ ?_ <;> intro hc <;> try exact wX hc) | (intro c hc; (try (simp only [AH.zA] at hc; repeat (have hn := hc.1; replace hc := hc.2)))))) <;> (try (conv => whnf))
 refine Then.mk ?_
 (repeat' ((conv => whnf); first | left | refine zd ?_ | (refine Both.mk ?_ ?_ <;> intro hc <;> try exact wX hc) | (intro c hc; (try (simp only [AH.zA] at hc; repeat (have hn := hc.1; replace hc := hc.2)))))) <;> (try (conv => whnf))
 refine Then.mk ?_
 (repeat' ((conv => whnf); first | left | refine zd ?_ | (refine Both.mk ?_ ?_ <;> intro hc <;> try exact wX hc) | (intro c hc; (try (simp only [AH.zA] at hc; repeat (have hn := hc.1; replace hc := hc.2)))))) <;> (try (conv => whnf))
 obtain ⟨r3, hr3⟩ : ∃ r, r = c := ⟨c, rfl⟩
 have h3 : G r3 = none := by rw [hr3]; assumption
 rw [← hr3]
 have h3w : r3 ≠ w := AH.ne_none' h3 hG
 refine Then.mk (AWq.in ?_)
 refine AWp_nilrow1 4 1 rfl rfl fun r4 hr4 => ?_
 obtain ⟨h43, h4⟩ := AH.none_set (AH.none_set hr4).2
 have h4w : r4 ≠ w := AH.ne_none' h4 hG
 refine AWp.of zU (dok _) rfl ?_
 (repeat' ((conv => whnf); first | left | refine zd ?_ | (refine Both.mk ?_ ?_ <;> intro hc <;> try exact wX hc) | (intro c hc; (try (simp only [AH.zA] at hc; repeat (have hn := hc.1; replace hc := hc.2)))))) <;> (try (conv => whnf))
 refine Then.mk ?_
 (repeat' ((conv => whnf); first | left | refine zd ?_ | (refine Both.mk ?_ ?_ <;> intro hc <;> try exact wX hc) | (intro c hc; (try (simp only [AH.zA] at hc; repeat (have hn := hc.1; replace hc := hc.2)))))) <;> (try (conv => whnf))
 refine zT (σ := Nat) (4 :: 5 :: 6 :: 7 :: 8 :: 9 :: 17 :: 18 :: 19 :: 20 :: 21 :: 22 :: 23 :: 24 :: 25 :: 26 :: 27 :: 28 :: 29 :: 30 :: 31 :: 32 :: 33 :: 34 :: 35 :: 36 :: 37 :: 38 :: 39 :: 40 :: 41 :: []) (fun i => [(4, .sl r4 i 1 0 i none), (5, .int .i64 i)]) (fun i => (AH.set G r3 (.row [.bool false, .cs (dA (dg (V / 256 ^ i))) (dg (V / 256 ^ i)).length] 0)).set r4 (.row (dA (led V i)) i)) (fun i => i ≤ N) (fun i => N - i) 0 rfl (Nat.zero_le _) ⟨rfl, rfl, trivial⟩ ?_ ?_
 ·refine HLe.of_eq ?_
  rw [Nat.pow_zero, Nat.div_one, AH.zS]
  rfl
 ·intro i hi
  dsimp only at hi ⊢
  refine AWp.of zU (dok _) rfl ?_
  have k4 : ((AH.set G r3 (.row [.bool false, .cs (dA (dg (V / 256 ^ i))) (dg (V / 256 ^ i)).length] 0)).set r4 (.row (dA (led V i)) i)) r4 = some (.row (dA (led V i)) i) := AH.zC _ _ _
  have k3 : ((AH.set G r3 (.row [.bool false, .cs (dA (dg (V / 256 ^ i))) (dg (V / 256 ^ i)).length] 0)).set r4 (.row (dA (led V i)) i)) r3 = some (.row [.bool false, .cs (dA (dg (V / 256 ^ i))) (dg (V / 256 ^ i)).length] 0) := by rw [AH.zR _ _ (Ne.symm h43), AH.zC]
  have kw : ((AH.set G r3 (.row [.bool false, .cs (dA (dg (V / 256 ^ i))) (dg (V / 256 ^ i)).length] 0)).set r4 (.row (dA (led V i)) i)) w = some (.row [.bool false, .cs (dA (dg V)) (dg V).length, .int .i64 σ.W, .int .i64 σ.L] 0) := by rw [AH.zR _ _ (Ne.symm h4w), AH.zR _ _ (Ne.symm h3w)]; exact hG
  by_cases hin : i < N
  ·have hset : ∀ X Y, ((((AH.set G r3 (.row [.bool false, .cs (dA (dg (V / 256 ^ i))) (dg (V / 256 ^ i)).length] 0)).set r4 (.row (dA (led V i)) i)).set r4 Y).set r3 X) = (AH.set G r3 X).set r4 Y := fun X Y => by
    rw [AH.zS, AH.set_back _ (Ne.symm h43)]
   generalize ((AH.set G r3 (.row [.bool false, .cs (dA (dg (V / 256 ^ i))) (dg (V / 256 ^ i)).length] 0)).set r4 (.row (dA (led V i)) i)) = B at *
   have hdl := dg_le (Nat.div_le_self V (256 ^ i))
   have dv := fun H => divN_c (V / 256 ^ i) 256 (by omega) (by decide) (by decide) H
   have hm := Nat.mod_lt (V / 256 ^ i) (show 0 < 256 by decide)
   have sm := fun H => smallI_c (V / 256 ^ i % 256) (by omega) H
   have hq : V / 256 ^ i / 256 = V / 256 ^ (i + 1) := by rw [Nat.pow_succ, Nat.div_div_eq_div_mul]
   rw [hq] at dv
   have hls := led_succ V i
   have hll := led_len V i
   generalize V / 256 ^ i % 256 = m at *
   generalize hqq : V / 256 ^ (i + 1) = q at *
   generalize V / 256 ^ i = x at *
   generalize led V i = ls at *
   unfold nR at dv
   unfold nR at sm
   (repeat' ((conv => whnf); first | refine Then.mk ?_ | left | refine zs ?_ | (refine Both.mk ?_ ?_ <;> intro hc <;> try exact wX hc) | (intro c hc; (try (simp only [AH.zA] at hc; repeat (have hn := hc.1; replace hc := hc.2)))))) <;> (try (conv => whnf))
   refine AWq.in ?_
   refine AWp_spare fun a ha => ?_
   refine AWp_spare fun b hb => ?_
   obtain ⟨nm, k0, k1⟩ : ∃ nm : Nat → Nat, nm 0 = a ∧ nm 1 = b := ⟨fun k => if k = 0 then a else b, rfl, rfl⟩
   subst k0 k1
   obtain ⟨n10, hb⟩ := AH.none_set hb
   have n30 : nm 0 ≠ r3 := AH.ne_none' ha k3
   have n31 : nm 1 ≠ r3 := AH.ne_none' hb k3
   have n40 : nm 0 ≠ r4 := AH.ne_none' ha k4
   have n41 : nm 1 ≠ r4 := AH.ne_none' hb k4
   refine AWp.of zU (dok _) rfl ?_
   refine AWq.drawK mo [(6, 0), (7, 1)] nm ?_ (by decide +kernel) ?_
   ·intro a b ha hb hab
    simp at ha hb
    rcases ha with rfl | rfl <;> rcases hb with rfl | rfl <;> first | rfl | exact absurd hab n10 | exact absurd hab (Ne.symm n10)
   (repeat' ((conv => whnf); first | refine DrawK.consD ?_ | refine DrawK.nil ?_ | (apply And.intro; (focus (repeat (first | exact trivial | (refine And.intro (a := _ ≠ _) (b := offR _ _ _) ?_ ?_; (first | assumption | omega | exact Ne.symm (by assumption) | exact AH.ne_none (by assumption) (by assumption) | exact AH.none_ne (by assumption) (by assumption) | exact (AH.none_set (by assumption)).1 | exact Ne.symm (AH.none_set (by assumption)).1)))); done)) | (apply And.intro; exact o2 _) | (apply And.intro; exact dv _) | (apply And.intro; exact sm _) | refine Then.mk ?_ | left | refine zg ?_ (o2 _) | refine zg ?_ (dv _) | refine zg ?_ (sm _) | refine zgg ?_ (o2 _) | refine zgg ?_ (dv _) | refine zgg ?_ (sm _) | refine zd ?_ | (refine Both.mk ?_ ?_ <;> intro hc <;> try exact wX hc) | (intro c hc; (try (simp only [AH.zA] at hc; repeat (have hn := hc.1; replace hc := hc.2)))) | (refine ACall.to (o2 _) ?_) | (refine ACall.to (dv _) ?_) | (refine ACall.to (sm _) ?_))) <;> (try (conv => whnf))
   refine ⟨i + 1, hin, by omega, ⟨?_, congrArg (AV.int .i64) (by omega), trivial⟩, ?_⟩
   ·rfl
   ·dsimp only
    rw [hls, ← hset, hqq, ← dA_snoc]
    refine HLe.set (HLe.set ?_ _ _) _ _
    (first | ((repeat' (first | (with_reducible exact HLe.refl _) | (with_reducible assumption) | apply HLe.push | refine HLe.set_of _ _ ?_ ?_ | refine HLe.del _ ?_ ?_ | rw [AH.zR _ _ (by (first | assumption | omega | exact Ne.symm (by assumption) | exact AH.ne_none (by assumption) (by assumption) | exact AH.none_ne (by assumption) (by assumption) | exact (AH.none_set (by assumption)).1 | exact Ne.symm (AH.none_set (by assumption)).1))])); done) | ((repeat' (first | refine HLe.set_of _ _ ?_ ?_ | refine HLe.del _ ?_ ?_)) <;> (first | assumption | exact HLe.refl _ | exact HLe.none (by assumption) (by assumption) | (simp_all; done))))
  ·have hie : i = N := by omega
   subst hie
   have hle : HLe G ((AH.set G r3 (.row [.bool false, .cs (dA (dg (V / 256 ^ i))) (dg (V / 256 ^ i)).length] 0)).set r4 (.row (dA (led V i)) i)) := HLe.set_of _ _ (HLe.set_of _ _ (HLe.refl _) h3) h4
   have hlen : (dA (led V i)).length = i := by simp
   generalize ((AH.set G r3 (.row [.bool false, .cs (dA (dg (V / 256 ^ i))) (dg (V / 256 ^ i)).length] 0)).set r4 (.row (dA (led V i)) i)) = B at *
   have hcell : ∀ j, j < i → (dA (led V i))[(j : Int).toNat]? = some (.int .i64 (V / 256 ^ j % 256 : Nat)) := fun j hj => by
    rw [dA_gi (by rw [led_len]; exact hj), led_at hj]
   have hdig : ∀ j, j < i → ((dig i V).getD (i - 1 - j) 0).toNat = V / 256 ^ j % 256 := fun j hj => dig_led V i j hj
   have hdl := dig_len i V
   generalize dA (led V i) = cells at *
   generalize dig i V = bs at *
   (repeat' ((conv => whnf); first | refine Then.mk ?_ | left | refine zd ?_ | (refine Both.mk ?_ ?_ <;> intro hc <;> try exact wX hc) | (intro c hc; (try (simp only [AH.zA] at hc; repeat (have hn := hc.1; replace hc := hc.2)))))) <;> (try (conv => whnf))
   refine zT (σ := Nat) (10 :: 42 :: 43 :: 44 :: 45 :: 46 :: 47 :: 48 :: 49 :: 50 :: 51 :: 52 :: 53 :: 54 :: []) (fun j => [(10, .int .i64 j)]) (fun _ => B) (fun j => j ≤ i ∧ trimN bs i = trimN bs (i - j)) (fun j => i - j) 0 rfl ⟨Nat.zero_le _, rfl⟩ ⟨rfl, trivial⟩ (HLe.refl _) ?_
   rintro j ⟨hj, htr⟩
   dsimp only at hj htr ⊢
   refine AWp.of zU (dok _) rfl ?_
   by_cases hmore : j < i ∧ V / 256 ^ j % 256 = 0
   ·obtain ⟨m1, m2⟩ := hmore
    have hcl := hcell j m1
    have hnx : trimN bs (i - j) = trimN bs (i - (j + 1)) := by
     have hz : bs.getD (i - 1 - j) 0 = 0 := UInt8.toNat_inj.1 (by rw [hdig j m1, m2]; rfl)
     rw [show i - j = (i - 1 - j) + 1 by omega, show i - (j + 1) = i - 1 - j by omega]
     show (if bs.getD (i - 1 - j) 0 = 0 then _ else _) = _
     rw [if_pos hz]
    rw [m2] at hcl
    (repeat' ((conv => whnf); first | refine Then.mk ?_ | left | refine zd ?_ | (refine Both.mk ?_ ?_ <;> intro hc <;> try exact wX hc) | (intro c hc; (try (simp only [AH.zA] at hc; repeat (have hn := hc.1; replace hc := hc.2)))))) <;> (try (conv => whnf))
    exact ⟨j + 1, ⟨by omega, by rw [htr, hnx]⟩, by omega, ⟨congrArg (AV.int .i64) (by omega), trivial⟩, HLe.refl _⟩
   ·have htn : trimN bs i = i - j := by
     rw [htr]
     by_cases hji : j < i
     ·have hz : ¬ bs.getD (i - 1 - j) 0 = 0 := fun e => hmore ⟨hji, by rw [← hdig j hji, e]; rfl⟩
      rw [show i - j = (i - 1 - j) + 1 by omega]
      show (if bs.getD (i - 1 - j) 0 = 0 then _ else _) = _
      rw [if_neg hz]
     ·rw [show i - j = 0 by omega]; rfl
    rw [htn]
    have hz : ∃ z : Nat, z < 256 ∧ (j < i → cells[(j : Int).toNat]? = some (.int .i64 (z : Nat)) ∧ z ≠ 0) :=
     ⟨V / 256 ^ j % 256, Nat.mod_lt _ (by decide), fun h => ⟨hcell j h, fun e => hmore ⟨h, e⟩⟩⟩
    obtain ⟨z, hz1, hz2⟩ := hz
    clear hmore
    apply Kept_split
    case main =>
     intro tail
     by_cases hji : j < i
     ·obtain ⟨hcl, hnz⟩ := hz2 hji
      (repeat' ((conv => whnf); first | left | refine zd ?_ | (refine Both.mk ?_ ?_ <;> intro hc <;> try exact wX hc) | (intro c hc; (try (simp only [AH.zA] at hc; repeat (have hn := hc.1; replace hc := hc.2)))))) <;> (try (conv => whnf))
      refine Then.mk ?_
      (repeat' ((conv => whnf); first | left | refine zd ?_ | (refine Both.mk ?_ ?_ <;> intro hc <;> try exact wX hc) | (intro c hc; (try (simp only [AH.zA] at hc; repeat (have hn := hc.1; replace hc := hc.2)))))) <;> (try (conv => whnf))
      refine Then.mk (AWq.in ?_)
      refine AWp_cutd [(4, .sl r4 i 1 0 i none), (10, .int .i64 j)] rfl ⟨rfl, rfl, trivial⟩ (fun _ => rfl) (HLe.refl _) ?_
      exact tail.out
     ·(repeat' ((conv => whnf); first | left | refine zd ?_ | (refine Both.mk ?_ ?_ <;> intro hc <;> try exact wX hc) | (intro c hc; (try (simp only [AH.zA] at hc; repeat (have hn := hc.1; replace hc := hc.2)))))) <;> (try (conv => whnf))
      refine Then.mk ?_
      (repeat' ((conv => whnf); first | left | refine zd ?_ | (refine Both.mk ?_ ?_ <;> intro hc <;> try exact wX hc) | (intro c hc; (try (simp only [AH.zA] at hc; repeat (have hn := hc.1; replace hc := hc.2)))))) <;> (try (conv => whnf))
      refine Then.mk (AWq.in ?_)
      refine AWp_cutd [(4, .sl r4 i 1 0 i none), (10, .int .i64 j)] rfl ⟨rfl, rfl, trivial⟩ (fun _ => rfl) (HLe.refl _) ?_
      exact tail.out
    case tl =>
    clear hz2 z hz1
    refine AWp.of zU (dok _) rfl ?_
    (repeat' ((conv => whnf); first | left | refine zd ?_ | (refine Both.mk ?_ ?_ <;> intro hc <;> try exact wX hc) | (intro c hc; (try (simp only [AH.zA] at hc; repeat (have hn := hc.1; replace hc := hc.2)))))) <;> (try (conv => whnf))
    refine Then.mk (AWq.in ?_)
    refine AWp_nilrow1 11 1 rfl rfl fun r hr => ?_
    have hle2 : HLe G B := hle
    have hrG : G r = none := HLe.none hle hr
    have hr4 : r4 ≠ r := AH.ne_none hr k4
    refine AWp.of zU (dok _) rfl ?_
    (repeat' ((conv => whnf); first | left | refine zd ?_ | (refine Both.mk ?_ ?_ <;> intro hc <;> try exact wX hc) | (intro c hc; (try (simp only [AH.zA] at hc; repeat (have hn := hc.1; replace hc := hc.2)))))) <;> (try (conv => whnf))
    refine Then.mk ?_
    (repeat' ((conv => whnf); first | left | refine zd ?_ | (refine Both.mk ?_ ?_ <;> intro hc <;> try exact wX hc) | (intro c hc; (try (simp only [AH.zA] at hc; repeat (have hn := hc.1; replace hc := hc.2)))))) <;> (try (conv => whnf))
    refine zT (σ := Nat) (11 :: 12 :: 58 :: 59 :: 60 :: 61 :: 62 :: 63 :: 64 :: 65 :: 66 :: 67 :: 68 :: 69 :: 70 :: []) (fun k => [(11, .sl r k 1 0 k none), (12, .int .i64 ((i : Int) - 1 - k))]) (fun k => B.set r (.row (u8s (bs.take k)) k)) (fun k => k ≤ i - j) (fun k => i - j - k) 0 rfl (Nat.zero_le _) ⟨rfl, congrArg (AV.int .i64) (by omega), trivial⟩ ?_ ?_
    ·exact HLe.refl _
    ·intro k hk
     dsimp only at hk ⊢
     refine AWp.of zU (dok _) rfl ?_
     have kr : (B.set r (.row (u8s (bs.take k)) k)) r = some (.row (u8s (bs.take k)) k) := AH.zC _ _ _
     have k4' : (B.set r (.row (u8s (bs.take k)) k)) r4 = some (.row cells i) := by rw [AH.zR _ _ hr4]; exact k4
     have hul : (u8s (bs.take k)).length = k * 1 := by simp; omega
     by_cases hkj : k < i - j
     ·have hcl := hcell (i - 1 - k) (by omega)
      have hdk := hdig (i - 1 - k) (by omega)
      rw [show i - 1 - (i - 1 - k) = k by omega] at hdk
      rw [show ((i - 1 - k : Nat) : Int) = (i : Int) - 1 - k by omega] at hcl
      have hm := Nat.mod_lt (V / 256 ^ (i - 1 - k)) (show 0 < 256 by decide)
      generalize V / 256 ^ (i - 1 - k) % 256 = z at *
      have e8 : IntKind.u8.wrap (z : Nat) = (z : Nat) := by rw [wrap_u8']; omega
      have hsn : u8s (bs.take k) ++ [.int .u8 (z : Nat)] = u8s (bs.take (k + 1)) := by
       rw [List.take_add_one, u8s, u8s, List.map_append]
       have : bs[k]? = some (bs.getD k 0) := by rw [List.getD_eq_getElem?_getD, List.getElem?_eq_getElem (by omega)]; rfl
       rw [this, ← hdk]
       rfl
      have hfin : ∀ o, (B.set r (.row (u8s (bs.take k)) k)).set r o = B.set r o := fun o => AH.zS _ _ _ _
      generalize (B.set r (.row (u8s (bs.take k)) k)) = C at *
      (repeat' ((conv => whnf); first | refine Then.mk ?_ | left | refine zd ?_ | (refine Both.mk ?_ ?_ <;> intro hc <;> try exact wX hc) | (intro c hc; (try (simp only [AH.zA] at hc; repeat (have hn := hc.1; replace hc := hc.2)))))) <;> (try (conv => whnf))
      refine ⟨k + 1, hkj, by omega, ⟨rfl, congrArg (AV.int .i64) (by omega), trivial⟩, HLe.of_eq ?_⟩
      rw [hfin, ← hsn]
     ·have hke : k = i - j := by omega
      subst hke
      have htl : (bs.take (i - j)).length = i - j := by simp; omega
      rw [htl]
      (repeat' ((conv => whnf); first | left | refine zd ?_ | (refine Both.mk ?_ ?_ <;> intro hc <;> try exact wX hc) | (intro c hc; (try (simp only [AH.zA] at hc; repeat (have hn := hc.1; replace hc := hc.2)))))) <;> (try (conv => whnf))
      refine Then.mk (AWq.in ?_)
      refine AWp_freeze1 (r := r) (v := i - j) (es := 1) (n := i - j) (lim := none) (cells := u8s (bs.take (i - j))) 11 rfl rfl kr hul ?_
      refine AWp.of zU (dok _) rfl ?_
      rw [AH.del_set _ _ _ hr]
      (repeat' ((conv => whnf); first | refine Then.mk ?_ | left | refine zd ?_ | (refine Both.mk ?_ ?_ <;> intro hc <;> try exact wX hc) | (intro c hc; (try (simp only [AH.zA] at hc; repeat (have hn := hc.1; replace hc := hc.2)))))) <;> (try (conv => whnf))
      exact hle
open Go.Fw Go
structure Rms (G : AH) (P Q : Nat → Nat) (m n : Nat) (M : Nat → Nat → Nat) : Prop where
 md : ∀ k, k < m → RmAt G (P k) (Q k) n (M k)
 pp : ∀ j k, j < m → k < m → j ≠ k → P j ≠ P k
 qq : ∀ j k, j < m → k < m → j ≠ k → Q j ≠ Q k
 pq : ∀ j k, j < m → k < m → P j ≠ Q k
theorem Rms.same {G G' : AH} {P Q : Nat → Nat} {m n : Nat} {M : Nat → Nat → Nat} (h : Rms G P Q m n M) (hs : ∀ k, k < m → G' (P k) = G (P k) ∧ G' (Q k) = G (Q k)) : Rms G' P Q m n M :=
 ⟨fun k hk => (h.md k hk).same (hs k hk).1 (hs k hk).2, h.pp, h.qq, h.pq⟩
theorem rmG_ne {G : AH} {q n a : Nat} {c : Nat → Nat} (h : a ≠ q) : rmG G q n c a = G a := AH.zR _ _ h
theorem Rms.set {G : AH} {P Q : Nat → Nat} {m n : Nat} {M : Nat → Nat → Nat} (h : Rms G P Q m n M) {k : Nat} (hk : k < m) {c : Nat → Nat} (hc : MdOk n c) :
  Rms (rmG G (Q k) n c) P Q m n (fun j => if j = k then c else M j) := by
 refine ⟨fun j hj => ?_, h.pp, h.qq, h.pq⟩
 by_cases e : j = k
 ·subst e
  rw [if_pos rfl]
  exact (h.md j hj).set hc
 ·rw [if_neg e]
  exact (h.md j hj).same (rmG_ne (h.pq _ _ hj hk)) (rmG_ne (h.qq _ _ hj hk e))
theorem Rms.fresh {G : AH} {P Q : Nat → Nat} {m n : Nat} {M : Nat → Nat → Nat} (h : Rms G P Q m n M) {a : Nat} (ha : G a = Option.none) {k : Nat} (hk : k < m) : P k ≠ a ∧ Q k ≠ a :=
 ⟨Ne.symm (AH.ne_none' ha (h.md k hk).hp), Ne.symm (AH.ne_none' ha (h.md k hk).hq)⟩
def rnG (G : AH) (p q n : Nat) (c : Nat → Nat) : AH := (rmG G q n c).set p (.row [.sl q n 1 0 n none] 0)
theorem rnG_ne {G : AH} {p q n a : Nat} {c : Nat → Nat} (h1 : a ≠ p) (h2 : a ≠ q) : rnG G p q n c a = G a := (AH.zR _ _ h1).trans (rmG_ne h2)
theorem Rms.more {G : AH} {P Q : Nat → Nat} {m n : Nat} {M : Nat → Nat → Nat} (h : Rms G P Q m n M) {p q : Nat} (hp : G p = Option.none) (hq : G q = Option.none) (hne : p ≠ q) (hM : MdOk n (M m)) :
  Rms (rnG G p q n (M m)) (putF P m p) (putF Q m q) (m + 1) n M := by
 have a1 : ∀ k, k < m → putF P m p k = P k := fun k hk => putF_ne _ _ (by omega)
 have a2 : ∀ k, k < m → putF Q m q k = Q k := fun k hk => putF_ne _ _ (by omega)
 have b1 : ∀ k, k < m + 1 → k < m ∨ k = m := fun k hk => by omega
 refine ⟨fun k hk => ?_, fun j k hj hk hjk => ?_, fun j k hj hk hjk => ?_, fun j k hj hk => ?_⟩
 ·rcases b1 k hk with hk | rfl
  ·rw [a1 k hk, a2 k hk]
   exact (h.md k hk).same (rnG_ne (h.fresh hp hk).1 (h.fresh hq hk).1) (rnG_ne (h.fresh hp hk).2 (h.fresh hq hk).2)
  ·rw [putF_at, putF_at]
   exact ⟨AH.zC _ _ _, by unfold rnG; rw [AH.zR _ _ (Ne.symm hne)]; exact AH.zC _ _ _, hne, hM⟩
 ·rcases b1 j hj with hj | rfl <;> rcases b1 k hk with hk | rfl
  ·rw [a1 j hj, a1 k hk]; exact h.pp j k hj hk hjk
  ·rw [a1 j hj, putF_at]; exact (h.fresh hp hj).1
  ·rw [a1 k hk, putF_at]; exact Ne.symm (h.fresh hp hk).1
  ·exact absurd rfl hjk
 ·rcases b1 j hj with hj | rfl <;> rcases b1 k hk with hk | rfl
  ·rw [a2 j hj, a2 k hk]; exact h.qq j k hj hk hjk
  ·rw [a2 j hj, putF_at]; exact (h.fresh hq hj).2
  ·rw [a2 k hk, putF_at]; exact Ne.symm (h.fresh hq hk).2
  ·exact absurd rfl hjk
 ·rcases b1 j hj with hj | rfl <;> rcases b1 k hk with hk | rfl
  ·rw [a1 j hj, a2 k hk]; exact h.pq j k hj hk
  ·rw [a1 j hj, putF_at]; exact (h.fresh hq hj).1
  ·rw [a2 k hk, putF_at]; exact Ne.symm (h.fresh hp hk).2
  ·rw [putF_at, putF_at]; exact hne
structure RmsOk (H G : AH) (a n i : Nat) (P Q : Nat → Nat) : Prop where
 mods : Rms G P Q i n fun _ _ => 1
 row : G a = some (.row (psL P i) i)
 le : HLe H G
 na : ∀ k, k < i → P k ≠ a ∧ Q k ≠ a
 new : ∀ k, k < i → H (P k) = none ∧ H (Q k) = none
set_option maxRecDepth 8000 in
theorem rmodels_c (n m : Nat) (hn2 : n ≤ 1024) (hm2 : m ≤ 256) (H : AH) :
  ACall Tryz.prog 92 [.int .i64 n, .int .i64 m] H (fun y H' => ∃ P Q, y = .cs (psL P m) m ∧ Rms H' P Q m n (fun _ _ => 1) ∧ HLe H H' ∧ ∀ k, k < m → H (P k) = none ∧ H (Q k) = none) := by
 refine zQ zU (dok _) Tryz.func92 rfl (by decide) rfl ?_
 (repeat' ((conv => whnf); first | left | refine zd ?_ | (refine Both.mk ?_ ?_ <;> intro hc <;> try exact wX hc) | (intro c hc; (try (simp only [AH.zA] at hc; repeat (have hn := hc.1; replace hc := hc.2)))))) <;> (try (conv => whnf))
 refine Then.mk ?_
 (repeat' ((conv => whnf); first | left | refine zd ?_ | (refine Both.mk ?_ ?_ <;> intro hc <;> try exact wX hc) | (intro c hc; (try (simp only [AH.zA] at hc; repeat (have hn := hc.1; replace hc := hc.2)))))) <;> (try (conv => whnf))
 refine Then.mk (AWq.in ?_)
 refine AWp_nilrow1 5 1 rfl rfl fun a ha => ?_
 refine AWp.of zU (dok _) rfl ?_
 (repeat' ((conv => whnf); first | refine Then.mk ?_ | left | refine zd ?_ | (refine Both.mk ?_ ?_ <;> intro hc <;> try exact wX hc) | (intro c hc; (try (simp only [AH.zA] at hc; repeat (have hn := hc.1; replace hc := hc.2)))))) <;> (try (conv => whnf))
 refine zT (σ := AH × Nat × (Nat → Nat) × (Nat → Nat)) (5 :: 6 :: 7 :: 8 :: 9 :: 10 :: 11 :: 12 :: 13 :: 14 :: 15 :: 16 :: []) (fun (G, i, P, Q) => [(5, .sl a i 1 0 i none), (6, .int .i64 i)]) (fun (G, i, P, Q) => G) (fun (G, i, P, Q) => i ≤ m ∧ RmsOk H G a n i P Q) (fun (G, i, P, Q) => m - i) (_, 0, fun _ => 0, fun _ => 0) rfl ?_ ?_ (HLe.refl _) ?_
 ·refine ⟨Nat.zero_le _, ⟨⟨fun k hk => absurd hk (by omega), fun j k hj => absurd hj (by omega), fun j k hj => absurd hj (by omega), fun j k hj => absurd hj (by omega)⟩, AH.zC _ _ _, HLe.fresh _ ha, fun k hk => absurd hk (by omega), fun k hk => absurd hk (by omega)⟩⟩
 ·exact ⟨rfl, rfl, trivial⟩
 ·rintro ⟨G, i, P, Q⟩ ⟨hi, hok⟩
  dsimp only at hi hok ⊢
  obtain ⟨hmods, hrow, hle, hna, hnew⟩ := hok
  refine AWp.of zU (dok _) rfl ?_
  have hpl : (psL P i).length = i := psL_len _ _
  by_cases him : i < m
  ·(repeat' ((conv => whnf); first | refine Then.mk ?_ | left | refine zd ?_ | (refine Both.mk ?_ ?_ <;> intro hc <;> try exact wX hc) | (intro c hc; (try (simp only [AH.zA] at hc; repeat (have hn := hc.1; replace hc := hc.2)))))) <;> (try (conv => whnf))
   refine (rnew_c n (by omega) _).mono ?_
   rintro y H' ⟨p, q, hp, hq, hpq, rfl, rfl⟩
   have hap : a ≠ p := AH.ne_none hp hrow
   have haq : a ≠ q := AH.ne_none hq hrow
   show force _ _
   have hrow2 : rnG G p q n (fun _ => 1) a = some (.row (psL P i) i) := by rw [rnG_ne hap haq]; exact hrow
   have hm2 := hmods.more hp hq hpq (MdOk.new hn2)
   have hHp : H p = none := HLe.none hle hp
   have hHq : H q = none := HLe.none hle hq
   have hle2 : HLe H (rnG G p q n fun _ => 1) := HLe.set_of _ _ (HLe.set_of _ _ hle hHq) hHp
   generalize hR : rnG G p q n (fun _ => 1) = R at *
   have hR2 : (rmG G q n fun _ => 1).set p (.row [.sl q n 1 0 n none] 0) = R := hR
   rw [hR2]
   (repeat' ((conv => whnf); first | refine Then.mk ?_ | left | refine zd ?_ | (refine Both.mk ?_ ?_ <;> intro hc <;> try exact wX hc) | (intro c hc; (try (simp only [AH.zA] at hc; repeat (have hn := hc.1; replace hc := hc.2)))))) <;> (try (conv => whnf))
   have hna2 : ∀ k, k < i + 1 → putF P i p k ≠ a ∧ putF Q i q k ≠ a := fun k hk => by
    by_cases e : k = i
    ·subst e; rw [putF_at, putF_at]; exact ⟨Ne.symm hap, Ne.symm haq⟩
    ·rw [putF_ne _ _ e, putF_ne _ _ e]; exact hna k (by omega)
   refine ⟨(R.set a (.row (psL P i ++ [.ptr p 0 0]) (i + 1)), i + 1, putF P i p, putF Q i q), ⟨?_, ?_⟩, ?_, ⟨rfl, congrArg (AV.int .i64) ?_, trivial⟩, HLe.refl _⟩
   ·show i + 1 ≤ m
    omega
   ·refine ⟨?_, ?_, ?_, hna2, ?_⟩
    ·exact hm2.same fun k hk => ⟨AH.zR _ _ (hna2 k hk).1, AH.zR _ _ (hna2 k hk).2⟩
    ·dsimp only
     rw [AH.zC, ← psL_snoc]
    ·exact HLe.set_of _ _ hle2 ha
    ·intro k hk
     show H (putF P i p k) = none ∧ H (putF Q i q k) = none
     by_cases e : k = i
     ·subst e; rw [putF_at, putF_at]; exact ⟨hHp, hHq⟩
     ·rw [putF_ne _ _ e, putF_ne _ _ e]; exact hnew k (by have : k < i + 1 := hk; omega)
   ·show m - (i + 1) < m - i
    omega
   ·show (i : Int) + 1 = (i + 1 : Nat)
    omega
  ·have hie : i = m := by omega
   subst hie
   (repeat' ((conv => whnf); first | left | refine zd ?_ | (refine Both.mk ?_ ?_ <;> intro hc <;> try exact wX hc) | (intro c hc; (try (simp only [AH.zA] at hc; repeat (have hn := hc.1; replace hc := hc.2)))))) <;> (try (conv => whnf))
   refine Then.mk (AWq.in ?_)
   refine AWp_freeze1 (r := a) (v := i) (es := 1) (n := i) (lim := none) (cells := psL P i) 5 rfl rfl hrow (by simp) ?_
   refine AWp.of zU (dok _) rfl ?_
   (repeat' ((conv => whnf); first | refine Then.mk ?_ | left | refine zd ?_ | (refine Both.mk ?_ ?_ <;> intro hc <;> try exact wX hc) | (intro c hc; (try (simp only [AH.zA] at hc; repeat (have hn := hc.1; replace hc := hc.2)))))) <;> (try (conv => whnf))
   exact ⟨P, Q, rfl, hmods.same fun k hk => ⟨AH.del_ne _ (hna k hk).1, AH.del_ne _ (hna k hk).2⟩, HLe.del _ hle ha, hnew⟩
open Go.Fw Go
set_option maxRecDepth 8000 in
theorem rbegin_c (H : AH) : ACall Tryz.prog 93 [] H (fun y H' => ∃ w, y = .ptr w 0 0 ∧ H w = none ∧ H' = rcG H w cs0) := by
 refine zQ zU (dok _) Tryz.func93 rfl (by decide) rfl ?_
 (repeat' ((conv => whnf); first | left | refine zd ?_ | (refine Both.mk ?_ ?_ <;> intro hc <;> try exact wX hc) | (intro c hc; (try (simp only [AH.zA] at hc; repeat (have hn := hc.1; replace hc := hc.2)))))) <;> (try (conv => whnf))
 refine Then.mk ?_
 (repeat' ((conv => whnf); first | left | refine zd ?_ | (refine Both.mk ?_ ?_ <;> intro hc <;> try exact wX hc) | (intro c hc; (try (simp only [AH.zA] at hc; repeat (have hn := hc.1; replace hc := hc.2)))))) <;> (try (conv => whnf))
 refine Then.mk (AWq.in ?_)
 refine AWp_rowTo (p := c) (u := 0) (cells := [.bool false, .nils, .int .i64 4294967296, .int .i64 0]) (rcL cs0) (AH.zC _ _ _) ?_ ?_
 ·unfold rcL
  have e : dg cs0.V = [] := dg_zero
  rw [e]
  exact AVles.cons (AVle.refl _) (AVles.cons AVle.nils (AVles.refl _))
 ·rw [AH.zS]
  refine AWp.of zU (dok _) rfl ?_
  (repeat' ((conv => whnf); first | refine Then.mk ?_ | left | refine zd ?_ | (refine Both.mk ?_ ?_ <;> intro hc <;> try exact wX hc) | (intro c hc; (try (simp only [AH.zA] at hc; repeat (have hn := hc.1; replace hc := hc.2)))))) <;> (try (conv => whnf))
  rfl
structure RdC (H G : AH) (P Q : Nat → Nat) (w m n : Nat) (E : Es) : Prop where
 mods : Rms G P Q m n E.M
 wr : G w = some (.row (rcL E.σ) 0)
 dj : ∀ k, k < m → P k ≠ w ∧ Q k ≠ w
 le : HLe H G
 new : ∀ k, k < m → H (P k) = none ∧ H (Q k) = none
 hw : H w = none
theorem RdC.step {H G : AH} {P Q : Nat → Nat} {w m n : Nat} {E : Es} (h : RdC H G P Q w m n E) (σ : Cs) : RdC H (rcG G w σ) P Q w m n ⟨E.M, σ⟩ := by
 refine ⟨h.mods.same fun k hk => ?_, AH.zC _ _ _, h.dj, HLe.set_of _ _ h.le h.hw, h.new, h.hw⟩
 obtain ⟨a, b⟩ := h.dj k hk
 exact ⟨AH.zR _ _ a, AH.zR _ _ b⟩
def reG (G : AH) (Q : Nat → Nat) (w n : Nat) (E : Es) (k s : Nat) : AH := rmG (rcG G w (symE n E k s).σ) (Q k) n (seeM n (E.M k) s)
theorem RdC.sym {H G : AH} {P Q : Nat → Nat} {w m n : Nat} {E : Es} (h : RdC H G P Q w m n E) {k s : Nat} (hk : k < m) (hs : s < n) : RdC H (reG G Q w n E k s) P Q w m n (symE n E k s) := by
 have h1 := h.step (symE n E k s).σ
 obtain ⟨a, b⟩ := h.dj k hk
 exact ⟨h1.mods.set hk ((h.mods.md k hk).ok.see hs), (rmG_ne (Ne.symm b)).trans h1.wr, h.dj, HLe.set_of _ _ h1.le (h.new k hk).2, h.new, h.hw⟩
theorem RdC.symbol {H G : AH} {P Q : Nat → Nat} {w m n : Nat} {E : Es} (h : RdC H G P Q w m n E) (hc : CsOk E.σ) (hL : E.σ.L ≤ 20000000) {k s : Nat} (hk : k < m) (hs : s < n) :
  ACall Tryz.prog 96 [.ptr w 0 0, .ptr (P k) 0 0, .int .i64 s] G (fun y H' => y = .tup [] ∧ H' = reG G Q w n E k s) := by
 obtain ⟨a, b⟩ := h.dj k hk
 exact csym_c h.wr (h.mods.md k hk) a b hs hc hL
open Go.Fw Go
set_option maxRecDepth 8000 in
theorem rfold_c (x : Int) (hx : -9223372036854775808 ≤ x ∧ x ≤ 9223372036854775807) (H : AH) :
  ACall Tryz.prog 95 [.int .i64 x] H (fun y H' => y = nR false (fold x) ∧ H' = H) := by
 refine ACall.back ?_
 have o2 := fun H => ofN_c 2 (by decide) H
 have o1 := fun H => ofN_c 1 (by decide) H
 by_cases h0 : 0 ≤ x
 ·obtain ⟨X, rfl⟩ : ∃ X : Nat, x = (X : Int) := ⟨x.toNat, by omega⟩
  have oX := fun H => ofN_c X (by omega) H
  have hl : (dg X).length ≤ 5 := dg_len (k := 5) (Nat.lt_of_lt_of_le (show X < 9223372036854775808 by omega) (by decide))
  have ml := fun H => mulN_c X 2 (by omega) (by decide) (by decide) H
  have hf : fold (X : Int) = X * 2 := by unfold fold; rw [if_pos h0]; omega
  rw [hf]
  generalize X * 2 = Y at *
  unfold nR at *
  refine zQ zU (dok _) Tryz.func95 rfl (by decide) rfl ?_
  (repeat' ((conv => whnf); first | refine Then.mk ?_ | left | refine zg ?_ (o2 _) | refine zg ?_ (oX _) | refine zg ?_ (ml _) | refine zgg ?_ (o2 _) | refine zgg ?_ (oX _) | refine zgg ?_ (ml _) | refine zd ?_ | (refine Both.mk ?_ ?_ <;> intro hc <;> try exact wX hc) | (intro c hc; (try (simp only [AH.zA] at hc; repeat (have hn := hc.1; replace hc := hc.2)))) | (refine ACall.to (o2 _) ?_) | (refine ACall.to (oX _) ?_) | (refine ACall.to (ml _) ?_))) <;> (try (conv => whnf))
  (first | ((repeat' (first | (with_reducible exact HLe.refl _) | (with_reducible assumption) | apply HLe.push | refine HLe.set_of _ _ ?_ ?_ | refine HLe.del _ ?_ ?_ | rw [AH.zR _ _ (by (first | assumption | omega | exact Ne.symm (by assumption) | exact AH.ne_none (by assumption) (by assumption) | exact AH.none_ne (by assumption) (by assumption) | exact (AH.none_set (by assumption)).1 | exact Ne.symm (AH.none_set (by assumption)).1))])); done) | ((repeat' (first | refine HLe.set_of _ _ ?_ ?_ | refine HLe.del _ ?_ ?_)) <;> (first | assumption | exact HLe.refl _ | exact HLe.none (by assumption) (by assumption) | (simp_all; done))))
 ·obtain ⟨X, hX⟩ : ∃ X : Nat, x = -(X : Int) := ⟨(-x).toNat, by omega⟩
  have oX := fun H => of_c x hx H
  rw [show decide (x < 0) = true from by simp; omega, show ab x = X from by unfold ab; omega, nN_R, show (true && !decide (X = 0)) = true from by simp; omega] at oX
  have hl : (dg X).length ≤ 5 := dg_len (k := 5) (Nat.lt_of_lt_of_le (show X < 9223372036854775809 by omega) (by decide))
  have ml := fun H => mul_c true false X 2 (by omega) (by decide) (by decide) H
  have hl2 : (dg (X * 2)).length ≤ 6 := dg_len (k := 6) (Nat.lt_of_lt_of_le (show X * 2 < 18446744073709551618 by omega) (by decide))
  rw [nN_R, show ((true != false) && !decide (X * 2 = 0)) = true from by simp; omega] at ml
  have ng := fun H => neg_c true (X * 2) (by omega) H
  rw [show (!true) = false from rfl, nN_false] at ng
  have sb := fun H => sub_c false false (X * 2) 1 (by omega) (Nat.le_trans (dg_len (n := 1) (k := 1) (by decide)) (by decide)) H
  rw [if_neg (by decide), if_neg (by omega), nN_false] at sb
  have hf : fold x = X * 2 - 1 := by unfold fold; rw [if_neg h0]; omega
  rw [hf]
  generalize X * 2 - 1 = Z at *
  generalize X * 2 = Y at *
  unfold nR at *
  refine zQ zU (dok _) Tryz.func95 rfl (by decide) rfl ?_
  (repeat' ((conv => whnf); first | refine Then.mk ?_ | left | refine zg ?_ (o2 _) | refine zg ?_ (oX _) | refine zg ?_ (ml _) | refine zg ?_ (ng _) | refine zg ?_ (sb _) | refine zg ?_ (o1 _) | refine zgg ?_ (o2 _) | refine zgg ?_ (oX _) | refine zgg ?_ (ml _) | refine zgg ?_ (ng _) | refine zgg ?_ (sb _) | refine zgg ?_ (o1 _) | refine zd ?_ | (refine Both.mk ?_ ?_ <;> intro hc <;> try exact wX hc) | (intro c hc; (try (simp only [AH.zA] at hc; repeat (have hn := hc.1; replace hc := hc.2)))) | (refine ACall.to (o2 _) ?_) | (refine ACall.to (oX _) ?_) | (refine ACall.to (ml _) ?_) | (refine ACall.to (ng _) ?_) | (refine ACall.to (sb _) ?_) | (refine ACall.to (o1 _) ?_))) <;> (try (conv => whnf))
  (first | ((repeat' (first | (with_reducible exact HLe.refl _) | (with_reducible assumption) | apply HLe.push | refine HLe.set_of _ _ ?_ ?_ | refine HLe.del _ ?_ ?_ | rw [AH.zR _ _ (by (first | assumption | omega | exact Ne.symm (by assumption) | exact AH.ne_none (by assumption) (by assumption) | exact AH.none_ne (by assumption) (by assumption) | exact (AH.none_set (by assumption)).1 | exact Ne.symm (AH.none_set (by assumption)).1))])); done) | ((repeat' (first | refine HLe.set_of _ _ ?_ ?_ | refine HLe.del _ ?_ ?_)) <;> (first | assumption | exact HLe.refl _ | exact HLe.none (by assumption) (by assumption) | (simp_all; done))))
def le2 (u n : Nat) : List Nat := (List.range n).map fun i => u / 2 ^ i % 2
@[simp] theorem le2_len (u n : Nat) : (le2 u n).length = n := by simp [le2]
theorem le2_succ (u n : Nat) : le2 u (n + 1) = le2 u n ++ [u / 2 ^ n % 2] := by simp [le2, List.range_succ]
theorem le2_at {u n i : Nat} (h : i < n) : (le2 u n).getD i 0 = u / 2 ^ i % 2 := by
 unfold le2
 rw [List.getD_eq_getElem?_getD, List.getElem?_map, List.getElem?_range h]; rfl
def be2 (u n : Nat) : Nat → List Nat
 | 0 => []
 | k + 1 => be2 u n k ++ [u / 2 ^ (n - 1 - k) % 2]
theorem be2_len (u n : Nat) : ∀ k, (be2 u n k).length = k
 | 0 => rfl
 | k + 1 => by show (be2 u n k ++ [_]).length = _; simp [be2_len u n k]
theorem be2_at (u n : Nat) : ∀ {k i : Nat}, i < k → (be2 u n k).getD i 0 = u / 2 ^ (n - 1 - i) % 2
 | 0, _, h => by omega
 | k + 1, i, h => by
  show (be2 u n k ++ [_]).getD i 0 = _
  have hl := be2_len u n k
  by_cases e : i = k
  ·subst e
   rw [List.getD_eq_getElem?_getD, List.getElem?_append_right (by omega), hl]; simp
  ·rw [List.getD_eq_getElem?_getD, List.getElem?_append_left (by omega), ← List.getD_eq_getElem?_getD]
   exact be2_at u n (by omega)
theorem div_pow_pos {u i : Nat} (h : i < lenB u) : u / 2 ^ i ≠ 0 := by
 have hu : u ≠ 0 := fun e => by subst e; simp [lenB] at h
 have h1 := lenB_top hu
 have h2 : 2 ^ i ≤ 2 ^ (lenB u - 1) := Nat.pow_le_pow_right (by decide) (by omega)
 have : 0 < u / 2 ^ i := Nat.div_pos (by omega) (Nat.pow_pos (by decide))
 omega
set_option maxRecDepth 8000 in
set_option maxHeartbeats 4000000 in
theorem rdigits_c (u : Nat) (hu : u < 2 ^ 64) (H : AH) :
  ACall Tryz.prog 94 [nR false u] H (fun y H' => y = .cs (dA (be2 u (lenB u) (lenB u))) (lenB u) ∧ H' = H) := by
 refine ACall.back ?_
 have hN := lenB_le hu
 have hlt := lenB_lt u
 have hpos := fun i (h : i < lenB u) => div_pow_pos h
 have hd1 : (dg u).length ≤ 5 := dg_len (k := 5) (Nat.lt_of_lt_of_le hu (by decide))
 obtain ⟨N, hNe⟩ : ∃ N, N = lenB u := ⟨_, rfl⟩
 rw [← hNe] at hN hlt hpos ⊢
 have o2 := fun H => ofN_c 2 (by decide) H
 unfold nR
 refine zQ zU (dok _) Tryz.func94 rfl (by decide) rfl ?_
 (repeat' ((conv => whnf); first | left | refine zd ?_ | (refine Both.mk ?_ ?_ <;> intro hc <;> try exact wX hc) | (intro c hc; (try (simp only [AH.zA] at hc; repeat (have hn := hc.1; replace hc := hc.2)))))) <;> (try (conv => whnf))
 obtain ⟨r1, hr1⟩ : ∃ r, r = c := ⟨c, rfl⟩
 have h1 : H r1 = none := by rw [hr1]; assumption
 rw [← hr1]
 refine Then.mk ?_
 (repeat' ((conv => whnf); first | left | refine zd ?_ | (refine Both.mk ?_ ?_ <;> intro hc <;> try exact wX hc) | (intro c hc; (try (simp only [AH.zA] at hc; repeat (have hn := hc.1; replace hc := hc.2)))))) <;> (try (conv => whnf))
 refine Then.mk (AWq.in ?_)
 refine AWp_nilrow1 3 1 rfl rfl fun r3 hr3 => ?_
 obtain ⟨h31, h3⟩ := AH.none_set hr3
 refine AWp.of zU (dok _) rfl ?_
 (repeat' ((conv => whnf); first | left | refine zd ?_ | (refine Both.mk ?_ ?_ <;> intro hc <;> try exact wX hc) | (intro c hc; (try (simp only [AH.zA] at hc; repeat (have hn := hc.1; replace hc := hc.2)))))) <;> (try (conv => whnf))
 refine zT (σ := Nat) (3 :: 4 :: 5 :: 6 :: 7 :: 10 :: 11 :: 12 :: 13 :: 14 :: 15 :: 16 :: 17 :: 18 :: 19 :: 20 :: 21 :: 22 :: 23 :: 24 :: 25 :: 26 :: 27 :: 28 :: 29 :: []) (fun i => [(3, .sl r3 i 1 0 i none)]) (fun i => (AH.set H r1 (.row [.bool false, .cs (dA (dg (u / 2 ^ i))) (dg (u / 2 ^ i)).length] 0)).set r3 (.row (dA (le2 u i)) i)) (fun i => i ≤ N) (fun i => N - i) 0 rfl (Nat.zero_le _) ⟨rfl, trivial⟩ ?_ ?_
 ·refine HLe.of_eq ?_
  rw [Nat.pow_zero, Nat.div_one]
  rfl
 ·intro i hi
  dsimp only at hi ⊢
  refine AWp.of zU (dok _) rfl ?_
  have k3 : ((AH.set H r1 (.row [.bool false, .cs (dA (dg (u / 2 ^ i))) (dg (u / 2 ^ i)).length] 0)).set r3 (.row (dA (le2 u i)) i)) r3 = some (.row (dA (le2 u i)) i) := AH.zC _ _ _
  have k1 : ((AH.set H r1 (.row [.bool false, .cs (dA (dg (u / 2 ^ i))) (dg (u / 2 ^ i)).length] 0)).set r3 (.row (dA (le2 u i)) i)) r1 = some (.row [.bool false, .cs (dA (dg (u / 2 ^ i))) (dg (u / 2 ^ i)).length] 0) := by rw [AH.zR _ _ (Ne.symm h31), AH.zC]
  have hle : HLe H ((AH.set H r1 (.row [.bool false, .cs (dA (dg (u / 2 ^ i))) (dg (u / 2 ^ i)).length] 0)).set r3 (.row (dA (le2 u i)) i)) := HLe.set_of _ _ (HLe.set_of _ _ (HLe.refl _) h1) h3
  have hlen : (dA (le2 u i)).length = i := by simp
  by_cases hin : i < N
  ·have hset : ∀ X Y, ((((AH.set H r1 (.row [.bool false, .cs (dA (dg (u / 2 ^ i))) (dg (u / 2 ^ i)).length] 0)).set r3 (.row (dA (le2 u i)) i)).set r3 Y).set r1 X) = (AH.set H r1 X).set r3 Y := fun X Y => by
    rw [AH.zS, AH.set_back _ (Ne.symm h31)]
   generalize ((AH.set H r1 (.row [.bool false, .cs (dA (dg (u / 2 ^ i))) (dg (u / 2 ^ i)).length] 0)).set r3 (.row (dA (le2 u i)) i)) = B at *
   have hdl := dg_le (Nat.div_le_self u (2 ^ i))
   have dv := fun H => divN_c (u / 2 ^ i) 2 (by omega) (by decide) (by decide) H
   have hm := Nat.mod_lt (u / 2 ^ i) (show 0 < 2 by decide)
   have sm := fun H => smallI_c (u / 2 ^ i % 2) (by omega) H
   have hq : u / 2 ^ i / 2 = u / 2 ^ (i + 1) := by rw [Nat.pow_succ, Nat.div_div_eq_div_mul]
   have hx0 := hpos i hin
   have hdp : 0 < (dg (u / 2 ^ i)).length := by rw [dg_pos hx0, List.length_cons]; omega
   rw [hq] at dv
   have hls := le2_succ u i
   have hll := le2_len u i
   generalize u / 2 ^ i % 2 = m at *
   generalize hqq : u / 2 ^ (i + 1) = q at *
   generalize u / 2 ^ i = x at *
   generalize le2 u i = ls at *
   unfold nR at dv
   unfold nR at sm
   (repeat' ((conv => whnf); first | refine Then.mk ?_ | left | refine zs ?_ | (refine Both.mk ?_ ?_ <;> intro hc <;> try exact wX hc) | (intro c hc; (try (simp only [AH.zA] at hc; repeat (have hn := hc.1; replace hc := hc.2)))))) <;> (try (conv => whnf))
   refine AWq.in ?_
   refine AWp_spare fun a ha => ?_
   refine AWp_spare fun b hb => ?_
   obtain ⟨nm, k0, k1'⟩ : ∃ nm : Nat → Nat, nm 0 = a ∧ nm 1 = b := ⟨fun k => if k = 0 then a else b, rfl, rfl⟩
   subst k0 k1'
   obtain ⟨n10, hb⟩ := AH.none_set hb
   have n30 : nm 0 ≠ r3 := AH.ne_none' ha k3
   have n31 : nm 1 ≠ r3 := AH.ne_none' hb k3
   have n40 : nm 0 ≠ r1 := AH.ne_none' ha k1
   have n41 : nm 1 ≠ r1 := AH.ne_none' hb k1
   refine AWp.of zU (dok _) rfl ?_
   refine AWq.drawK mo [(4, 0), (5, 1)] nm ?_ (by decide +kernel) ?_
   ·intro a b ha hb hab
    simp at ha hb
    rcases ha with rfl | rfl <;> rcases hb with rfl | rfl <;> first | rfl | exact absurd hab n10 | exact absurd hab (Ne.symm n10)
   (repeat' ((conv => whnf); first | refine DrawK.consD ?_ | refine DrawK.nil ?_ | (apply And.intro; (focus (repeat (first | exact trivial | (refine And.intro (a := _ ≠ _) (b := offR _ _ _) ?_ ?_; (first | assumption | omega | exact Ne.symm (by assumption) | exact AH.ne_none (by assumption) (by assumption) | exact AH.none_ne (by assumption) (by assumption) | exact (AH.none_set (by assumption)).1 | exact Ne.symm (AH.none_set (by assumption)).1)))); done)) | (apply And.intro; exact o2 _) | (apply And.intro; exact dv _) | (apply And.intro; exact sm _) | refine Then.mk ?_ | left | refine zg ?_ (o2 _) | refine zg ?_ (dv _) | refine zg ?_ (sm _) | refine zgg ?_ (o2 _) | refine zgg ?_ (dv _) | refine zgg ?_ (sm _) | refine zd ?_ | (refine Both.mk ?_ ?_ <;> intro hc <;> try exact wX hc) | (intro c hc; (try (simp only [AH.zA] at hc; repeat (have hn := hc.1; replace hc := hc.2)))) | (refine ACall.to (o2 _) ?_) | (refine ACall.to (dv _) ?_) | (refine ACall.to (sm _) ?_))) <;> (try (conv => whnf))
   refine ⟨i + 1, hin, by omega, ⟨?_, trivial⟩, ?_⟩
   ·rfl
   ·dsimp only
    rw [hls, ← hset, hqq, ← dA_snoc]
    refine HLe.set (HLe.set ?_ _ _) _ _
    (first | ((repeat' (first | (with_reducible exact HLe.refl _) | (with_reducible assumption) | apply HLe.push | refine HLe.set_of _ _ ?_ ?_ | refine HLe.del _ ?_ ?_ | rw [AH.zR _ _ (by (first | assumption | omega | exact Ne.symm (by assumption) | exact AH.ne_none (by assumption) (by assumption) | exact AH.none_ne (by assumption) (by assumption) | exact (AH.none_set (by assumption)).1 | exact Ne.symm (AH.none_set (by assumption)).1))])); done) | ((repeat' (first | refine HLe.set_of _ _ ?_ ?_ | refine HLe.del _ ?_ ?_)) <;> (first | assumption | exact HLe.refl _ | exact HLe.none (by assumption) (by assumption) | (simp_all; done))))
  ·have hie : i = N := by omega
   have hx0 : u / 2 ^ i = 0 := Nat.div_eq_of_lt (by rw [hie]; exact hlt)
   have hdz : (dg (u / 2 ^ i)).length = 0 := by rw [hx0, dg_zero]; rfl
   have hcell : ∀ j, j < i → (dA (le2 u i))[(j : Int).toNat]? = some (.int .i64 (u / 2 ^ j % 2 : Nat)) := fun j hj => by
    rw [dA_gi (by rw [le2_len]; exact hj), le2_at hj]
   clear hx0
   generalize dA (dg (u / 2 ^ i)) = gg at *
   generalize (dg (u / 2 ^ i)).length = gl at *
   subst hdz
   generalize ((AH.set H r1 (.row [.bool false, .cs gg 0] 0)).set r3 (.row (dA (le2 u i)) i)) = B at *
   generalize dA (le2 u i) = cells at *
   subst hie
   (repeat' ((conv => whnf); first | left | refine zd ?_ | (refine Both.mk ?_ ?_ <;> intro hc <;> try exact wX hc) | (intro c hc; (try (simp only [AH.zA] at hc; repeat (have hn := hc.1; replace hc := hc.2)))))) <;> (try (conv => whnf))
   refine Then.mk ?_
   (repeat' ((conv => whnf); first | left | refine zd ?_ | (refine Both.mk ?_ ?_ <;> intro hc <;> try exact wX hc) | (intro c hc; (try (simp only [AH.zA] at hc; repeat (have hn := hc.1; replace hc := hc.2)))))) <;> (try (conv => whnf))
   refine Then.mk ?_
   (repeat' ((conv => whnf); first | left | refine zd ?_ | (refine Both.mk ?_ ?_ <;> intro hc <;> try exact wX hc) | (intro c hc; (try (simp only [AH.zA] at hc; repeat (have hn := hc.1; replace hc := hc.2)))))) <;> (try (conv => whnf))
   refine Then.mk (AWq.in ?_)
   refine AWp_nilrow1 8 1 rfl rfl fun r hr => ?_
   have hrH : H r = none := HLe.none hle hr
   have hr3 : r3 ≠ r := AH.ne_none hr k3
   refine AWp.of zU (dok _) rfl ?_
   (repeat' ((conv => whnf); first | left | refine zd ?_ | (refine Both.mk ?_ ?_ <;> intro hc <;> try exact wX hc) | (intro c hc; (try (simp only [AH.zA] at hc; repeat (have hn := hc.1; replace hc := hc.2)))))) <;> (try (conv => whnf))
   refine Then.mk ?_
   (repeat' ((conv => whnf); first | left | refine zd ?_ | (refine Both.mk ?_ ?_ <;> intro hc <;> try exact wX hc) | (intro c hc; (try (simp only [AH.zA] at hc; repeat (have hn := hc.1; replace hc := hc.2)))))) <;> (try (conv => whnf))
   refine zT (σ := Nat) (8 :: 9 :: 33 :: 34 :: 35 :: 36 :: 37 :: 38 :: 39 :: 40 :: 41 :: 42 :: 43 :: []) (fun k => [(8, .sl r k 1 0 k none), (9, .int .i64 ((i : Int) - 1 - k))]) (fun k => B.set r (.row (dA (be2 u i k)) k)) (fun k => k ≤ i) (fun k => i - k) 0 rfl (Nat.zero_le _) ⟨rfl, congrArg (AV.int .i64) (by omega), trivial⟩ (HLe.refl _) ?_
   intro k hk
   dsimp only at hk ⊢
   refine AWp.of zU (dok _) rfl ?_
   have kr : (B.set r (.row (dA (be2 u i k)) k)) r = some (.row (dA (be2 u i k)) k) := AH.zC _ _ _
   have k3' : (B.set r (.row (dA (be2 u i k)) k)) r3 = some (.row cells i) := by rw [AH.zR _ _ hr3]; exact k3
   have hbl := be2_len u i k
   have hul : (dA (be2 u i k)).length = k * 1 := by simp [hbl]
   by_cases hki : k < i
   ·have hcl := hcell (i - 1 - k) (by omega)
    rw [show ((i - 1 - k : Nat) : Int) = (i : Int) - 1 - k by omega] at hcl
    have hsn : dA (be2 u i k) ++ [.int .i64 (u / 2 ^ (i - 1 - k) % 2 : Nat)] = dA (be2 u i (k + 1)) := dA_snoc _ _
    generalize u / 2 ^ (i - 1 - k) % 2 = z at *
    have hfin : ∀ o, (B.set r (.row (dA (be2 u i k)) k)).set r o = B.set r o := fun o => AH.zS _ _ _ _
    generalize (B.set r (.row (dA (be2 u i k)) k)) = C at *
    (repeat' ((conv => whnf); first | refine Then.mk ?_ | left | refine zd ?_ | (refine Both.mk ?_ ?_ <;> intro hc <;> try exact wX hc) | (intro c hc; (try (simp only [AH.zA] at hc; repeat (have hn := hc.1; replace hc := hc.2)))))) <;> (try (conv => whnf))
    refine ⟨k + 1, hki, by omega, ⟨rfl, congrArg (AV.int .i64) (by omega), trivial⟩, HLe.of_eq ?_⟩
    rw [hfin, ← hsn]
   ·have hke : k = i := by omega
    subst hke
    (repeat' ((conv => whnf); first | left | refine zd ?_ | (refine Both.mk ?_ ?_ <;> intro hc <;> try exact wX hc) | (intro c hc; (try (simp only [AH.zA] at hc; repeat (have hn := hc.1; replace hc := hc.2)))))) <;> (try (conv => whnf))
    refine Then.mk (AWq.in ?_)
    refine AWp_freeze1 (r := r) (v := k) (es := 1) (n := k) (lim := none) (cells := dA (be2 u k k)) 8 rfl rfl kr hul ?_
    refine AWp.of zU (dok _) rfl ?_
    rw [AH.del_set _ _ _ hr]
    (repeat' ((conv => whnf); first | refine Then.mk ?_ | left | refine zd ?_ | (refine Both.mk ?_ ?_ <;> intro hc <;> try exact wX hc) | (intro c hc; (try (simp only [AH.zA] at hc; repeat (have hn := hc.1; replace hc := hc.2)))))) <;> (try (conv => whnf))
    exact hle
open Go.Fw Go
set_option maxRecDepth 8000 in
set_option maxHeartbeats 4000000 in
theorem rcInts_c (l : List Int) (hl : I64L l) (hlim : l.length ≤ 65536) (H : AH) :
  ACall Tryz.prog 69 [.cs (iS .i64 l) l.length] H (fun y H' => y = .cs (u8s (codeS (intsI (l.map fold) is0).E.σ)) (codeS (intsI (l.map fold) is0).E.σ).length ∧ H' = H) := by
 refine ACall.fin ?_
 have hsl : (iS .i64 l).length = l.length * 1 := by simp
 refine zQ zU (dok _) Tryz.func69 rfl (by decide) rfl ?_
 (repeat' ((conv => whnf); first | refine Then.mk ?_ | left | refine zd ?_ | (refine Both.mk ?_ ?_ <;> intro hc <;> try exact wX hc) | (intro c hc; (try (simp only [AH.zA] at hc; repeat (have hn := hc.1; replace hc := hc.2)))))) <;> (try (conv => whnf))
 refine (rmodels_c 65 65 (by omega) (by omega) _).mono ?_
 rintro y H' ⟨P, Q, rfl, hmods, hle, hnew⟩
 have hpl : (psL P 65).length = 65 := psL_len _ _
 (repeat' ((conv => whnf); first | refine Then.mk ?_ | left | refine zd ?_ | (refine Both.mk ?_ ?_ <;> intro hc <;> try exact wX hc) | (intro c hc; (try (simp only [AH.zA] at hc; repeat (have hn := hc.1; replace hc := hc.2)))))) <;> (try (conv => whnf))
 refine (rbegin_c _).mono ?_
 rintro y G ⟨w, rfl, hw, rfl⟩
 have hcd : RdC H (rcG H' w cs0) P Q w 65 65 es0 := by
  have hd : ∀ k, k < 65 → P k ≠ w ∧ Q k ≠ w := fun k hk => hmods.fresh hw hk
  exact ⟨hmods.same fun k hk => ⟨AH.zR _ _ (hd k hk).1, AH.zR _ _ (hd k hk).2⟩, AH.zC _ _ _, hd, HLe.set_of _ _ hle (HLe.none hle hw), hnew, HLe.none hle hw⟩
 generalize rcG H' w cs0 = G0 at hcd ⊢
 (repeat' ((conv => whnf); first | refine Then.mk ?_ | left | refine zd ?_ | (refine Both.mk ?_ ?_ <;> intro hc <;> try exact wX hc) | (intro c hc; (try (simp only [AH.zA] at hc; repeat (have hn := hc.1; replace hc := hc.2)))))) <;> (try (conv => whnf))
 refine zT (σ := AH × Nat × Is) (5 :: 6 :: 7 :: 8 :: 11 :: 12 :: 13 :: 14 :: 15 :: 16 :: 17 :: 18 :: 19 :: 20 :: 21 :: 22 :: 23 :: 24 :: 25 :: 26 :: 27 :: 28 :: 29 :: 30 :: 31 :: 32 :: 33 :: 34 :: 35 :: 36 :: 37 :: 38 :: 39 :: 40 :: 41 :: 42 :: 43 :: 44 :: []) (fun (G, i, I) => [(5, .int .i64 I.b), (6, .int .i64 i)]) (fun (G, i, I) => G) (fun (G, i, I) => i ≤ l.length ∧ intsI ((l.take i).map fold) is0 = I ∧ RdC H G P Q w 65 65 I.E) (fun (G, i, I) => l.length - i) (G0, 0, is0) rfl ?_ ?_ (HLe.refl _) ?_
 ·exact ⟨Nat.zero_le _, rfl, hcd⟩
 ·exact ⟨rfl, rfl, trivial⟩
 ·rintro ⟨G, i, I⟩ ⟨hi, hI, hcd⟩
  dsimp only at hi hI hcd ⊢
  refine AWp.of zU (dok _) rfl ?_
  have hok : IsOk I := by rw [← hI]; exact intsI_ok (fold_all (hl.take i)) is0_ok
  have hL : I.E.σ.L ≤ 130 * 65536 := by
   have := intsI_L ((l.take i).map fold) (I := is0) (fold_all (hl.take i)) is0_ok
   rw [hI] at this
   have h0 : is0.E.σ.L = 0 := rfl
   rw [h0, List.length_map, List.length_take] at this
   omega
  have hb := hok.b
  by_cases hil : i < l.length
  ·have hga : (iS .i64 l)[(i : Int).toNat]? = some (.int .i64 (l.getD i 0)) := iS_get hil
   have ha := hl.at i
   have hn : intsI ((l.take (i + 1)).map fold) is0 = intI I (fold (l.getD i 0)) := by
    rw [List.take_add_one, List.getElem?_eq_getElem hil, List.map_append]
    have : l.getD i 0 = l[i] := by rw [List.getD_eq_getElem?_getD, List.getElem?_eq_getElem hil]; rfl
    rw [this]
    show intsI (_ ++ [fold l[i]]) is0 = _
    rw [intsI_snoc, hI]
   generalize l.getD i 0 = a at *
   have hfold := fun H => rfold_c a ha H
   have hu := fold_lt ha
   generalize fold a = u at *
   have hdg := fun H => rdigits_c u hu H
   have hlb := lenB_le hu
   have hsm := hcd.symbol hok.es.cs (by omega) (k := I.b) (s := lenB u) (by omega) (by omega)
   have hcd2 := hcd.sym (k := I.b) (s := lenB u) (by omega) (by omega)
   have hok2 := hok.es.sym I.b (s := lenB u) (by omega)
   have hL2 : (symE 65 I.E I.b (lenB u)).σ.L ≤ I.E.σ.L + 2 := stp_L hok.es.cs (hok.es.st I.b (s := lenB u) (by omega))
   have hgp : (psL P 65)[(I.b : Int).toNat]? = some (.ptr (P I.b) 0 0) := psL_get (by omega)
   have hfin : intI I u = ⟨⟨(symE 65 I.E I.b (lenB u)).M, bitsE u (lenB u - 1) (symE 65 I.E I.b (lenB u)).σ⟩, lenB u⟩ := rfl
   generalize symE 65 I.E I.b (lenB u) = E2 at *
   obtain ⟨C, hC⟩ : ∃ C, C = lenB u := ⟨_, rfl⟩
   rw [← hC] at hlb hfin hdg hsm hcd2
   have hcell : ∀ j, j < C → (dA (be2 u C C))[(j : Int).toNat]? = some (.int .i64 (u / 2 ^ (C - 1 - j) % 2 : Nat)) := fun j hj => by
    rw [dA_gi (by rw [be2_len]; exact hj), be2_at _ _ hj]
   have hdl : (dA (be2 u C C)).length = C := by simp [be2_len]
   unfold nR at hfold hdg
   generalize dA (be2 u C C) = ds at *
   generalize dA (dg u) = ud at *
   generalize (dg u).length = ul at *
   (repeat' ((conv => whnf); first | refine Then.mk ?_ | left | refine zg ?_ (hfold _) | refine zg ?_ (hdg _) | refine zg ?_ (hsm) | refine zgg ?_ (hfold _) | refine zgg ?_ (hdg _) | refine zgg ?_ (hsm) | refine zd ?_ | (refine Both.mk ?_ ?_ <;> intro hc <;> try exact wX hc) | (intro c hc; (try (simp only [AH.zA] at hc; repeat (have hn := hc.1; replace hc := hc.2)))) | (refine ACall.to (hfold _) ?_) | (refine ACall.to (hdg _) ?_) | (refine ACall.to (hsm) ?_))) <;> (try (conv => whnf))
   generalize reG G Q w 65 I.E I.b C = G1 at hcd2 ⊢
   refine zT (σ := AH × Nat × Cs) (8 :: 31 :: 32 :: 33 :: 34 :: 35 :: 36 :: 37 :: 38 :: 39 :: 40 :: 41 :: 42 :: []) (fun (G, j, τ) => [(8, .int .i64 j)]) (fun (G, j, τ) => G) (fun (G, j, τ) => 1 ≤ j ∧ bitsE u (C - j) τ = bitsE u (C - 1) E2.σ ∧ CsOk τ ∧ τ.L + 2 * (C - j) ≤ 20000000 ∧ RdC H G P Q w 65 65 ⟨E2.M, τ⟩) (fun (G, j, τ) => C - j) (G1, 1, E2.σ) rfl ?_ ?_ (HLe.refl _) ?_
   ·exact ⟨Nat.le_refl _, rfl, hok2.cs, by omega, hcd2⟩
   ·exact ⟨rfl, trivial⟩
   ·rintro ⟨G2, j, τ⟩ ⟨k1, k2, k3, k4, k6⟩
    dsimp only at k1 k2 k3 k4 k6 ⊢
    refine AWp.of zU (dok _) rfl ?_
    by_cases hk : j < C
    ·obtain ⟨k, hkk⟩ : ∃ k, C - j = k + 1 := ⟨C - j - 1, by omega⟩
     have hcl := hcell j hk
     rw [show C - 1 - j = k by omega] at hcl
     have hst := cstep_c k6.wr k3 (bit_st u k) (show τ.L ≤ _ by omega)
     have k6' := k6.step (bitE τ u k)
     have hok3 := bitE_ok k3 u k
     have hL3 : (bitE τ u k).L ≤ τ.L + 2 := stp_L k3 (bit_st u k)
     have hb2 : bitsE u (k + 1) τ = bitsE u k (bitE τ u k) := rfl
     have hst : ACall Tryz.prog 97 [.ptr w 0 0, .int .i64 (u / 2 ^ k % 2 : Nat), .int .i64 1, .int .i64 2] G2 (fun y H' => y = .tup [] ∧ H' = rcG G2 w (bitE τ u k)) := hst
     rw [hkk, hb2] at k2
     generalize bitE τ u k = τ2 at *
     have hx2 : u / 2 ^ k % 2 < 2 := Nat.mod_lt _ (by decide)
     generalize u / 2 ^ k % 2 = y at *
     (repeat' ((conv => whnf); first | refine Then.mk ?_ | left | refine zg ?_ (hst) | refine zgg ?_ (hst) | refine zd ?_ | (refine Both.mk ?_ ?_ <;> intro hc <;> try exact wX hc) | (intro c hc; (try (simp only [AH.zA] at hc; repeat (have hn := hc.1; replace hc := hc.2)))) | (refine ACall.to (hst) ?_))) <;> (try (conv => whnf))
     exact ⟨(_, j + 1, τ2), ⟨Nat.succ_le_succ (Nat.zero_le j), by rw [show C - (j + 1) = k by omega]; exact k2, hok3, by dsimp only; rw [show C - (j + 1) = k by omega]; omega, k6'⟩, by show C - (j + 1) < C - j; omega, ⟨congrArg (AV.int .i64) (by show (j : Int) + 1 = (j + 1 : Nat); omega), trivial⟩, HLe.refl _⟩
    ·have he2 : intI I u = ⟨⟨E2.M, τ⟩, C⟩ := by
      rw [hfin, ← k2, show C - j = 0 by omega]; rfl
     rw [he2] at hn
     (repeat' ((conv => whnf); first | refine Then.mk ?_ | left | refine zd ?_ | (refine Both.mk ?_ ?_ <;> intro hc <;> try exact wX hc) | (intro c hc; (try (simp only [AH.zA] at hc; repeat (have hn := hc.1; replace hc := hc.2)))))) <;> (try (conv => whnf))
     exact ⟨(G2, i + 1, ⟨⟨E2.M, τ⟩, C⟩), ⟨hil, hn, k6⟩, by show l.length - (i + 1) < l.length - i; omega, ⟨rfl, congrArg (AV.int .i64) (by show (i : Int) + 1 = (i + 1 : Nat); omega), trivial⟩, HLe.refl _⟩
  ·have hie : i = l.length := by omega
   have hcode := ccode_c hcd.wr hok.es.cs (by omega)
   rw [hie, List.take_length] at hI
   rw [hI]
   (repeat' ((conv => whnf); first | refine Then.mk ?_ | left | refine zg ?_ (hcode) | refine zgg ?_ (hcode) | refine zd ?_ | (refine Both.mk ?_ ?_ <;> intro hc <;> try exact wX hc) | (intro c hc; (try (simp only [AH.zA] at hc; repeat (have hn := hc.1; replace hc := hc.2)))) | (refine ACall.to (hcode) ?_))) <;> (try (conv => whnf))
   exact ⟨AVle.refl _, hcd.le⟩
open Go.Fw Go
set_option maxRecDepth 8000 in
theorem ezig_c (n : Int) (h1 : -9223372036854775808 ≤ n) (h2 : n ≤ 9223372036854775807) (H : AH) : ACall Tryz.prog 75 [.int .i64 n] H (fun y H' => y = .int .u64 (zz n) ∧ H' = H) := by
 refine zQ zU (dok _) Tryz.func75 rfl (by decide) rfl ?_
 (repeat' ((conv => whnf); first | refine Then.mk ?_ | left | refine zd ?_ | (refine Both.mk ?_ ?_ <;> intro hc <;> try exact wX hc) | (intro c hc; (try (simp only [AH.zA] at hc; repeat (have hn := hc.1; replace hc := hc.2)))))) <;> (try (conv => whnf))
 ·exact ⟨congrArg (AV.int .u64) (by unfold zz; rw [if_pos (by omega)]; omega), rfl⟩
 ·exact ⟨congrArg (AV.int .u64) (by unfold zz; rw [if_neg (by omega)]; omega), rfl⟩
set_option maxRecDepth 8000 in
theorem eUint_s (n : Nat) (hn : n < 2 ^ 64) (H : AH) :
  ACall Tryz.prog 74 [.int .u64 n] H (fun y H' => ∃ r, H r = none ∧ ∃ v, y = .sl r v 1 0 (encN n).length none ∧ H' = H.set r (.row (u8s (encN n)) v)) := by
 refine zQ zU (dok _) Tryz.func74 rfl (by decide) rfl ?_
 (repeat' ((conv => whnf); first | refine Then.mk ?_ | left | refine zd ?_ | (refine Both.mk ?_ ?_ <;> intro hc <;> try exact wX hc) | (intro c hc; (try (simp only [AH.zA] at hc; repeat (have hn := hc.1; replace hc := hc.2)))))) <;> (try (conv => whnf))
 refine AWp_nilrow1 3 1 rfl rfl fun r hr => ?_
 have hl10 := encN_len10 hn
 have hq : ∀ m : Nat, m < 2 ^ 64 → IntKind.u64.wrap ((m : Int).tdiv 128) = ((m / 128 : Nat) : Int) := fun m hm => by
  rw [Int.tdiv_eq_ediv_of_nonneg (by omega), wrap_u64']; omega
 have hb : ∀ m : Nat, IntKind.u8.wrap (IntKind.u64.wrap (128 + (m : Int).tmod 128)) = ((UInt8.ofNat (m % 128 + 128)).toNat : Int) := fun m => by
  rw [u8_ofNat (by omega), Int.tmod_eq_emod_of_nonneg (by omega)]
  show (_ % 18446744073709551616) % 256 = _
  omega
 refine zT (σ := Nat × List UInt8 × Nat) (0 :: 3 :: 4 :: 5 :: 6 :: 7 :: 8 :: 9 :: 10 :: 11 :: 12 :: 13 :: 14 :: []) (fun (m, pre, u) => [(0, .int .u64 m), (3, .sl r u 1 0 pre.length none)]) (fun (m, pre, u) => H.set r (.row (u8s pre) u)) (fun (m, pre, u) => m < 2 ^ 64 ∧ encN n = pre ++ encN m) (fun (m, pre, u) => m) (n, [], 0) rfl ?_ ?_ ?_ ?_
 ·exact ⟨hn, rfl⟩
 ·exact ⟨rfl, rfl, trivial⟩
 ·exact HLe.refl _
 ·rintro ⟨m, pre, u⟩ ⟨hm, he⟩
  refine AWp.of zU (dok _) rfl ?_
  have hpl : pre.length ≤ 9 := by
   have := congrArg List.length he
   have := encN_pos m
   rw [List.length_append] at *; omega
  have hqm := hq m hm
  have hbm := hb m
  clear hq hb
  (repeat' ((conv => whnf); first | refine Then.mk ?_ | left | refine zd ?_ | (refine Both.mk ?_ ?_ <;> intro hc <;> try exact wX hc) | (intro c hc; (try (simp only [AH.zA] at hc; repeat (have hn := hc.1; replace hc := hc.2)))))) <;> (try (conv => whnf))
  ·refine ⟨(m / 128, pre ++ [UInt8.ofNat (m % 128 + 128)], u + 1), ⟨by omega, by rw [he, encN_ge (by omega)]; simp⟩, by show m / 128 < m; omega, ⟨by first | rfl | exact congrArg (AV.int .u64) hqm, by rw [List.length_append]; rfl, trivial⟩, ?_⟩
   show HLe (H.set r (.row (u8s (pre ++ [UInt8.ofNat (m % 128 + 128)])) (u + 1))) _
   rw [← u8s_append]
   show HLe (H.set r (.row (u8s pre ++ [.int .u8 ((UInt8.ofNat (m % 128 + 128)).toNat : Int)]) (u + 1))) _
   rw [← hbm]
   exact HLe.twice _ _ _ _
  ·have e : (m : Int) = ((UInt8.ofNat m).toNat : Int) := by rw [u8_ofNat (by omega)]
   rw [he, encN_lt (by omega)]
   refine ⟨u + 1, by rw [List.length_append]; rfl, ?_⟩
   rw [← u8s_append]
   refine (AH.zS H r _ _).trans ?_
   rw [e]
   rfl
set_option maxRecDepth 8000 in
theorem eRaw_k (b : List UInt8) (hb : b.length ≤ 100000) (H : AH) : ACall Tryz.prog 37 [.cs (u8s b) b.length] H (fun y H' => y = .cs (u8s (encR b)) (encR b).length ∧ H' = H) := by
 refine ACall.cold (es := 1) (by simp) ?_
 have hl10 := encN_len10 (n := b.length) (by omega)
 refine zQ zU (dok _) Tryz.func37 rfl (by decide) rfl ?_
 (repeat' ((conv => whnf); first | refine Then.mk ?_ | left | refine zd ?_ | (refine Both.mk ?_ ?_ <;> intro hc <;> try exact wX hc) | (intro c hc; (try (simp only [AH.zA] at hc; repeat (have hn := hc.1; replace hc := hc.2)))))) <;> (try (conv => whnf))
 refine (eUint_s b.length (by omega) _).mono ?_
 rintro y H' ⟨r, hr, v, rfl, rfl⟩
 (repeat' ((conv => whnf); first | refine Then.mk ?_ | refine zd ?_ | (refine Both.mk ?_ ?_ <;> intro hc <;> try exact wX hc) | (intro c hc; (try (simp only [AH.zA] at hc; repeat (have hn := hc.1; replace hc := hc.2)))))) <;> (try (conv => whnf))
 refine ⟨v + 1, ?_, ?_⟩
 ·unfold encR; rw [List.length_append]
 ·unfold encR
  rw [← u8s_append]
  exact AH.zS H r _ _
open Go.Fw Go
def lev (m : Nat) : Nat := if m < 1 then 0 else if m < 2 then 1 else if m < 4 then 2 else if m < 8 then 3 else if m < 16 then 4 else 5
def blk (r c : Nat) : Nat := if lev (max r c) = 0 then 0 else if r < 2 ^ (lev (max r c) - 1) then 3 * lev (max r c) - 2 else if c < 2 ^ (lev (max r c) - 1) then 3 * lev (max r c) - 1 else 3 * lev (max r c)
open Go.Fw Go
theorem lev_iff {j m : Nat} (hm : m < 16) (hj : j ≤ 4) : 2 ^ j ≤ m ↔ j < lev m := by
 unfold lev
 rcases (show j = 0 ∨ j = 1 ∨ j = 2 ∨ j = 3 ∨ j = 4 by omega) with rfl | rfl | rfl | rfl | rfl <;> simp <;> (repeat' split) <;> omega
theorem lev_4 {m : Nat} (hm : m < 16) : lev m ≤ 4 := by
 unfold lev; (repeat' split) <;> omega
set_option maxRecDepth 8000 in
theorem Block_c (r c : Nat) (hr : r < 16) (hc : c < 16) (H : AH) : ACall Tryz.prog 101 [.int .i64 r, .int .i64 c] H (fun y H' => y = .int .i64 (blk r c) ∧ H' = H) := by
 obtain ⟨m, hm⟩ : ∃ m, m = max r c := ⟨_, rfl⟩
 have hm16 : m < 16 := by omega
 have hl4 := lev_4 hm16
 have hif := fun j hj => lev_iff (j := j) hm16 hj
 obtain ⟨b, hb⟩ : ∃ b, b = blk r c := ⟨_, rfl⟩
 rw [← hb]
 unfold blk at hb
 rw [← hm] at hb
 obtain ⟨l, hl⟩ : ∃ l, l = lev m := ⟨_, rfl⟩
 rw [← hl] at hb hl4 hif
 refine zQ zU (dok _) Tryz.func101 rfl (by decide) rfl ?_
 (repeat' ((conv => whnf); first | refine Then.mk ?_ | left | refine zd ?_ | (refine Both.mk ?_ ?_ <;> intro hc <;> try exact wX hc) | (intro c hc; (try (simp only [AH.zA] at hc; repeat (have hn := hc.1; replace hc := hc.2)))))) <;> (try (conv => whnf))
 refine zT (σ := Nat) (5 :: 6 :: 8 :: 9 :: 10 :: 11 :: 12 :: 13 :: 14 :: 15 :: 16 :: 17 :: 18 :: 19 :: []) (fun j => [(6, .int .i64 (2 ^ j : Nat)), (5, .int .i64 (3 * j : Nat))]) (fun _ => H) (fun j => j ≤ l) (fun j => l - j) 0 rfl ?_ ?_ ?_ ?_
 ·exact Nat.zero_le _
 ·exact ⟨rfl, rfl, trivial⟩
 ·exact HLe.refl _
 ·rintro j hj
  refine AWp.of zU (dok _) rfl ?_
  have hjj := hif j (by omega)
  have hpj : 2 ^ j ≤ 2 ^ 4 := Nat.pow_le_pow_right (by omega) (by omega)
  have hps : ((2 ^ (j + 1) : Nat) : Int) = ((2 ^ j : Nat) : Int) * 2 := by rw [Nat.pow_succ, Int.natCast_mul]; rfl
  by_cases hjl : j < l
  ·have hle := hjj.2 hjl
   generalize 2 ^ j = P at *
   have hor : (P : Int) ≤ r ∨ (P : Int) ≤ c := by omega
   (repeat' ((conv => whnf); first | refine Then.mk ?_ | left | refine zd ?_ | (refine Both.mk ?_ ?_ <;> intro hc <;> try exact wX hc) | (intro c hc; (try (simp only [AH.zA] at hc; repeat (have hn := hc.1; replace hc := hc.2)))))) <;> (try (conv => whnf))
   all_goals exact ⟨j + 1, by omega, by omega, ⟨congrArg (AV.int .i64) hps.symm, congrArg (AV.int .i64) (by omega), trivial⟩, HLe.refl _⟩
  ·have hje : j = l := by omega
   have hn : ¬ 2 ^ j ≤ m := fun h => hjl (hjj.1 h)
   have hn1 : ¬ ((2 ^ j : Nat) : Int) ≤ r := by omega
   have hn2 : ¬ ((2 ^ j : Nat) : Int) ≤ c := by omega
   subst hje
   by_cases hl0 : j = 0
   ·subst hl0
    rw [if_pos rfl] at hb
    (repeat' ((conv => whnf); first | refine Then.mk ?_ | left | refine zd ?_ | (refine Both.mk ?_ ?_ <;> intro hc <;> try exact wX hc) | (intro c hc; (try (simp only [AH.zA] at hc; repeat (have hn := hc.1; replace hc := hc.2)))))) <;> (try (conv => whnf))
   ·rw [if_neg hl0] at hb
    (repeat' ((conv => whnf); first | refine Then.mk ?_ | left | refine zd ?_ | (refine Both.mk ?_ ?_ <;> intro hc <;> try exact wX hc) | (intro c hc; (try (simp only [AH.zA] at hc; repeat (have hn := hc.1; replace hc := hc.2)))))) <;> (try (conv => whnf))
    refine zT (σ := Nat) (7 :: 22 :: 23 :: 24 :: 25 :: 26 :: 27 :: 28 :: 29 :: 30 :: 31 :: 32 :: 33 :: []) (fun i => [(7, .int .i64 (2 ^ i : Nat))]) (fun _ => H) (fun i => i ≤ j - 1) (fun i => j - i) 0 rfl ?_ ?_ ?_ ?_
    ·exact Nat.zero_le _
    ·exact ⟨rfl, trivial⟩
    ·exact HLe.refl _
    ·rintro i hi
     refine AWp.of zU (dok _) rfl ?_
     have hii := hif (i + 1) (by omega)
     have hpi : 2 ^ i ≤ 2 ^ 4 := Nat.pow_le_pow_right (by omega) (by omega)
     have hps : ((2 ^ (i + 1) : Nat) : Int) = ((2 ^ i : Nat) : Int) * 2 := by rw [Nat.pow_succ, Int.natCast_mul]; rfl
     by_cases hil : i + 1 < j
     ·have hle := hii.2 hil
      rw [pow_half] at hle
      generalize 2 ^ i = Q at *
      have hor : 2 * (Q : Int) ≤ r ∨ 2 * (Q : Int) ≤ c := by omega
      (repeat' ((conv => whnf); first | refine Then.mk ?_ | left | refine zd ?_ | (refine Both.mk ?_ ?_ <;> intro hc <;> try exact wX hc) | (intro c hc; (try (simp only [AH.zA] at hc; repeat (have hn := hc.1; replace hc := hc.2)))))) <;> (try (conv => whnf))
      all_goals exact ⟨i + 1, by omega, by omega, ⟨congrArg (AV.int .i64) hps.symm, trivial⟩, HLe.refl _⟩
     ·have hie : i = j - 1 := by omega
      have hn3 : ¬ 2 ^ (i + 1) ≤ m := fun h => hil (hii.1 h)
      rw [pow_half] at hn3
      rw [← hie] at hb
      generalize 2 ^ i = Q at *
      have hn4 : ¬ 2 * (Q : Int) ≤ r := by omega
      have hn5 : ¬ 2 * (Q : Int) ≤ c := by omega
      by_cases c1 : r < Q
      ·rw [if_pos c1] at hb
       (repeat' ((conv => whnf); first | refine Then.mk ?_ | left | refine zd ?_ | (refine Both.mk ?_ ?_ <;> intro hc <;> try exact wX hc) | (intro c hc; (try (simp only [AH.zA] at hc; repeat (have hn := hc.1; replace hc := hc.2)))))) <;> (try (conv => whnf))
      ·rw [if_neg c1] at hb
       by_cases c2 : c < Q
       ·rw [if_pos c2] at hb
        (repeat' ((conv => whnf); first | refine Then.mk ?_ | left | refine zd ?_ | (refine Both.mk ?_ ?_ <;> intro hc <;> try exact wX hc) | (intro c hc; (try (simp only [AH.zA] at hc; repeat (have hn := hc.1; replace hc := hc.2)))))) <;> (try (conv => whnf))
       ·rw [if_neg c2] at hb
        (repeat' ((conv => whnf); first | refine Then.mk ?_ | left | refine zd ?_ | (refine Both.mk ?_ ?_ <;> intro hc <;> try exact wX hc) | (intro c hc; (try (simp only [AH.zA] at hc; repeat (have hn := hc.1; replace hc := hc.2)))))) <;> (try (conv => whnf))
open Go.Fw Go
def zRow (S b i n : Nat) : List Int := (List.range n).filterMap fun k => if blk i k = b then some ((i * S + k : Nat) : Int) else none
def zBlk (S b n : Nat) : List Int := (List.range n).flatMap fun i => zRow S b i S
def zRef (S n : Nat) : List Int := (List.range n).flatMap fun b => zBlk S b S
theorem zRow_succ (S b i n : Nat) : zRow S b i (n + 1) = zRow S b i n ++ (if blk i n = b then [((i * S + n : Nat) : Int)] else []) := by
 unfold zRow
 rw [List.range_succ, List.filterMap_append]
 congr 1
 split <;> simp [*]
theorem zBlk_succ (S b n : Nat) : zBlk S b (n + 1) = zBlk S b n ++ zRow S b n S := by simp [zBlk, List.range_succ]
theorem zRef_succ (S n : Nat) : zRef S (n + 1) = zRef S n ++ zBlk S n S := by simp [zRef, List.range_succ]
theorem zRow_len (S b i n : Nat) : (zRow S b i n).length ≤ n := by
 unfold zRow
 have := List.length_filterMap_le (fun k => if blk i k = b then some ((i * S + k : Nat) : Int) else none) (List.range n)
 simpa using this
theorem zBlk_len (S b n : Nat) : (zBlk S b n).length ≤ n * S := by
 induction n with
 | zero => simp [zBlk]
 | succ n ih => rw [zBlk_succ, List.length_append, Nat.add_mul]; have := zRow_len S b n S; omega
theorem zRef_len (S n : Nat) : (zRef S n).length ≤ n * (S * S) := by
 induction n with
 | zero => simp [zRef]
 | succ n ih => rw [zRef_succ, List.length_append, Nat.add_mul]; have := zBlk_len S n S; omega
theorem zig_eq {k : Nat} (h : k ≤ 4) : zRef (2 ^ k) 13 = zgz (2 ^ k) k := by
 rcases (show k = 0 ∨ k = 1 ∨ k = 2 ∨ k = 3 ∨ k = 4 by omega) with rfl | rfl | rfl | rfl | rfl <;> decide +kernel
set_option maxRecDepth 8000 in
theorem rZig_c (S : Nat) (hS : 1 ≤ S ∧ S ≤ 16) (H : AH) : ACall Tryz.prog 71 [.int .i64 S] H (fun y H' => y = .cs (iS .i64 (zRef S 13)) (zRef S 13).length ∧ H' = H) := by
 refine ACall.coldX (es := 1) (Q := fun H' => H' = H) (by simp) ?_
 have hSS : S * S ≤ 256 := Nat.mul_le_mul hS.2 hS.2
 refine zQ zU (dok _) Tryz.func71 rfl (by decide) rfl ?_
 (repeat' ((conv => whnf); first | refine Then.mk ?_ | left | refine zd ?_ | (refine Both.mk ?_ ?_ <;> intro hc <;> try exact wX hc) | (intro c hc; (try (simp only [AH.zA] at hc; repeat (have hn := hc.1; replace hc := hc.2)))))) <;> (try (conv => whnf))
 refine AWp_nilrow1 3 1 rfl rfl fun q hq => ?_
 refine zT (σ := Nat × Nat) (3 :: 4 :: 5 :: 6 :: 7 :: 8 :: 9 :: 10 :: 11 :: 12 :: 13 :: 14 :: 15 :: 16 :: 17 :: 18 :: 19 :: 20 :: 21 :: 22 :: 23 :: 24 :: 25 :: 26 :: 27 :: 28 :: 29 :: 30 :: 31 :: 32 :: 33 :: []) (fun (b, v) => [(4, .int .i64 b), (3, .sl q v 1 0 (zRef S b).length none)]) (fun (b, v) => AH.set H q (.row (iS .i64 (zRef S b)) v)) (fun (b, v) => b ≤ 13) (fun (b, v) => 13 - b) (0, 0) rfl ?_ ?_ ?_ ?_
 ·exact Nat.zero_le _
 ·exact ⟨rfl, rfl, trivial⟩
 ·exact HLe.refl _
 ·rintro ⟨b, v⟩ hb
  dsimp only at hb ⊢
  refine AWp.of zU (dok _) rfl ?_
  have l1 := zRef_len S b
  have l1' : b * (S * S) ≤ 3328 := Nat.mul_le_mul hb hSS
  by_cases hb13 : b < 13
  ·have hsb := zRef_succ S b
   obtain ⟨D, hD⟩ : ∃ D, D = zRef S b := ⟨_, rfl⟩
   rw [← hD] at hsb l1 ⊢
   (repeat' ((conv => whnf); first | refine Then.mk ?_ | left | refine zd ?_ | (refine Both.mk ?_ ?_ <;> intro hc <;> try exact wX hc) | (intro c hc; (try (simp only [AH.zA] at hc; repeat (have hn := hc.1; replace hc := hc.2)))))) <;> (try (conv => whnf))
   refine zT (σ := Nat × Nat) (3 :: 5 :: 6 :: 11 :: 12 :: 13 :: 14 :: 15 :: 16 :: 17 :: 18 :: 19 :: 20 :: 21 :: 22 :: 23 :: 24 :: 25 :: 26 :: 27 :: 28 :: 29 :: 30 :: 31 :: 32 :: 33 :: []) (fun (i, v) => [(5, .int .i64 i), (3, .sl q v 1 0 (D ++ zBlk S b i).length none)]) (fun (i, v) => AH.set H q (.row (iS .i64 (D ++ zBlk S b i)) v)) (fun (i, v) => i ≤ S) (fun (i, v) => S - i) (0, v) rfl ?_ ?_ ?_ ?_
   ·exact Nat.zero_le _
   ·exact ⟨rfl, by show AV.sl q v 1 0 D.length none = AV.sl q v 1 0 (D ++ []).length none; rw [List.append_nil], trivial⟩
   ·refine HLe.of_eq ?_
    show AH.set H q (.row (iS .i64 (D ++ [])) v) = _
    rw [List.append_nil]
   ·rintro ⟨i, v⟩ hi
    dsimp only at hi ⊢
    refine AWp.of zU (dok _) rfl ?_
    have l2 := zBlk_len S b i
    have l2' : i * S ≤ 256 := Nat.le_trans (Nat.mul_le_mul_right _ hi) hSS
    by_cases hiS : i < S
    ·have hsi := zBlk_succ S b i
     have hEl : (D ++ zBlk S b i).length ≤ 4000 := by rw [List.length_append]; omega
     obtain ⟨E, hE⟩ : ∃ E, E = D ++ zBlk S b i := ⟨_, rfl⟩
     have hEn : D ++ zBlk S b (i + 1) = E ++ zRow S b i S := by rw [hsi, hE, List.append_assoc]
     rw [← hE] at hEl ⊢
     have m0 : 0 ≤ (i : Int) * S := Int.mul_nonneg (by omega) (by omega)
     have m1 : (i : Int) * S = ((i * S : Nat) : Int) := (Int.natCast_mul _ _).symm
     (repeat' ((conv => whnf); first | refine Then.mk ?_ | left | refine zd ?_ | (refine Both.mk ?_ ?_ <;> intro hc <;> try exact wX hc) | (intro c hc; (try (simp only [AH.zA] at hc; repeat (have hn := hc.1; replace hc := hc.2)))))) <;> (try (conv => whnf))
     refine zT (σ := Nat × Nat) (3 :: 6 :: 16 :: 17 :: 18 :: 19 :: 20 :: 21 :: 22 :: 23 :: 24 :: 25 :: 26 :: 27 :: 28 :: 29 :: 30 :: 31 :: 32 :: 33 :: []) (fun (k, v) => [(6, .int .i64 k), (3, .sl q v 1 0 (E ++ zRow S b i k).length none)]) (fun (k, v) => AH.set H q (.row (iS .i64 (E ++ zRow S b i k)) v)) (fun (k, v) => k ≤ S) (fun (k, v) => S - k) (0, v) rfl ?_ ?_ ?_ ?_
     ·exact Nat.zero_le _
     ·exact ⟨rfl, by show AV.sl q v 1 0 E.length none = AV.sl q v 1 0 (E ++ []).length none; rw [List.append_nil], trivial⟩
     ·refine HLe.of_eq ?_
      show AH.set H q (.row (iS .i64 (E ++ [])) v) = _
      rw [List.append_nil]
     ·rintro ⟨k, v⟩ hk
      dsimp only at hk ⊢
      refine AWp.of zU (dok _) rfl ?_
      have l3 := zRow_len S b i k
      by_cases hkS : k < S
      ·have hsk := zRow_succ S b i k
       have hFl : (E ++ zRow S b i k).length ≤ 4100 := by rw [List.length_append]; omega
       obtain ⟨F, hF⟩ : ∃ F, F = E ++ zRow S b i k := ⟨_, rfl⟩
       rw [← hF] at hFl ⊢
       have bk := fun H => Block_c i k (by omega) (by omega) H
       by_cases hbb : blk i k = b
       ·rw [hbb] at bk
        rw [if_pos hbb] at hsk
        have hFn : E ++ zRow S b i (k + 1) = F ++ [(i : Int) * S + k] := by rw [hsk, hF, List.append_assoc, m1]; rfl
        (repeat' ((conv => whnf); first | refine Then.mk ?_ | left | refine zg ?_ (bk _) | refine zgg ?_ (bk _) | refine zd ?_ | (refine Both.mk ?_ ?_ <;> intro hc <;> try exact wX hc) | (intro c hc; (try (simp only [AH.zA] at hc; repeat (have hn := hc.1; replace hc := hc.2)))) | (refine ACall.to (bk _) ?_))) <;> (try (conv => whnf))
        refine ⟨(k + 1, v + 1), by show k + 1 ≤ S; omega, by show S - (k + 1) < S - k; omega, ⟨congrArg (AV.int .i64) (by omega), ?_, trivial⟩, HLe.of_eq ?_⟩
        ·show AV.sl q (v + 1) 1 0 (F.length + 1) none = AV.sl q (v + 1) 1 0 (E ++ zRow S b i (k + 1)).length none
         rw [hFn, List.length_append]; rfl
        ·show AH.set H q (.row (iS .i64 (E ++ zRow S b i (k + 1))) (v + 1)) = _
         rw [hFn, ← iS_snoc]
         exact (AH.zS _ _ _ _).symm
       ·have hbi : ¬ ((blk i k : Nat) : Int) = b := by omega
        rw [if_neg hbb, List.append_nil] at hsk
        (repeat' ((conv => whnf); first | refine Then.mk ?_ | left | refine zg ?_ (bk _) | refine zgg ?_ (bk _) | refine zd ?_ | (refine Both.mk ?_ ?_ <;> intro hc <;> try exact wX hc) | (intro c hc; (try (simp only [AH.zA] at hc; repeat (have hn := hc.1; replace hc := hc.2)))) | (refine ACall.to (bk _) ?_))) <;> (try (conv => whnf))
        refine ⟨(k + 1, v), by show k + 1 ≤ S; omega, by show S - (k + 1) < S - k; omega, ⟨congrArg (AV.int .i64) (by omega), ?_, trivial⟩, HLe.of_eq ?_⟩
        ·show AV.sl q v 1 0 F.length none = AV.sl q v 1 0 (E ++ zRow S b i (k + 1)).length none
         rw [hsk, hF]
        ·show AH.set H q (.row (iS .i64 (E ++ zRow S b i (k + 1))) v) = _
         rw [hsk, hF]
      ·have hke : k = S := by omega
       (repeat' ((conv => whnf); first | refine Then.mk ?_ | left | refine zd ?_ | (refine Both.mk ?_ ?_ <;> intro hc <;> try exact wX hc) | (intro c hc; (try (simp only [AH.zA] at hc; repeat (have hn := hc.1; replace hc := hc.2)))))) <;> (try (conv => whnf))
       refine ⟨(i + 1, v), by show i + 1 ≤ S; omega, by show S - (i + 1) < S - i; omega, ⟨congrArg (AV.int .i64) (by omega), ?_, trivial⟩, HLe.of_eq ?_⟩
       ·show AV.sl q v 1 0 (E ++ zRow S b i k).length none = AV.sl q v 1 0 (D ++ zBlk S b (i + 1)).length none
        rw [hEn, hke]
       ·show AH.set H q (.row (iS .i64 (D ++ zBlk S b (i + 1))) v) = _
        rw [hEn, hke]
    ·have hie : i = S := by omega
     (repeat' ((conv => whnf); first | refine Then.mk ?_ | left | refine zd ?_ | (refine Both.mk ?_ ?_ <;> intro hc <;> try exact wX hc) | (intro c hc; (try (simp only [AH.zA] at hc; repeat (have hn := hc.1; replace hc := hc.2)))))) <;> (try (conv => whnf))
     refine ⟨(b + 1, v), by show b + 1 ≤ 13; omega, by show 13 - (b + 1) < 13 - b; omega, ⟨congrArg (AV.int .i64) (by omega), ?_, trivial⟩, HLe.of_eq ?_⟩
     ·show AV.sl q v 1 0 (D ++ zBlk S b i).length none = AV.sl q v 1 0 (zRef S (b + 1)).length none
      rw [hsb, hie]
     ·show AH.set H q (.row (iS .i64 (zRef S (b + 1))) v) = _
      rw [hsb, hie]
  ·have hbe : b = 13 := by omega
   subst hbe
   (repeat' ((conv => whnf); first | refine Then.mk ?_ | refine zd ?_ | (refine Both.mk ?_ ?_ <;> intro hc <;> try exact wX hc) | (intro c hc; (try (simp only [AH.zA] at hc; repeat (have hn := hc.1; replace hc := hc.2)))))) <;> (try (conv => whnf))
   exact .inr ⟨q, hq, v, rfl, rfl⟩
open Go.Fw Go
def Zr (Z : List Int) : Prop := ∀ H, ACall Tryz.prog 71 [.int .i64 16] H (fun y H' => y = .cs (iS .i64 Z) 256 ∧ H' = H)
theorem zr_ex : ∃ Z, ZO Z ∧ Zg Z ∧ Zr Z := by
 refine ⟨zgz (2 ^ 4) 4, zo_16, fun H => ?_, fun H => ?_⟩
 ·have h := zig_ok 4 (by decide) H
  have hl := zo_16.len
  generalize zgz (2 ^ 4) 4 = Z at *
  unfold resV at h
  dsimp only at h
  rw [hl] at h
  exact h
 ·have h := rZig_c 16 (by decide) H
  have hl := zo_16.len
  rw [show zRef 16 13 = zgz (2 ^ 4) 4 from zig_eq (k := 4) (by decide)] at h
  generalize zgz (2 ^ 4) 4 = Z at *
  rw [hl] at h
  exact h
theorem rInts_c (l : List Int) (hl : I64L l) (hlim : l.length ≤ 65536) (H : AH) :
  ACall Tryz.prog 69 [.cs (iS .i64 l) l.length] H (fun y H' => y = .cs (u8s (intsS l).1) (intsS l).1.length ∧ H' = H) := by
 have h := rcInts_c l hl hlim H
 rw [← show (intsS l).1 = codeS (intsI (l.map fold) is0).E.σ by unfold intsS; rw [if_pos hlim]] at h
 exact h
set_option maxRecDepth 8000 in
theorem eInt_s (n : Int) (hn : I64 n) (H : AH) :
  ACall Tryz.prog 36 [.int .i64 n] H (fun y H' => ∃ r, H r = none ∧ ∃ v, y = .sl r v 1 0 (encI n).length none ∧ H' = H.set r (.row (u8s (encI n)) v)) := by
 refine zQ zU (dok _) Tryz.func36 rfl (by decide) rfl ?_
 have zc := fun H => ezig_c n hn.1 hn.2 H
 have uc := eUint_s (zz n) (zz_lt hn.1 hn.2) H
 (repeat' ((conv => whnf); first | left | refine zd ?_ | (refine Both.mk ?_ ?_ <;> intro hc <;> try exact wX hc) | (intro c hc; (try (simp only [AH.zA] at hc; repeat (have hn := hc.1; replace hc := hc.2)))))) <;> (try (conv => whnf))
 refine Then.mk ?_
 (repeat' ((conv => whnf); first | left | refine zg ?_ (zc _) | refine zgg ?_ (zc _) | refine zd ?_ | (refine Both.mk ?_ ?_ <;> intro hc <;> try exact wX hc) | (intro c hc; (try (simp only [AH.zA] at hc; repeat (have hn := hc.1; replace hc := hc.2)))) | (refine ACall.to (zc _) ?_))) <;> (try (conv => whnf))
 refine uc.mono ?_
 rintro y H' ⟨r, hr, v, rfl, rfl⟩
 (repeat' ((conv => whnf); first | refine Then.mk ?_ | left | refine zd ?_ | (refine Both.mk ?_ ?_ <;> intro hc <;> try exact wX hc) | (intro c hc; (try (simp only [AH.zA] at hc; repeat (have hn := hc.1; replace hc := hc.2)))))) <;> (try (conv => whnf))
 rfl
set_option maxRecDepth 8000 in
set_option maxHeartbeats 4000000 in
theorem rlabelPart_c (L : List Int) (h : I64L L) (hl : L.length ≤ 300) (H : AH) : ACall Tryz.prog 29 [.cs (iS .i64 L) L.length] H (fun y H' => y = .cs (u8s (labP L)) (labP L).length ∧ H' = H) := by
 have rc := fun H => rruns_c L (by omega) H
 have hfl := flat_small hl
 have hfI := flat_I64 h (by omega)
 have ic := fun H => rInts_c (flatR (runsR L)) hfI (by omega) H
 obtain ⟨hil, hi0⟩ := ints_len hfI hfl (by omega)
 have hfe := flatR_len (runsR L)
 have hrl := runsR_len L
 have hlp := labP_len h hl
 unfold labP at hlp ⊢
 generalize flatR (runsR L) = R at *
 generalize (runsR L).length = n at *
 generalize (intsS R).1 = B at *
 rw [hfe] at rc ic
 have hl10 := encI_len (n := (n : Int)) (by unfold I64; omega)
 have ec := eInt_s n (by unfold I64; omega) H
 have er := fun H => eRaw_k B (by omega) H
 have hrl2 := encR_len (b := B) (by omega)
 have e1 : ((2 * n : Nat) : Int).tdiv 2 = n := by rw [Int.tdiv_eq_ediv_of_nonneg (by omega)]; omega
 have e2 : IntKind.i64.wrap (((2 * n : Nat) : Int).tdiv 2) = n := by rw [e1, IntKind.wrap_i64]; omega
 refine ACall.cold (es := 1) (by simp) ?_
 refine zQ zU (dok _) Tryz.func29 rfl (by decide) rfl ?_
 (repeat' ((conv => whnf); first | left | refine zd ?_ | (refine Both.mk ?_ ?_ <;> intro hc <;> try exact wX hc) | (intro c hc; (try (simp only [AH.zA] at hc; repeat (have hn := hc.1; replace hc := hc.2)))))) <;> (try (conv => whnf))
 refine Then.mk ?_
 (repeat' ((conv => whnf); first | left | refine zg ?_ (rc _) | refine zgg ?_ (rc _) | refine zd ?_ | (refine Both.mk ?_ ?_ <;> intro hc <;> try exact wX hc) | (intro c hc; (try (simp only [AH.zA] at hc; repeat (have hn := hc.1; replace hc := hc.2)))) | (refine ACall.to (rc _) ?_))) <;> (try (conv => whnf))
 refine Then.mk ?_
 (repeat' ((conv => whnf); first | left | refine zd ?_ | (refine Both.mk ?_ ?_ <;> intro hc <;> try exact wX hc) | (intro c hc; (try (simp only [AH.zA] at hc; repeat (have hn := hc.1; replace hc := hc.2)))))) <;> (try (conv => whnf))
 refine ec.mono ?_
 rintro y H' ⟨r, hr, v, rfl, rfl⟩
 have gr := AH.zC H r (.row (u8s (encI (n : Int))) v)
 (repeat' ((conv => whnf); first | left | refine zd ?_ | (refine Both.mk ?_ ?_ <;> intro hc <;> try exact wX hc) | (intro c hc; (try (simp only [AH.zA] at hc; repeat (have hn := hc.1; replace hc := hc.2)))))) <;> (try (conv => whnf))
 refine Then.mk ?_
 (repeat' ((conv => whnf); first | left | refine zg ?_ (ic _) | refine zg ?_ (er _) | refine zgg ?_ (ic _) | refine zgg ?_ (er _) | refine zd ?_ | (refine Both.mk ?_ ?_ <;> intro hc <;> try exact wX hc) | (intro c hc; (try (simp only [AH.zA] at hc; repeat (have hn := hc.1; replace hc := hc.2)))) | (refine ACall.to (ic _) ?_) | (refine ACall.to (er _) ?_))) <;> (try (conv => whnf))
 refine Then.mk ?_
 (repeat' ((conv => whnf); first | refine Then.mk ?_ | left | refine zd ?_ | (refine Both.mk ?_ ?_ <;> intro hc <;> try exact wX hc) | (intro c hc; (try (simp only [AH.zA] at hc; repeat (have hn := hc.1; replace hc := hc.2)))))) <;> (try (conv => whnf))
 exact ⟨v + 1, by rw [List.length_append], by rw [AH.zS, ← u8s_append]⟩
set_option maxRecDepth 8000 in
set_option maxHeartbeats 4000000 in
theorem rbandPart_c {Z : List Int} (hz : ZO Z) (hr : Zr Z) (a : List Int) (h : BOk a) (H : AH) : ACall Tryz.prog 30 [.cs (iS .i64 a) 256] H (fun y H' => y = .cs (u8s (bandP Z a)) (bandP Z a).length ∧ H' = H) := by
 have fc := fun H => rForward_c 16 (by decide) (by decide) a (by rw [h.len]; omega) H
 rw [fwd_sq h, h.len] at fc
 unfold resV at fc
 dsimp only at fc
 rw [coefL_len] at fc
 have hsI := sortL_ok hz h
 have hsl := sortL_len hz a
 have ic := fun H => rInts_c (sortL Z a) hsI (by omega) H
 rw [hsl] at ic
 have hzr := fun H => hr H
 unfold bandP
 generalize (intsS (sortL Z a)).1 = B at *
 have hzl : (iS .i64 Z).length = 256 := by rw [iS_length]; exact hz.len
 have hcl : (iS .i64 (coefL a)).length = 256 := by rw [iS_length]; exact coefL_len a
 refine ACall.back ?_
 refine zQ zU (dok _) Tryz.func30 rfl (by decide) rfl ?_
 (repeat' ((conv => whnf); first | left | refine zd ?_ | (refine Both.mk ?_ ?_ <;> intro hc <;> try exact wX hc) | (intro c hc; (try (simp only [AH.zA] at hc; repeat (have hn := hc.1; replace hc := hc.2)))))) <;> (try (conv => whnf))
 refine Then.mk ?_
 (repeat' ((conv => whnf); first | left | refine zg ?_ (fc _) | refine zgg ?_ (fc _) | refine zd ?_ | (refine Both.mk ?_ ?_ <;> intro hc <;> try exact wX hc) | (intro c hc; (try (simp only [AH.zA] at hc; repeat (have hn := hc.1; replace hc := hc.2)))) | (refine ACall.to (fc _) ?_))) <;> (try (conv => whnf))
 refine Then.mk ?_
 (repeat' ((conv => whnf); first | left | refine zg ?_ (hzr _) | refine zgg ?_ (hzr _) | refine zd ?_ | (refine Both.mk ?_ ?_ <;> intro hc <;> try exact wX hc) | (intro c hc; (try (simp only [AH.zA] at hc; repeat (have hn := hc.1; replace hc := hc.2)))) | (refine ACall.to (hzr _) ?_))) <;> (try (conv => whnf))
 refine Then.mk ?_
 (repeat' ((conv => whnf); first | left | refine zd ?_ | (refine Both.mk ?_ ?_ <;> intro hc <;> try exact wX hc) | (intro c hc; (try (simp only [AH.zA] at hc; repeat (have hn := hc.1; replace hc := hc.2)))))) <;> (try (conv => whnf))
 refine Then.mk (AWq.in ?_)
 refine AWp_nilrow1 6 1 rfl rfl fun q hq => ?_
 refine AWp.of zU (dok _) rfl ?_
 (repeat' ((conv => whnf); first | refine Then.mk ?_ | left | refine zd ?_ | (refine Both.mk ?_ ?_ <;> intro hc <;> try exact wX hc) | (intro c hc; (try (simp only [AH.zA] at hc; repeat (have hn := hc.1; replace hc := hc.2)))))) <;> (try (conv => whnf))
 refine zT (σ := Nat) (6 :: 7 :: 14 :: 15 :: 16 :: 17 :: 18 :: 19 :: 20 :: 21 :: 22 :: 23 :: 24 :: 25 :: 26 :: 27 :: 28 :: 29 :: []) (fun i => [(7, .int .i64 i), (6, .sl q i 1 0 i none)]) (fun i => H.set q (.row (iS .i64 ((sortL Z a).take i)) i)) (fun i => i ≤ 256) (fun i => 256 - i) 0 rfl (Nat.zero_le _) ⟨rfl, rfl, trivial⟩ (HLe.refl _) ?_
 intro i hi
 refine AWp.of zU (dok _) rfl ?_
 dsimp only at hi ⊢
 have gq := AH.zC H q (.row (iS .i64 ((sortL Z a).take i)) i)
 have lR : (iS .i64 ((sortL Z a).take i)).length = i := by rw [iS_length, List.length_take]; omega
 by_cases hit : i < 256
 ·have hiz : i < Z.length := by rw [hz.len]; exact hit
  have gz : (iS .i64 Z)[(i : Int).toNat]? = some (.int .i64 (Z.getD i 0)) := iS_get hiz
  have hb := hz.bd _ (getD_mem hiz)
  have gc : (iS .i64 (coefL a))[(Z.getD i 0).toNat]? = some (.int .i64 ((coefL a).getD (Z.getD i 0).toNat 0)) := iS_get (by rw [coefL_len]; omega)
  rw [← sortL_at a hiz] at gc
  have ht : iS .i64 ((sortL Z a).take (i + 1)) = iS .i64 ((sortL Z a).take i) ++ [.int .i64 ((sortL Z a).getD i 0)] := by
   rw [take_snoc (x := (sortL Z a).getD i 0) (by rw [List.getD_eq_getElem?_getD, List.getElem?_eq_getElem (by omega)]; rfl), ← iS_snoc]
  generalize iS .i64 ((sortL Z a).take i) = R at *
  generalize (sortL Z a).getD i 0 = v at *
  generalize Z.getD i 0 = z at *
  (repeat' ((conv => whnf); first | refine Then.mk ?_ | left | refine zd ?_ | (refine Both.mk ?_ ?_ <;> intro hc <;> try exact wX hc) | (intro c hc; (try (simp only [AH.zA] at hc; repeat (have hn := hc.1; replace hc := hc.2)))))) <;> (try (conv => whnf))
  exact ⟨i + 1, hit, by omega, ⟨congrArg (AV.int .i64) (by omega), rfl, trivial⟩, HLe.of_eq (by rw [ht, AH.zS])⟩
 ·have hie : i = 256 := by omega
  subst hie
  rw [List.take_of_length_le (by omega)] at gq lR ⊢
  (repeat' ((conv => whnf); first | left | refine zd ?_ | (refine Both.mk ?_ ?_ <;> intro hc <;> try exact wX hc) | (intro c hc; (try (simp only [AH.zA] at hc; repeat (have hn := hc.1; replace hc := hc.2)))))) <;> (try (conv => whnf))
  refine Then.mk ?_
  (repeat' ((conv => whnf); first | left | refine zd ?_ | (refine Both.mk ?_ ?_ <;> intro hc <;> try exact wX hc) | (intro c hc; (try (simp only [AH.zA] at hc; repeat (have hn := hc.1; replace hc := hc.2)))))) <;> (try (conv => whnf))
  refine Then.mk (AWq.in ?_)
  refine AWp_freeze1 6 rfl rfl gq (by omega) ?_
  rw [AH.del_set _ _ _ hq]
  refine AWp.of zU (dok _) rfl ?_
  (repeat' ((conv => whnf); first | refine Then.mk ?_ | left | refine zg ?_ (ic _) | refine zgg ?_ (ic _) | refine zd ?_ | (refine Both.mk ?_ ?_ <;> intro hc <;> try exact wX hc) | (intro c hc; (try (simp only [AH.zA] at hc; repeat (have hn := hc.1; replace hc := hc.2)))) | (refine ACall.to (ic _) ?_))) <;> (try (conv => whnf))
  exact HLe.refl _
set_option maxRecDepth 8000 in
set_option maxHeartbeats 4000000 in
theorem rjoin_c (ps : List (List UInt8)) (h1 : 1 ≤ ps.length) (h2 : ps.length ≤ 9) (hp : ∀ p ∈ ps, p.length ≤ 90000) (H : AH) :
  ACall Tryz.prog 59 [.cs (pvL ps) ps.length] H (fun y H' => y = .cs (u8s (joinP ps)) (joinP ps).length ∧ H' = H) := by
 have hn10 := encI_len (n := (ps.length : Int) - 1) (by unfold I64; omega)
 have hlt : ∀ i, (encRs (ps.take i)).length ≤ 9 * 90010 := fun i => by
  have := encRs_len (ps := ps.take i) (m := 90000) (fun p hp' => hp p (List.mem_of_mem_take hp')) (by decide)
  rw [List.length_take] at this
  have h3 : min i ps.length ≤ 9 := by omega
  exact Nat.le_trans this (Nat.mul_le_mul_right (90000 + 10) h3)
 have hpl := pvL_len ps
 have e1 : IntKind.i64.wrap ((ps.length : Int) - 1) = (ps.length : Int) - 1 := by rw [IntKind.wrap_i64]; omega
 have ec := eInt_s ((ps.length : Int) - 1) (by unfold I64; omega) H
 refine ACall.cold (es := 1) (by simp) ?_
 refine zQ zU (dok _) Tryz.func59 rfl (by decide) rfl ?_
 (repeat' ((conv => whnf); first | left | refine zd ?_ | (refine Both.mk ?_ ?_ <;> intro hc <;> try exact wX hc) | (intro c hc; (try (simp only [AH.zA] at hc; repeat (have hn := hc.1; replace hc := hc.2)))))) <;> (try (conv => whnf))
 refine Then.mk ?_
 (repeat' ((conv => whnf); first | left | refine zd ?_ | (refine Both.mk ?_ ?_ <;> intro hc <;> try exact wX hc) | (intro c hc; (try (simp only [AH.zA] at hc; repeat (have hn := hc.1; replace hc := hc.2)))))) <;> (try (conv => whnf))
 refine ec.mono ?_
 rintro y H' ⟨r, hr, v, rfl, rfl⟩
 (repeat' ((conv => whnf); first | refine Then.mk ?_ | left | refine zd ?_ | (refine Both.mk ?_ ?_ <;> intro hc <;> try exact wX hc) | (intro c hc; (try (simp only [AH.zA] at hc; repeat (have hn := hc.1; replace hc := hc.2)))))) <;> (try (conv => whnf))
 refine zT (σ := Nat) (3 :: 4 :: 9 :: 10 :: 11 :: 12 :: 13 :: 14 :: 15 :: 16 :: 17 :: 18 :: 19 :: 20 :: 21 :: []) (fun i => [(4, .int .i64 i), (3, .sl r (v + i) 1 0 (encI ((ps.length : Int) - 1) ++ encRs (ps.take i)).length none)]) (fun i => H.set r (.row (u8s (encI ((ps.length : Int) - 1) ++ encRs (ps.take i))) (v + i))) (fun i => i ≤ ps.length) (fun i => ps.length - i) 0 rfl (Nat.zero_le _) ⟨rfl, by dsimp only; rw [List.take_zero]; show _ = AV.sl r v 1 0 (_ ++ []).length none; rw [List.append_nil]; rfl, trivial⟩ (HLe.of_eq (by show H.set r (.row (u8s (_ ++ [])) (v + 0)) = _; rw [List.append_nil]; rfl)) ?_
 intro i hi
 refine AWp.of zU (dok _) rfl ?_
 dsimp only at hi ⊢
 have hli := hlt i
 have gq := AH.zC H r (.row (u8s (encI ((ps.length : Int) - 1) ++ encRs (ps.take i))) (v + i))
 have lq : (u8s (encI ((ps.length : Int) - 1) ++ encRs (ps.take i))).length = (encI ((ps.length : Int) - 1) ++ encRs (ps.take i)).length := by simp
 have lq2 : (encI ((ps.length : Int) - 1) ++ encRs (ps.take i)).length ≤ 820000 := by rw [List.length_append]; omega
 by_cases hit : i < ps.length
 ·obtain ⟨p, hpi⟩ : ∃ p, ps[i]? = some p := ⟨_, List.getElem?_eq_getElem hit⟩
  have gp : (pvL ps)[(i : Int).toNat]? = some (.cs (u8s p) p.length) := pvL_get hpi
  have hpl2 := hp p (List.mem_of_getElem? hpi)
  have er := fun H => eRaw_k p (by omega) H
  have hrl := encR_len (b := p) (by omega)
  have ht : ps.take (i + 1) = ps.take i ++ [p] := take_snoc hpi
  have hst : u8s (encI ((ps.length : Int) - 1) ++ encRs (ps.take (i + 1))) = u8s (encI ((ps.length : Int) - 1) ++ encRs (ps.take i)) ++ u8s (encR p) := by rw [ht, encRs_snoc, ← List.append_assoc, u8s_append]
  have hln : (encI ((ps.length : Int) - 1) ++ encRs (ps.take (i + 1))).length = (encI ((ps.length : Int) - 1) ++ encRs (ps.take i)).length + (encR p).length := by rw [ht, encRs_snoc, ← List.append_assoc, List.length_append]
  have lE : (u8s (encR p)).length = (encR p).length := by simp
  have oE : (u8s (encR p)).all one = true := one_u8s _
  generalize (encI ((ps.length : Int) - 1) ++ encRs (ps.take i)).length = m at *
  generalize u8s (encI ((ps.length : Int) - 1) ++ encRs (ps.take i)) = R at *
  (repeat' ((conv => whnf); first | refine Then.mk ?_ | left | refine zg ?_ (er _) | refine zgg ?_ (er _) | refine zd ?_ | (refine Both.mk ?_ ?_ <;> intro hc <;> try exact wX hc) | (intro c hc; (try (simp only [AH.zA] at hc; repeat (have hn := hc.1; replace hc := hc.2)))) | (refine ACall.to (er _) ?_))) <;> (try (conv => whnf))
  exact ⟨i + 1, hit, by omega, ⟨congrArg (AV.int .i64) (by omega), by dsimp only; rw [hln]; rfl, trivial⟩, HLe.of_eq (by rw [hst, AH.zS]; rfl)⟩
 ·have hie : i = ps.length := by omega
  subst hie
  unfold joinP
  rw [List.take_length]
  (repeat' ((conv => whnf); first | refine Then.mk ?_ | left | refine zd ?_ | (refine Both.mk ?_ ?_ <;> intro hc <;> try exact wX hc) | (intro c hc; (try (simp only [AH.zA] at hc; repeat (have hn := hc.1; replace hc := hc.2)))))) <;> (try (conv => whnf))
set_option maxRecDepth 8000 in
set_option maxHeartbeats 4000000 in
theorem rsplit_c {Z : List Int} (hz : ZO Z) (hr : Zr Z) (n : Nat) (hn : 1 ≤ n ∧ n ≤ 4) (L P : List Int) (w : Semi n L P) (H : AH) :
  ACall Tryz.prog 8 [.agg [.int .i64 n, .cs (iS .i64 L) 256, .cs (iS .i64 P) (256 * n)]] H (fun y H' => y = .cs (pvL (partsT Z n L P n)) (n + 1) ∧ H' = H) := by
 have hL := w.lb.len
 have lc := fun H => rlabelPart_c L w.lab (by omega) H
 rw [hL] at lc
 have vc := fun k (hk : k < n) H => Values_c n k hk hn.2 L P w.p H
 have bc := fun k (hk : k < n) H => rbandPart_c hz hr (bandL n P k) (w.band k hk) H
 refine ACall.cold (es := 1) (by rw [pvL_len, partsT_len]; omega) ?_
 refine ACall.told ?_
 refine zQ zU (dok _) Tryz.func8 rfl (by decide) rfl ?_
 (repeat' ((conv => whnf); first | left | refine zd ?_ | (refine Both.mk ?_ ?_ <;> intro hc <;> try exact wX hc) | (intro c hc; (try (simp only [AH.zA] at hc; repeat (have hn := hc.1; replace hc := hc.2)))))) <;> (try (conv => whnf))
 refine Then.mk (AWq.in ?_)
 refine AWp_freezeP 1 rfl rfl (AH.zC _ _ _) ?_
 rw [AH.del_set _ _ _ (by assumption)]
 refine AWp.of zU (dok _) rfl ?_
 (repeat' ((conv => whnf); first | refine Or.inr (Or.inl ?_) | refine zg ?_ (lc _) | refine zgg ?_ (lc _) | refine zd ?_ | (refine Both.mk ?_ ?_ <;> intro hc <;> try exact wX hc) | (intro c hc; (try (simp only [AH.zA] at hc; repeat (have hn := hc.1; replace hc := hc.2)))) | (refine ACall.to (lc _) ?_))) <;> (try (conv => whnf))
 (obtain ⟨q, hq_⟩ : ∃ q, q = c := ⟨_, rfl⟩); subst hq_
 have hq : H q = none := hc
 refine Then.mk ?_
 (repeat' ((conv => whnf); first | refine Then.mk ?_ | left | refine zd ?_ | (refine Both.mk ?_ ?_ <;> intro hc <;> try exact wX hc) | (intro c hc; (try (simp only [AH.zA] at hc; repeat (have hn := hc.1; replace hc := hc.2)))))) <;> (try (conv => whnf))
 refine zT (σ := Nat) (3 :: 4 :: 9 :: 10 :: 11 :: 12 :: 13 :: 14 :: 15 :: 16 :: 17 :: 18 :: 19 :: 20 :: 21 :: []) (fun k => [(4, .int .i64 k), (3, .sl q k 1 0 (k + 1) none)]) (fun k => H.set q (.row (pvL (partsT Z n L P k)) k)) (fun k => k ≤ n) (fun k => n - k) 0 rfl (Nat.zero_le _) ⟨rfl, rfl, trivial⟩ (HLe.refl _) ?_
 intro k hk
 refine AWp.of zU (dok _) rfl ?_
 dsimp only at hk ⊢
 have gq := AH.zC H q (.row (pvL (partsT Z n L P k)) k)
 have lq : (pvL (partsT Z n L P k)).length = k + 1 := by rw [pvL_len, partsT_len]
 by_cases hkt : k < n
 ·have hps := pvL_snoc (partsT Z n L P k) (bandP Z (bandL n P k))
  rw [← partsT_snoc] at hps
  have bc := bc k hkt
  have vc := vc k hkt
  have hone : ∀ p : List UInt8, one (.cs (u8s p) p.length) = true := fun p => rfl
  generalize pvL (partsT Z n L P k) = RP at *
  (repeat' ((conv => whnf); first | refine Then.mk ?_ | left | refine zg ?_ (bc _) | refine zg ?_ (vc _) | refine zgg ?_ (bc _) | refine zgg ?_ (vc _) | refine zd ?_ | (refine Both.mk ?_ ?_ <;> intro hc <;> try exact wX hc) | (intro c hc; (try (simp only [AH.zA] at hc; repeat (have hn := hc.1; replace hc := hc.2)))) | (refine ACall.to (bc _) ?_) | (refine ACall.to (vc _) ?_))) <;> (try (conv => whnf))
  exact ⟨k + 1, hkt, by omega, ⟨congrArg (AV.int .i64) (by omega), rfl, trivial⟩, HLe.of_eq (by rw [AH.zS, hps])⟩
 ·have hke : k = n := by omega
  subst hke
  (repeat' ((conv => whnf); first | refine Then.mk ?_ | left | refine zd ?_ | (refine Both.mk ?_ ?_ <;> intro hc <;> try exact wX hc) | (intro c hc; (try (simp only [AH.zA] at hc; repeat (have hn := hc.1; replace hc := hc.2)))))) <;> (try (conv => whnf))
  exact ⟨_, _, AVle.refl _, HLe.refl _, q, hq, k, rfl, rfl⟩
open Go.Fw Go
def decL (n : Nat) (P : List Int) (k i : Nat) : List Int := fnL (256 * n) fun j => if j % n < k ∨ (j % n = k ∧ j / n < i) then P.getD j 0 else 0
theorem decL_len (n : Nat) (P : List Int) (k i : Nat) : (decL n P k i).length = 256 * n := fnL_len _ _
theorem decL_zero (n : Nat) (P : List Int) : decL n P 0 0 = fnL (256 * n) fun _ => 0 := fnL_congr fun j hj => if_neg (by rintro (h | ⟨-, h⟩) <;> exact absurd h (Nat.not_lt_zero _))
theorem decL_put {n k i : Nat} (P : List Int) (hk : k < n) : (decL n P k i).set (i * n + k) (P.getD (i * n + k) 0) = decL n P k (i + 1) := by
 unfold decL
 rw [fnL_set]
 refine fnL_congr fun j hj => ?_
 by_cases e : j = i * n + k
 ·subst e; rw [if_pos rfl, at_mod hk, at_div hk, if_pos (by omega)]
 ·rw [if_neg e]
  have hj2 := Nat.div_add_mod j n
  by_cases e2 : j % n = k
  ·have e3 : j / n ≠ i := fun e3 => e (by rw [← hj2, e2, e3, Nat.mul_comm])
   by_cases h1 : j / n < i
   ·rw [if_pos (by omega), if_pos (by omega)]
   ·rw [if_neg (by omega), if_neg (by omega)]
  ·by_cases h1 : j % n < k
   ·rw [if_pos (by omega), if_pos (by omega)]
   ·rw [if_neg (by omega), if_neg (by omega)]
theorem decL_next {n k : Nat} (P : List Int) : decL n P k 256 = decL n P (k + 1) 0 := fnL_congr fun j hj => by
 have : j / n < 256 := Nat.div_lt_of_lt_mul (by rw [Nat.mul_comm]; exact hj)
 generalize P.getD j 0 = v
 generalize j / n = a at *
 generalize j % n = b at *
 by_cases h1 : b < k + 1
 ·rw [if_pos (by omega), if_pos (by omega)]
 ·rw [if_neg (by omega), if_neg (by omega)]
theorem decL_end {n : Nat} (hn : 1 ≤ n) {P : List Int} (h : P.length = 256 * n) : decL n P n 0 = P := by
 refine getD_ext (by rw [decL_len, h]) fun p hp => ?_
 rw [decL_len] at hp
 have := Nat.mod_lt p (show n > 0 by omega)
 unfold decL
 rw [getD_fnL _ hp, if_pos (by omega)]
set_option maxRecDepth 8000 in
set_option maxHeartbeats 4000000 in
theorem Decode_ok {Z : List Int} (hz : ZO Z) (hzig : Zg Z) {n : Nat} (hn : 1 ≤ n ∧ n ≤ 4) {L P : List Int} (w : Semi n L P) (hv : tileE n L P = 0) (H : AH) :
  ACall Tryz.prog 23 [.cs (u8s (packT Z n L P)) (packT Z n L P).length] H (fun y H' => y = .tup [.agg [.int .i64 n, .cs (iS .i64 L) 256, .cs (iS .i64 P) (256 * n)], .int .i64 0] ∧ H' = H) := by
 refine ACall.back ?_
 have hL := w.lb.len
 have sc := fun H => split_ok (partsT Z n L P n) (by rw [partsT_len]; omega) (by rw [partsT_len]; omega) (w.parts hz) H
 rw [partsT_len] at sc
 have sc : ∀ H, ACall Tryz.prog 38 [.cs (u8s (packT Z n L P)) (packT Z n L P).length] H (fun y H' => y = .tup [.cs (pvL (partsT Z n L P n)) (n + 1), .int .i64 0] ∧ H' = H) := sc
 have lc := fun H => labels_ok L w.lb H
 have bc := fun k (hk : k < n) H => band_ok hz hzig (bandL n P k) (w.band k hk) H
 have g0 : (pvL (partsT Z n L P n))[(0 : Int).toNat]? = some (.cs (u8s (labP L)) (labP L).length) := pvL_get (parts_0 Z n L P)
 have gk : ∀ k : Nat, k < n → (pvL (partsT Z n L P n))[((k : Int) + 1).toNat]? = some (.cs (u8s (bandP Z (bandL n P k))) (bandP Z (bandL n P k)).length) := fun k hk => pvL_get (by rw [show ((k : Int) + 1).toNat = k + 1 by omega]; exact parts_k Z L P hk)
 have lp : (pvL (partsT Z n L P n)).length = n + 1 := by rw [pvL_len, partsT_len]
 have hb0 : ∀ k i, i < 256 → (bandL n P k).getD i 0 = P.getD (i * n + k) 0 := fun k i hi => getD_fnL _ hi
 have hbl : ∀ k, (bandL n P k).length = 256 := fun k => bandL_len n P k
 have hP := w.p
 generalize pvL (partsT Z n L P n) = R at *
 generalize packT Z n L P = B at *
 generalize labP L = LP at *
 refine zQ zU (dok _) Tryz.func23 rfl (by decide) rfl ?_
 (repeat' ((conv => whnf); first | left | refine zd ?_ | (refine Both.mk ?_ ?_ <;> intro hc <;> try exact wX hc) | (intro c hc; (try (simp only [AH.zA] at hc; repeat (have hn := hc.1; replace hc := hc.2)))))) <;> (try (conv => whnf))
 (obtain ⟨c2, hq_⟩ : ∃ c2, c2 = c := ⟨_, rfl⟩); subst hq_
 have h2 : H c2 = none := hc
 refine Then.mk ?_
 iterate 3 ((repeat' ((conv => whnf); first | left | refine zg ?_ (sc _) | refine zgg ?_ (sc _) | refine zd ?_ | (refine Both.mk ?_ ?_ <;> intro hc <;> try exact wX hc) | (intro c hc; (try (simp only [AH.zA] at hc; repeat (have hn := hc.1; replace hc := hc.2)))) | (refine ACall.to (sc _) ?_))) <;> (try (conv => whnf)); refine Then.mk ?_)
 have e1 : IntKind.i64.wrap (((n + 1 : Nat) : Int) - 1) = n := by rw [IntKind.wrap_i64]; omega
 (repeat' ((conv => whnf); first | left | refine zd ?_ | (refine Both.mk ?_ ?_ <;> intro hc <;> try exact wX hc) | (intro c hc; (try (simp only [AH.zA] at hc; repeat (have hn := hc.1; replace hc := hc.2)))))) <;> (try (conv => whnf))
 (obtain ⟨c6, hq_⟩ : ∃ c6, c6 = c := ⟨_, rfl⟩); subst hq_
 have n62 : c6 ≠ c2 := hn
 have h6 : H c6 = none := hc
 refine Then.mk (AWq.in ?_)
 refine AWp_less ((AH.set H c2 (.row [.int .i64 0, .nils, .nils] 0)).set c6 (.row [.int .i64 n, .nils, .nils] 0)) (HLe.of_eq (by rw [AH.zS]; rfl)) ?_
 refine AWp.of zU (dok _) rfl ?_
 have g6 := AH.zC (AH.set H c2 (.row [.int .i64 0, .nils, .nils] 0)) c6 (.row [.int .i64 n, .nils, .nils] 0)
 (repeat' ((conv => whnf); first | left | refine zg ?_ (lc _) | refine zgg ?_ (lc _) | refine zd ?_ | (refine Both.mk ?_ ?_ <;> intro hc <;> try exact wX hc) | (intro c hc; (try (simp only [AH.zA] at hc; repeat (have hn := hc.1; replace hc := hc.2)))) | (refine ACall.to (lc _) ?_))) <;> (try (conv => whnf))
 refine Then.mk (AWq.in ?_)
 clear g6
 refine AWp_less ((AH.set H c2 (.row [.int .i64 0, .nils, .nils] 0)).set c6 (.row [.int .i64 n, .cs (iS .i64 L) 256, .nils] 0)) (HLe.of_eq (by rw [AH.zS]; rfl)) ?_
 refine AWp.of zU (dok _) rfl ?_
 have g6 := AH.zC (AH.set H c2 (.row [.int .i64 0, .nils, .nils] 0)) c6 (.row [.int .i64 n, .cs (iS .i64 L) 256, .nils] 0)
 have e2 : IntKind.i64.wrap (256 * (n : Int)) = ((256 * n : Nat) : Int) := by rw [IntKind.wrap_i64]; omega
 iterate 2 ((repeat' ((conv => whnf); first | left | refine zd ?_ | (refine Both.mk ?_ ?_ <;> intro hc <;> try exact wX hc) | (intro c hc; (try (simp only [AH.zA] at hc; repeat (have hn := hc.1; replace hc := hc.2)))))) <;> (try (conv => whnf)); refine Then.mk ?_)
 (repeat' ((conv => whnf); first | left | refine zd ?_ | (refine Both.mk ?_ ?_ <;> intro hc <;> try exact wX hc) | (intro c hc; (try (simp only [AH.zA] at hc; repeat (have hn := hc.1; replace hc := hc.2)))))) <;> (try (conv => whnf))
 (obtain ⟨q, hq_⟩ : ∃ q, q = c := ⟨_, rfl⟩); subst hq_
 have hqq : H q = none := hc
 have n26 := Ne.symm n62
 have nq6 : q ≠ c6 := by assumption
 have n6q := Ne.symm nq6
 have nq2 : q ≠ c2 := hn
 have n2q := Ne.symm nq2
 have hz0 : (List.replicate ((256 * n : Nat) : Int).toNat [AV.int .i64 0]).flatten = iS .i64 (decL n P 0 0) := by rw [Int.toNat_natCast, decL_zero]; exact dL_zero _
 rw [hz0]
 clear hz0
 obtain ⟨Dh, hDh⟩ : ∃ Dh : List Int → AH, ∀ A, Dh A = ((AH.set H c2 (.row [.int .i64 0, .nils, .nils] 0)).set c6 (.row [.int .i64 n, .cs (iS .i64 L) 256, .sl q 0 1 0 (256 * n) none] 0)).set q (.row (iS .i64 A) 0) := ⟨_, fun _ => rfl⟩
 refine Then.mk (AWq.in ?_)
 refine AWp_less (Dh (decL n P 0 0)) (HLe.of_eq (by rw [hDh, Int.toNat_natCast]; symm; refine Eq.trans (b := (((AH.set H c2 (.row [.int .i64 0, .nils, .nils] 0)).set c6 (.row [.int .i64 n, .cs (iS .i64 L) 256, .nils] 0)).set q (.row (iS .i64 (decL n P 0 0)) 0)).set c6 (.row [.int .i64 n, .cs (iS .i64 L) 256, .sl q 0 1 0 (256 * n) none] 0)) rfl ?_; ((funext s; simp only [AH.set, AH.del]; repeat' split) <;> (first | rfl | (exfalso; omega))))) ?_
 refine AWp.of zU (dok _) rfl ?_
 clear g6
 have g6 : ∀ A, Dh A c6 = some (.row [.int .i64 n, .cs (iS .i64 L) 256, .sl q 0 1 0 (256 * n) none] 0) := fun A => by rw [hDh, AH.zR _ _ n6q, AH.zC]
 have gq : ∀ A, Dh A q = some (.row (iS .i64 A) 0) := fun A => by rw [hDh, AH.zC]
 have g60 := g6 (decL n P 0 0)
 obtain ⟨D0, hD0⟩ : ∃ D0, D0 = Dh (decL n P 0 0) := ⟨_, rfl⟩
 rw [← hD0] at g60 ⊢
 (repeat' ((conv => whnf); first | refine Then.mk ?_ | left | refine zd ?_ | (refine Both.mk ?_ ?_ <;> intro hc <;> try exact wX hc) | (intro c hc; (try (simp only [AH.zA] at hc; repeat (have hn := hc.1; replace hc := hc.2)))))) <;> (try (conv => whnf))
 rw [hD0]
 refine zT (σ := Nat) (3 :: 7 :: 8 :: 9 :: 10 :: 11 :: 12 :: 45 :: 46 :: 47 :: 48 :: 49 :: 50 :: 51 :: 52 :: 53 :: 54 :: 55 :: 56 :: 57 :: 58 :: 59 :: 60 :: 61 :: 62 :: 63 :: 64 :: 65 :: 66 :: 67 :: 68 :: 69 :: 70 :: 71 :: 72 :: 73 :: 74 :: 75 :: 76 :: 77 :: 78 :: 79 :: 80 :: []) (fun k => [(45, .int .i64 k)]) (fun k => Dh (decL n P k 0)) (fun k => k ≤ n) (fun k => n - k) 0 rfl (Nat.zero_le _) ⟨rfl, trivial⟩ (HLe.refl _) ?_
 clear hD0 g60
 intro k hk
 refine AWp.of zU (dok _) rfl ?_
 dsimp only at hk ⊢
 by_cases hkt : k < n
 ·have g60 := g6 (decL n P k 0)
  have gk := gk k hkt
  have bc := bc k hkt
  have hbl := hbl k
  have hb0 := hb0 k
  have lb : (iS .i64 (bandL n P k)).length = 256 := by rw [iS_length, hbl]
  obtain ⟨D1, hD1⟩ : ∃ D1, D1 = Dh (decL n P k 0) := ⟨_, rfl⟩
  rw [← hD1] at g60 ⊢
  (repeat' ((conv => whnf); first | refine Then.mk ?_ | left | refine zg ?_ (bc _) | refine zgg ?_ (bc _) | refine zd ?_ | (refine Both.mk ?_ ?_ <;> intro hc <;> try exact wX hc) | (intro c hc; (try (simp only [AH.zA] at hc; repeat (have hn := hc.1; replace hc := hc.2)))) | (refine ACall.to (bc _) ?_))) <;> (try (conv => whnf))
  rw [hD1]
  refine zT (σ := Nat) (11 :: 12 :: 64 :: 65 :: 66 :: 67 :: 68 :: 69 :: 70 :: 71 :: 72 :: 73 :: 74 :: 75 :: 76 :: 77 :: 78 :: 79 :: []) (fun i => [(64, .int .i64 i)]) (fun i => Dh (decL n P k i)) (fun i => i ≤ 256) (fun i => 256 - i) 0 rfl (Nat.zero_le _) ⟨rfl, trivial⟩ (HLe.refl _) ?_
  clear hD1 g60
  intro i hi
  refine AWp.of zU (dok _) rfl ?_
  dsimp only at hi ⊢
  have g60 := g6 (decL n P k i)
  have gq0 := gq (decL n P k i)
  have lq : (iS .i64 (decL n P k i)).length = 256 * n := by rw [iS_length, decL_len]
  by_cases hit : i < 256
  ·have hin := row_lt (n := n) hit hkt
   have gb : (iS .i64 (bandL n P k))[(i : Int).toNat]? = some (.int .i64 (P.getD (i * n + k) 0)) := by rw [← hb0 i hit]; exact iS_get (by omega)
   have w1 : IntKind.i64.wrap ((i : Int) * (n : Int)) = ((i * n : Nat) : Int) := by
    rw [← Int.natCast_mul, IntKind.wrap_i64]; omega
   have hwr : wrA (iS .i64 (decL n P k i)) (i * n + k) [.int .i64 (P.getD (i * n + k) 0)] = iS .i64 (decL n P k (i + 1)) := by
    rw [iS_wr1 (by rw [decL_len]; omega), decL_put P hkt]
   have hst : Dh (decL n P k (i + 1)) = (Dh (decL n P k i)).set q (.row (wrA (iS .i64 (decL n P k i)) (i * n + k) [.int .i64 (P.getD (i * n + k) 0)]) 0) := by
    rw [hwr, hDh, hDh, AH.zS]
   generalize P.getD (i * n + k) 0 = v at *
   generalize i * n = Q at *
   have w2 : IntKind.i64.wrap ((Q : Int) + k) = (Q : Int) + k := by rw [IntKind.wrap_i64]; omega
   rw [show Q + k = 0 + ((Q : Int) + k).toNat * 1 by omega] at hst
   generalize hDi : Dh (decL n P k i) = Di at *
   generalize iS .i64 (decL n P k i) = Ri at *
   (repeat' ((conv => whnf); first | refine Then.mk ?_ | left | refine zd ?_ | (refine Both.mk ?_ ?_ <;> intro hc <;> try exact wX hc) | (intro c hc; (try (simp only [AH.zA] at hc; repeat (have hn := hc.1; replace hc := hc.2)))))) <;> (try (conv => whnf))
   exact ⟨i + 1, hit, by omega, ⟨congrArg (AV.int .i64) (by omega), trivial⟩, HLe.of_eq hst⟩
  ·have hie : i = 256 := by omega
   subst hie
   (repeat' ((conv => whnf); first | refine Then.mk ?_ | left | refine zd ?_ | (refine Both.mk ?_ ?_ <;> intro hc <;> try exact wX hc) | (intro c hc; (try (simp only [AH.zA] at hc; repeat (have hn := hc.1; replace hc := hc.2)))))) <;> (try (conv => whnf))
   exact ⟨k + 1, hkt, by omega, ⟨congrArg (AV.int .i64) (by omega), trivial⟩, HLe.of_eq (by rw [decL_next])⟩
 ·have hke : k = n := by omega
  subst hke
  rw [decL_end hn.1 hP]
  have g60 := g6 P
  have gq0 := gq P
  have hPl : (iS .i64 P).length = 256 * k := by rw [iS_length, hP]
  have hfin : HLe ((AH.set H c2 (.row [.int .i64 0, .nils, .nils] 0)).set c6 (.row [.int .i64 k, .cs (iS .i64 L) 256, .cs (iS .i64 P) (256 * k)] 0)) (((Dh P).del q).set c6 (.row ([.int .i64 k, .cs (iS .i64 L) 256] ++ .cs (iS .i64 P) (256 * k) :: []) 0)) := by
   rw [hDh, AH.del_set _ _ _ (by rw [AH.zR _ _ nq6, AH.zR _ _ nq2]; exact hqq), AH.zS]; exact HLe.refl _
  (repeat' ((conv => whnf); first | left | refine zd ?_ | (refine Both.mk ?_ ?_ <;> intro hc <;> try exact wX hc) | (intro c hc; (try (simp only [AH.zA] at hc; repeat (have hn := hc.1; replace hc := hc.2)))))) <;> (try (conv => whnf))
  refine Then.mk ?_
  (repeat' ((conv => whnf); first | left | refine zd ?_ | (refine Both.mk ?_ ?_ <;> intro hc <;> try exact wX hc) | (intro c hc; (try (simp only [AH.zA] at hc; repeat (have hn := hc.1; replace hc := hc.2)))))) <;> (try (conv => whnf))
  refine Then.mk (AWq.in ?_)
  refine AWp_freezeC (p := c6) (r := q) (u := 0) (v := 0) (es := 1) (n := 256 * k) (lim := none) (cells := iS .i64 P) [.int .i64 k, .cs (iS .i64 L) 256] [] n6q g60 gq0 (by rw [hPl, Nat.mul_one]) ?_
  refine AWp_less _ hfin ?_
  refine AWp.of zU (dok _) rfl ?_
  have vc := fun H => valid_c (k : Int) L P (by unfold J64; omega) (by unfold tI; omega) (by unfold tI; omega) H
  unfold tV at vc
  rw [hL, hP] at vc
  have g2 : (AH.set (AH.set H c2 (.row [.int .i64 0, .nils, .nils] 0)) c6 (.row [.int .i64 k, .cs (iS .i64 L) 256, .cs (iS .i64 P) (256 * k)] 0)) c2 = some (.row [.int .i64 0, .nils, .nils] 0) := by rw [AH.zR _ _ n26, AH.zC]
  have g66 := AH.zC (AH.set H c2 (.row [.int .i64 0, .nils, .nils] 0)) c6 (.row [.int .i64 k, .cs (iS .i64 L) 256, .cs (iS .i64 P) (256 * k)] 0)
  have hleF : HLe H ((AH.set H c2 (.row [.int .i64 0, .nils, .nils] 0)).set c6 (.row [.int .i64 k, .cs (iS .i64 L) 256, .cs (iS .i64 P) (256 * k)] 0)) := HLe.set_of _ _ (HLe.fresh _ h2) h6
  generalize (AH.set H c2 (.row [.int .i64 0, .nils, .nils] 0)).set c6 (.row [.int .i64 k, .cs (iS .i64 L) 256, .cs (iS .i64 P) (256 * k)] 0) = HF at *
  rw [hv] at vc
  (repeat' ((conv => whnf); first | refine Then.mk ?_ | left | refine zg ?_ (vc _) | refine zgg ?_ (vc _) | refine zd ?_ | (refine Both.mk ?_ ?_ <;> intro hc <;> try exact wX hc) | (intro c hc; (try (simp only [AH.zA] at hc; repeat (have hn := hc.1; replace hc := hc.2)))) | (refine ACall.to (vc _) ?_))) <;> (try (conv => whnf))
  all_goals (first | ((repeat' (first | (with_reducible exact HLe.refl _) | (with_reducible assumption) | apply HLe.push | refine HLe.set_of _ _ ?_ ?_ | refine HLe.del _ ?_ ?_ | rw [AH.zR _ _ (by (first | assumption | omega | exact Ne.symm (by assumption) | exact AH.ne_none (by assumption) (by assumption) | exact AH.none_ne (by assumption) (by assumption) | exact (AH.none_set (by assumption)).1 | exact Ne.symm (AH.none_set (by assumption)).1))])); done) | ((repeat' (first | refine HLe.set_of _ _ ?_ ?_ | refine HLe.del _ ?_ ?_)) <;> (first | assumption | exact HLe.refl _ | exact HLe.none (by assumption) (by assumption) | (simp_all; done))))
set_option maxRecDepth 8000 in
theorem equal_f (a b : List Int) (ha : a.length ≤ 1000000) (hb : b.length ≤ 1000000) (H : AH) :
  ACall Tryz.prog 60 [.cs (iS .i64 a) a.length, .cs (iS .i64 b) b.length] H (fun y H' => y = .bool (decide (a = b)) ∧ H' = H) := by
 have la : (iS .i64 a).length = a.length := by simp
 have lb : (iS .i64 b).length = b.length := by simp
 by_cases hl : a.length = b.length
 ·rw [← hl]
  rw [← hl] at lb
  refine zQ zU (dok _) Tryz.func60 rfl (by decide) rfl ?_
  (repeat' ((conv => whnf); first | refine Then.mk ?_ | left | refine zd ?_ | (refine Both.mk ?_ ?_ <;> intro hc <;> try exact wX hc) | (intro c hc; (try (simp only [AH.zA] at hc; repeat (have hn := hc.1; replace hc := hc.2)))))) <;> (try (conv => whnf))
  refine zT (σ := Nat) (4 :: 5 :: 13 :: 14 :: 15 :: 16 :: 17 :: 18 :: 19 :: 20 :: 21 :: 22 :: 23 :: 24 :: 25 :: []) (fun i => [(13, .int .i64 i)]) (fun _ => H) (fun i => i ≤ a.length ∧ ∀ j, j < i → a.getD j 0 = b.getD j 0) (fun i => a.length - i) 0 rfl ⟨Nat.zero_le _, fun j hj => absurd hj (Nat.not_lt_zero j)⟩ ⟨rfl, trivial⟩ (HLe.refl _) ?_
  rintro i ⟨hi, hall⟩
  refine AWp.of zU (dok _) rfl ?_
  dsimp only at hi ⊢
  by_cases hit : i < a.length
  ·have ga : (iS .i64 a)[(i : Int).toNat]? = some (.int .i64 (a.getD i 0)) := iS_get hit
   have gb : (iS .i64 b)[(i : Int).toNat]? = some (.int .i64 (b.getD i 0)) := iS_get (by omega)
   by_cases he : a.getD i 0 = b.getD i 0
   ·have hall' : ∀ j, j < i + 1 → a.getD j 0 = b.getD j 0 := fun j hj => by
     by_cases e : j = i
     ·rw [e]; exact he
     ·exact hall j (by omega)
    rw [← he] at gb
    generalize a.getD i 0 = x at *
    (repeat' ((conv => whnf); first | refine Then.mk ?_ | left | refine zd ?_ | (refine Both.mk ?_ ?_ <;> intro hc <;> try exact wX hc) | (intro c hc; (try (simp only [AH.zA] at hc; repeat (have hn := hc.1; replace hc := hc.2)))))) <;> (try (conv => whnf))
    exact ⟨i + 1, ⟨hit, hall'⟩, by omega, ⟨congrArg (AV.int .i64) (by omega), trivial⟩, HLe.refl _⟩
   ·have hab : decide (a = b) = false := decide_eq_false fun h => he (by rw [h])
    rw [hab]
    generalize a.getD i 0 = x at *
    generalize b.getD i 0 = y at *
    (repeat' ((conv => whnf); first | refine Then.mk ?_ | left | refine zd ?_ | (refine Both.mk ?_ ?_ <;> intro hc <;> try exact wX hc) | (intro c hc; (try (simp only [AH.zA] at hc; repeat (have hn := hc.1; replace hc := hc.2)))))) <;> (try (conv => whnf))
  ·have hab : decide (a = b) = true := decide_eq_true (getD_ext hl fun p hp => hall p (by omega))
   rw [hab]
   (repeat' ((conv => whnf); first | refine Then.mk ?_ | left | refine zd ?_ | (refine Both.mk ?_ ?_ <;> intro hc <;> try exact wX hc) | (intro c hc; (try (simp only [AH.zA] at hc; repeat (have hn := hc.1; replace hc := hc.2)))))) <;> (try (conv => whnf))
 ·have hab : decide (a = b) = false := decide_eq_false fun h => hl (by rw [h])
  rw [hab]
  generalize hn1 : a.length = n1 at *
  generalize hn2 : b.length = n2 at *
  refine zQ zU (dok _) Tryz.func60 rfl (by decide) rfl ?_
  (repeat' ((conv => whnf); first | refine Then.mk ?_ | left | refine zd ?_ | (refine Both.mk ?_ ?_ <;> intro hc <;> try exact wX hc) | (intro c hc; (try (simp only [AH.zA] at hc; repeat (have hn := hc.1; replace hc := hc.2)))))) <;> (try (conv => whnf))
open Go.Fw Go
set_option maxRecDepth 8000 in
theorem tEqual_c (s t : Tl) (hs : s.Fit) (ht : t.Fit) (H : AH) :
  ∃ b, (b = true ↔ s = t) ∧ ACall Tryz.prog 21 [s.v, t.v] H (fun y H' => y = .bool b ∧ H' = H) := by
 obtain ⟨n, L, P⟩ := s
 obtain ⟨m, M, Q⟩ := t
 obtain ⟨f1, f2, f3⟩ := hs
 obtain ⟨g1, g2, g3⟩ := ht
 dsimp only at f1 f2 f3 g1 g2 g3
 have s1 := fun H => equal_f L M (by omega) (by omega) H
 have s2 := fun H => equal_f P Q (by omega) (by omega) H
 unfold Tl.v tV
 dsimp only
 by_cases h1 : n = m
 ·subst h1
  by_cases h2 : L = M
  ·subst h2
   by_cases h3 : P = Q
   ·subst h3
    rw [decide_eq_true rfl] at s1 s2
    refine ⟨true, by simp, ACall.back ?_⟩
    refine zQ zU (dok _) Tryz.func21 rfl (by decide) rfl ?_
    (repeat' ((conv => whnf); first | refine Then.mk ?_ | left | refine zg ?_ (s1 _) | refine zg ?_ (s2 _) | refine zgg ?_ (s1 _) | refine zgg ?_ (s2 _) | refine zd ?_ | (refine Both.mk ?_ ?_ <;> intro hc <;> try exact wX hc) | (intro c hc; (try (simp only [AH.zA] at hc; repeat (have hn := hc.1; replace hc := hc.2)))) | (refine ACall.to (s1 _) ?_) | (refine ACall.to (s2 _) ?_))) <;> (try (conv => whnf))
    all_goals (first | ((repeat' (first | (with_reducible exact HLe.refl _) | (with_reducible assumption) | apply HLe.push | refine HLe.set_of _ _ ?_ ?_ | refine HLe.del _ ?_ ?_ | rw [AH.zR _ _ (by (first | assumption | omega | exact Ne.symm (by assumption) | exact AH.ne_none (by assumption) (by assumption) | exact AH.none_ne (by assumption) (by assumption) | exact (AH.none_set (by assumption)).1 | exact Ne.symm (AH.none_set (by assumption)).1))])); done) | ((repeat' (first | refine HLe.set_of _ _ ?_ ?_ | refine HLe.del _ ?_ ?_)) <;> (first | assumption | exact HLe.refl _ | exact HLe.none (by assumption) (by assumption) | (simp_all; done))))
   ·rw [decide_eq_true rfl] at s1
    rw [decide_eq_false h3] at s2
    refine ⟨false, by simp [h3], ACall.back ?_⟩
    refine zQ zU (dok _) Tryz.func21 rfl (by decide) rfl ?_
    (repeat' ((conv => whnf); first | refine Then.mk ?_ | left | refine zg ?_ (s1 _) | refine zg ?_ (s2 _) | refine zgg ?_ (s1 _) | refine zgg ?_ (s2 _) | refine zd ?_ | (refine Both.mk ?_ ?_ <;> intro hc <;> try exact wX hc) | (intro c hc; (try (simp only [AH.zA] at hc; repeat (have hn := hc.1; replace hc := hc.2)))) | (refine ACall.to (s1 _) ?_) | (refine ACall.to (s2 _) ?_))) <;> (try (conv => whnf))
    all_goals (first | ((repeat' (first | (with_reducible exact HLe.refl _) | (with_reducible assumption) | apply HLe.push | refine HLe.set_of _ _ ?_ ?_ | refine HLe.del _ ?_ ?_ | rw [AH.zR _ _ (by (first | assumption | omega | exact Ne.symm (by assumption) | exact AH.ne_none (by assumption) (by assumption) | exact AH.none_ne (by assumption) (by assumption) | exact (AH.none_set (by assumption)).1 | exact Ne.symm (AH.none_set (by assumption)).1))])); done) | ((repeat' (first | refine HLe.set_of _ _ ?_ ?_ | refine HLe.del _ ?_ ?_)) <;> (first | assumption | exact HLe.refl _ | exact HLe.none (by assumption) (by assumption) | (simp_all; done))))
  ·rw [decide_eq_false h2] at s1
   refine ⟨false, by simp [h2], ACall.back ?_⟩
   generalize decide (P = Q) = x at *
   refine zQ zU (dok _) Tryz.func21 rfl (by decide) rfl ?_
   (repeat' ((conv => whnf); first | refine Then.mk ?_ | left | refine zg ?_ (s1 _) | refine zg ?_ (s2 _) | refine zgg ?_ (s1 _) | refine zgg ?_ (s2 _) | refine zd ?_ | (refine Both.mk ?_ ?_ <;> intro hc <;> try exact wX hc) | (intro c hc; (try (simp only [AH.zA] at hc; repeat (have hn := hc.1; replace hc := hc.2)))) | (refine ACall.to (s1 _) ?_) | (refine ACall.to (s2 _) ?_))) <;> (try (conv => whnf))
   all_goals (first | ((repeat' (first | (with_reducible exact HLe.refl _) | (with_reducible assumption) | apply HLe.push | refine HLe.set_of _ _ ?_ ?_ | refine HLe.del _ ?_ ?_ | rw [AH.zR _ _ (by (first | assumption | omega | exact Ne.symm (by assumption) | exact AH.ne_none (by assumption) (by assumption) | exact AH.none_ne (by assumption) (by assumption) | exact (AH.none_set (by assumption)).1 | exact Ne.symm (AH.none_set (by assumption)).1))])); done) | ((repeat' (first | refine HLe.set_of _ _ ?_ ?_ | refine HLe.del _ ?_ ?_)) <;> (first | assumption | exact HLe.refl _ | exact HLe.none (by assumption) (by assumption) | (simp_all; done))))
 ·refine ⟨false, by simp [h1], ACall.back ?_⟩
  generalize decide (L = M) = x at *
  generalize decide (P = Q) = x' at *
  refine zQ zU (dok _) Tryz.func21 rfl (by decide) rfl ?_
  (repeat' ((conv => whnf); first | refine Then.mk ?_ | left | refine zg ?_ (s1 _) | refine zg ?_ (s2 _) | refine zgg ?_ (s1 _) | refine zgg ?_ (s2 _) | refine zd ?_ | (refine Both.mk ?_ ?_ <;> intro hc <;> try exact wX hc) | (intro c hc; (try (simp only [AH.zA] at hc; repeat (have hn := hc.1; replace hc := hc.2)))) | (refine ACall.to (s1 _) ?_) | (refine ACall.to (s2 _) ?_))) <;> (try (conv => whnf))
  all_goals (first | ((repeat' (first | (with_reducible exact HLe.refl _) | (with_reducible assumption) | apply HLe.push | refine HLe.set_of _ _ ?_ ?_ | refine HLe.del _ ?_ ?_ | rw [AH.zR _ _ (by (first | assumption | omega | exact Ne.symm (by assumption) | exact AH.ne_none (by assumption) (by assumption) | exact AH.none_ne (by assumption) (by assumption) | exact (AH.none_set (by assumption)).1 | exact Ne.symm (AH.none_set (by assumption)).1))])); done) | ((repeat' (first | refine HLe.set_of _ _ ?_ ?_ | refine HLe.del _ ?_ ?_)) <;> (first | assumption | exact HLe.refl _ | exact HLe.none (by assumption) (by assumption) | (simp_all; done))))
set_option maxRecDepth 8000 in
set_option maxHeartbeats 4000000 in
theorem rtEqual_c (s t : Tl) (hs : s.Fit) (ht : t.Fit) (H : AH) :
  ∃ b, (b = true ↔ s = t) ∧ ACall Tryz.prog 22 [s.v, t.v] H (fun y H' => y = .bool b ∧ H' = H) := by
 obtain ⟨n, L, P⟩ := s
 obtain ⟨m, M, Q⟩ := t
 obtain ⟨f1, f2, f3⟩ := hs
 obtain ⟨g1, g2, g3⟩ := ht
 dsimp only at f1 f2 f3 g1 g2 g3
 unfold Tl.v tV
 dsimp only
 have l1 : (iS .i64 L).length = L.length := by simp
 have l2 : (iS .i64 M).length = M.length := by simp
 have l3 : (iS .i64 P).length = P.length := by simp
 have l4 : (iS .i64 Q).length = Q.length := by simp
 by_cases hf : n = m ∧ L.length = M.length ∧ P.length = Q.length
 ·obtain ⟨rfl, h2, h3⟩ := hf
  refine ⟨decide (L = M ∧ P = Q), by simp, ACall.back ?_⟩
  rw [← h2, ← h3]
  rw [← h2] at l2
  rw [← h3] at l4
  refine zQ zU (dok _) Tryz.func22 rfl (by decide) rfl ?_
  (repeat' ((conv => whnf); first | left | refine zd ?_ | (refine Both.mk ?_ ?_ <;> intro hc <;> try exact wX hc) | (intro c hc; (try (simp only [AH.zA] at hc; repeat (have hn := hc.1; replace hc := hc.2)))))) <;> (try (conv => whnf))
  refine Then.mk (AWq.in ?_)
  rename_i c1 hc1
  refine AWp_freezeP 3 rfl rfl (AH.zC _ _ _) ?_
  rw [AH.del_set _ _ _ (by rw [AH.zR _ _ hn]; exact hc)]
  refine AWp_freezeP 2 rfl rfl (AH.zC _ _ _) ?_
  rw [AH.del_set _ _ _ hc1]
  refine AWp.of zU (dok _) rfl ?_
  (repeat' ((conv => whnf); first | refine Then.mk ?_ | left | refine zd ?_ | (refine Both.mk ?_ ?_ <;> intro hc <;> try exact wX hc) | (intro c hc; (try (simp only [AH.zA] at hc; repeat (have hn := hc.1; replace hc := hc.2)))))) <;> (try (conv => whnf))
  refine zT (σ := Nat) (4 :: 5 :: 30 :: 31 :: 32 :: 33 :: 34 :: 35 :: 36 :: 37 :: 38 :: 39 :: 40 :: 41 :: 42 :: 43 :: 44 :: 45 :: 46 :: 47 :: []) (fun i => [(5, .int .i64 i)]) (fun _ => H) (fun i => i ≤ L.length ∧ ∀ j, j < i → L.getD j 0 = M.getD j 0) (fun i => L.length - i) 0 rfl ⟨Nat.zero_le _, fun j hj => absurd hj (Nat.not_lt_zero j)⟩ ⟨rfl, trivial⟩ (HLe.refl _) ?_
  rintro i ⟨hi, hall⟩
  refine AWp.of zU (dok _) rfl ?_
  dsimp only at hi ⊢
  by_cases hit : i < L.length
  ·have ga : (iS .i64 L)[(i : Int).toNat]? = some (.int .i64 (L.getD i 0)) := iS_get hit
   have gb : (iS .i64 M)[(i : Int).toNat]? = some (.int .i64 (M.getD i 0)) := iS_get (by omega)
   by_cases he : L.getD i 0 = M.getD i 0
   ·have hall' : ∀ j, j < i + 1 → L.getD j 0 = M.getD j 0 := fun j hj => by
     by_cases e : j = i
     ·rw [e]; exact he
     ·exact hall j (by omega)
    rw [← he] at gb
    generalize L.getD i 0 = x at *
    (repeat' ((conv => whnf); first | refine Then.mk ?_ | left | refine zd ?_ | (refine Both.mk ?_ ?_ <;> intro hc <;> try exact wX hc) | (intro c hc; (try (simp only [AH.zA] at hc; repeat (have hn := hc.1; replace hc := hc.2)))))) <;> (try (conv => whnf))
    exact ⟨i + 1, ⟨hit, hall'⟩, by omega, ⟨congrArg (AV.int .i64) (by omega), trivial⟩, HLe.refl _⟩
   ·have hab : decide (L = M ∧ P = Q) = false := decide_eq_false fun h => he (by rw [h.1])
    rw [hab]
    generalize L.getD i 0 = x at *
    generalize M.getD i 0 = y at *
    (repeat' ((conv => whnf); first | refine Then.mk ?_ | left | refine zd ?_ | (refine Both.mk ?_ ?_ <;> intro hc <;> try exact wX hc) | (intro c hc; (try (simp only [AH.zA] at hc; repeat (have hn := hc.1; replace hc := hc.2)))))) <;> (try (conv => whnf))
    all_goals (first | ((repeat' (first | (with_reducible exact HLe.refl _) | (with_reducible assumption) | apply HLe.push | refine HLe.set_of _ _ ?_ ?_ | refine HLe.del _ ?_ ?_ | rw [AH.zR _ _ (by (first | assumption | omega | exact Ne.symm (by assumption) | exact AH.ne_none (by assumption) (by assumption) | exact AH.none_ne (by assumption) (by assumption) | exact (AH.none_set (by assumption)).1 | exact Ne.symm (AH.none_set (by assumption)).1))])); done) | ((repeat' (first | refine HLe.set_of _ _ ?_ ?_ | refine HLe.del _ ?_ ?_)) <;> (first | assumption | exact HLe.refl _ | exact HLe.none (by assumption) (by assumption) | (simp_all; done))))
  ·have hLM : L = M := getD_ext h2 fun p hp => hall p (by omega)
   subst hLM
   (repeat' ((conv => whnf); first | refine Then.mk ?_ | left | refine zd ?_ | (refine Both.mk ?_ ?_ <;> intro hc <;> try exact wX hc) | (intro c hc; (try (simp only [AH.zA] at hc; repeat (have hn := hc.1; replace hc := hc.2)))))) <;> (try (conv => whnf))
   refine zT (σ := Nat) (4 :: 6 :: 48 :: 49 :: 50 :: 51 :: 52 :: 53 :: 54 :: 55 :: 56 :: 57 :: 58 :: 59 :: 60 :: 61 :: 62 :: 63 :: 64 :: 65 :: []) (fun i => [(6, .int .i64 i)]) (fun _ => H) (fun i => i ≤ P.length ∧ ∀ j, j < i → P.getD j 0 = Q.getD j 0) (fun i => P.length - i) 0 rfl ⟨Nat.zero_le _, fun j hj => absurd hj (Nat.not_lt_zero j)⟩ ⟨rfl, trivial⟩ (HLe.refl _) ?_
   clear hall hi hit
   rintro i ⟨hi, hall⟩
   refine AWp.of zU (dok _) rfl ?_
   dsimp only at hi ⊢
   by_cases hit : i < P.length
   ·have ga : (iS .i64 P)[(i : Int).toNat]? = some (.int .i64 (P.getD i 0)) := iS_get hit
    have gb : (iS .i64 Q)[(i : Int).toNat]? = some (.int .i64 (Q.getD i 0)) := iS_get (by omega)
    by_cases he : P.getD i 0 = Q.getD i 0
    ·have hall' : ∀ j, j < i + 1 → P.getD j 0 = Q.getD j 0 := fun j hj => by
      by_cases e : j = i
      ·rw [e]; exact he
      ·exact hall j (by omega)
     rw [← he] at gb
     generalize P.getD i 0 = x at *
     (repeat' ((conv => whnf); first | refine Then.mk ?_ | left | refine zd ?_ | (refine Both.mk ?_ ?_ <;> intro hc <;> try exact wX hc) | (intro c hc; (try (simp only [AH.zA] at hc; repeat (have hn := hc.1; replace hc := hc.2)))))) <;> (try (conv => whnf))
     exact ⟨i + 1, ⟨hit, hall'⟩, by omega, ⟨congrArg (AV.int .i64) (by omega), trivial⟩, HLe.refl _⟩
    ·have hab : decide (L = L ∧ P = Q) = false := decide_eq_false fun h => he (by rw [h.2])
     rw [hab]
     generalize P.getD i 0 = x at *
     generalize Q.getD i 0 = y at *
     (repeat' ((conv => whnf); first | refine Then.mk ?_ | left | refine zd ?_ | (refine Both.mk ?_ ?_ <;> intro hc <;> try exact wX hc) | (intro c hc; (try (simp only [AH.zA] at hc; repeat (have hn := hc.1; replace hc := hc.2)))))) <;> (try (conv => whnf))
     all_goals (first | ((repeat' (first | (with_reducible exact HLe.refl _) | (with_reducible assumption) | apply HLe.push | refine HLe.set_of _ _ ?_ ?_ | refine HLe.del _ ?_ ?_ | rw [AH.zR _ _ (by (first | assumption | omega | exact Ne.symm (by assumption) | exact AH.ne_none (by assumption) (by assumption) | exact AH.none_ne (by assumption) (by assumption) | exact (AH.none_set (by assumption)).1 | exact Ne.symm (AH.none_set (by assumption)).1))])); done) | ((repeat' (first | refine HLe.set_of _ _ ?_ ?_ | refine HLe.del _ ?_ ?_)) <;> (first | assumption | exact HLe.refl _ | exact HLe.none (by assumption) (by assumption) | (simp_all; done))))
   ·have hab : decide (L = L ∧ P = Q) = true := decide_eq_true ⟨rfl, getD_ext h3 fun p hp => hall p (by omega)⟩
    rw [hab]
    (repeat' ((conv => whnf); first | refine Then.mk ?_ | left | refine zd ?_ | (refine Both.mk ?_ ?_ <;> intro hc <;> try exact wX hc) | (intro c hc; (try (simp only [AH.zA] at hc; repeat (have hn := hc.1; replace hc := hc.2)))))) <;> (try (conv => whnf))
    all_goals (first | ((repeat' (first | (with_reducible exact HLe.refl _) | (with_reducible assumption) | apply HLe.push | refine HLe.set_of _ _ ?_ ?_ | refine HLe.del _ ?_ ?_ | rw [AH.zR _ _ (by (first | assumption | omega | exact Ne.symm (by assumption) | exact AH.ne_none (by assumption) (by assumption) | exact AH.none_ne (by assumption) (by assumption) | exact (AH.none_set (by assumption)).1 | exact Ne.symm (AH.none_set (by assumption)).1))])); done) | ((repeat' (first | refine HLe.set_of _ _ ?_ ?_ | refine HLe.del _ ?_ ?_)) <;> (first | assumption | exact HLe.refl _ | exact HLe.none (by assumption) (by assumption) | (simp_all; done))))
 ·refine ⟨false, by simp; intro e1 e2 e3; subst e1 e2 e3; exact hf ⟨rfl, rfl, rfl⟩, ACall.back ?_⟩
  generalize L.length = a1 at *
  generalize M.length = a2 at *
  generalize P.length = a3 at *
  generalize Q.length = a4 at *
  refine zQ zU (dok _) Tryz.func22 rfl (by decide) rfl ?_
  (repeat' ((conv => whnf); first | refine Then.mk ?_ | left | refine zd ?_ | (refine Both.mk ?_ ?_ <;> intro hc <;> try exact wX hc) | (intro c hc; (try (simp only [AH.zA] at hc; repeat (have hn := hc.1; replace hc := hc.2)))))) <;> (try (conv => whnf))
  all_goals first | exact absurd ⟨by assumption, by assumption, by assumption⟩ hf | (first | ((repeat' (first | (with_reducible exact HLe.refl _) | (with_reducible assumption) | apply HLe.push | refine HLe.set_of _ _ ?_ ?_ | refine HLe.del _ ?_ ?_ | rw [AH.zR _ _ (by (first | assumption | omega | exact Ne.symm (by assumption) | exact AH.ne_none (by assumption) (by assumption) | exact AH.none_ne (by assumption) (by assumption) | exact (AH.none_set (by assumption)).1 | exact Ne.symm (AH.none_set (by assumption)).1))])); done) | ((repeat' (first | refine HLe.set_of _ _ ?_ ?_ | refine HLe.del _ ?_ ?_)) <;> (first | assumption | exact HLe.refl _ | exact HLe.none (by assumption) (by assumption) | (simp_all; done))))
noncomputable def Tl.err (t : Tl) : Int := tileE t.b t.L t.P
noncomputable def Tl.pack (Z : List Int) (t : Tl) : List UInt8 := if tileE t.b t.L t.P = 0 then packT Z t.b.toNat t.L t.P else []
theorem Tl.good {t : Tl} (h : tileE t.b t.L t.P = 0) : ∃ n : Nat, (1 ≤ n ∧ n ≤ 4) ∧ t.b = n ∧ Well n t.L t.P := by
 obtain ⟨⟨t1, t2, t3⟩, t4⟩ := tile_good h
 refine ⟨t.b.toNat, by omega, by omega, t2, by omega, t4⟩
set_option maxRecDepth 8000 in
theorem encode_any {Z : List Int} (hz : ZO Z) (hzig : Zg Z) (t : Tl) (ht : t.Fit) (H : AH) :
  ACall Tryz.prog 7 [t.v] H (fun y H' => y = .tup [.cs (u8s (t.pack Z)) (t.pack Z).length, .int .i64 t.err] ∧ H' = H) := by
 by_cases h : tileE t.b t.L t.P = 0
 ·obtain ⟨n, hn, hb, w⟩ := Tl.good h
  have := encode_ok hz hzig n hn t.L t.P w H
  unfold Tl.pack Tl.err Tl.v tV
  rw [if_pos h, h, hb, Int.toNat_natCast, w.l, w.p]
  exact this
 ·obtain ⟨f1, f2, f3⟩ := ht
  have vc := fun H => valid_c t.b t.L t.P f1 (by unfold tI; omega) (by unfold tI; omega) H
  unfold Tl.pack Tl.err
  rw [if_neg h]
  unfold Tl.v
  unfold tV at vc ⊢
  generalize tileE t.b t.L t.P = e at *
  refine ACall.told ?_
  refine zQ zU (dok _) Tryz.func7 rfl (by decide) rfl ?_
  (repeat' ((conv => whnf); first | refine Then.mk ?_ | left | refine zg ?_ (vc _) | refine zgg ?_ (vc _) | refine zd ?_ | (refine Both.mk ?_ ?_ <;> intro hc <;> try exact wX hc) | (intro c hc; (try (simp only [AH.zA] at hc; repeat (have hn := hc.1; replace hc := hc.2)))) | (refine ACall.to (vc _) ?_))) <;> (try (conv => whnf))
  exact ⟨_, _, AVle.tup (AVles.cons AVle.nils (AVles.refl _)), by (first | ((repeat' (first | (with_reducible exact HLe.refl _) | (with_reducible assumption) | apply HLe.push | refine HLe.set_of _ _ ?_ ?_ | refine HLe.del _ ?_ ?_ | rw [AH.zR _ _ (by (first | assumption | omega | exact Ne.symm (by assumption) | exact AH.ne_none (by assumption) (by assumption) | exact AH.none_ne (by assumption) (by assumption) | exact (AH.none_set (by assumption)).1 | exact Ne.symm (AH.none_set (by assumption)).1))])); done) | ((repeat' (first | refine HLe.set_of _ _ ?_ ?_ | refine HLe.del _ ?_ ?_)) <;> (first | assumption | exact HLe.refl _ | exact HLe.none (by assumption) (by assumption) | (simp_all; done)))), rfl, rfl⟩
set_option maxRecDepth 8000 in
theorem rencode_any {Z : List Int} (hz : ZO Z) (hr : Zr Z) (t : Tl) (ht : t.Fit) (H : AH) :
  ACall Tryz.prog 20 [t.v] H (fun y H' => y = .tup [.cs (u8s (t.pack Z)) (t.pack Z).length, .int .i64 t.err] ∧ H' = H) := by
 obtain ⟨f1, f2, f3⟩ := ht
 have vc := fun H => rvalid_c t.b t.L t.P f1 (by unfold tI; omega) (by unfold tI; omega) H
 by_cases h : tileE t.b t.L t.P = 0
 ·obtain ⟨n, hn, hb, w⟩ := Tl.good h
  have sc := fun H => rsplit_c hz hr n hn t.L t.P w.semi H
  have jc := fun H => rjoin_c (partsT Z n t.L t.P n) (by rw [partsT_len]; omega) (by rw [partsT_len]; omega) (w.semi.parts hz) H
  rw [partsT_len] at jc
  have jc : ∀ H, ACall Tryz.prog 59 [.cs (pvL (partsT Z n t.L t.P n)) (n + 1)] H (fun y H' => y = .cs (u8s (packT Z n t.L t.P)) (packT Z n t.L t.P).length ∧ H' = H) := jc
  unfold Tl.pack Tl.err Tl.v
  unfold tV at vc ⊢
  rw [h] at vc
  rw [if_pos h, h, hb, Int.toNat_natCast, w.l, w.p]
  rw [hb, w.l, w.p] at vc
  generalize packT Z n t.L t.P = B at *
  generalize pvL (partsT Z n t.L t.P n) = R at *
  refine ACall.back ?_
  refine zQ zU (dok _) Tryz.func20 rfl (by decide) rfl ?_
  (repeat' ((conv => whnf); first | refine Then.mk ?_ | left | refine zg ?_ (vc _) | refine zg ?_ (sc _) | refine zg ?_ (jc _) | refine zgg ?_ (vc _) | refine zgg ?_ (sc _) | refine zgg ?_ (jc _) | refine zd ?_ | (refine Both.mk ?_ ?_ <;> intro hc <;> try exact wX hc) | (intro c hc; (try (simp only [AH.zA] at hc; repeat (have hn := hc.1; replace hc := hc.2)))) | (refine ACall.to (vc _) ?_) | (refine ACall.to (sc _) ?_) | (refine ACall.to (jc _) ?_))) <;> (try (conv => whnf))
  all_goals (first | ((repeat' (first | (with_reducible exact HLe.refl _) | (with_reducible assumption) | apply HLe.push | refine HLe.set_of _ _ ?_ ?_ | refine HLe.del _ ?_ ?_ | rw [AH.zR _ _ (by (first | assumption | omega | exact Ne.symm (by assumption) | exact AH.ne_none (by assumption) (by assumption) | exact AH.none_ne (by assumption) (by assumption) | exact (AH.none_set (by assumption)).1 | exact Ne.symm (AH.none_set (by assumption)).1))])); done) | ((repeat' (first | refine HLe.set_of _ _ ?_ ?_ | refine HLe.del _ ?_ ?_)) <;> (first | assumption | exact HLe.refl _ | exact HLe.none (by assumption) (by assumption) | (simp_all; done))))
 ·unfold Tl.pack Tl.err
  rw [if_neg h]
  unfold Tl.v
  unfold tV at vc ⊢
  generalize tileE t.b t.L t.P = e at *
  refine ACall.told ?_
  refine zQ zU (dok _) Tryz.func20 rfl (by decide) rfl ?_
  (repeat' ((conv => whnf); first | refine Then.mk ?_ | left | refine zg ?_ (vc _) | refine zgg ?_ (vc _) | refine zd ?_ | (refine Both.mk ?_ ?_ <;> intro hc <;> try exact wX hc) | (intro c hc; (try (simp only [AH.zA] at hc; repeat (have hn := hc.1; replace hc := hc.2)))) | (refine ACall.to (vc _) ?_))) <;> (try (conv => whnf))
  exact ⟨_, _, AVle.tup (AVles.cons AVle.nils (AVles.refl _)), by (first | ((repeat' (first | (with_reducible exact HLe.refl _) | (with_reducible assumption) | apply HLe.push | refine HLe.set_of _ _ ?_ ?_ | refine HLe.del _ ?_ ?_ | rw [AH.zR _ _ (by (first | assumption | omega | exact Ne.symm (by assumption) | exact AH.ne_none (by assumption) (by assumption) | exact AH.none_ne (by assumption) (by assumption) | exact (AH.none_set (by assumption)).1 | exact Ne.symm (AH.none_set (by assumption)).1))])); done) | ((repeat' (first | refine HLe.set_of _ _ ?_ ?_ | refine HLe.del _ ?_ ?_)) <;> (first | assumption | exact HLe.refl _ | exact HLe.none (by assumption) (by assumption) | (simp_all; done)))), rfl, rfl⟩
open Go.Fw Go
noncomputable def eqT (s t : Tl) : Bool := @decide (s = t) (Classical.propDecidable _)
theorem eqT_of {s t : Tl} {b : Bool} (h : b = true ↔ s = t) : b = eqT s t := by
 unfold eqT
 by_cases e : s = t
 ·rw [h.2 e]; exact (@decide_eq_true _ (Classical.propDecidable _) e).symm
 ·cases b
  ·exact (@decide_eq_false _ (Classical.propDecidable _) e).symm
  ·exact absurd (h.1 rfl) e
theorem eqT_same (t : Tl) : eqT t t = true := by unfold eqT; exact @decide_eq_true _ (Classical.propDecidable _) rfl
theorem equalT (s t : Tl) (hs : s.Fit) (ht : t.Fit) (H : AH) : ACall Tryz.prog 21 [s.v, t.v] H (fun y H' => y = .bool (eqT s t) ∧ H' = H) := by
 obtain ⟨b, h1, h2⟩ := tEqual_c s t hs ht H
 rw [← eqT_of h1]; exact h2
theorem requalT (s t : Tl) (hs : s.Fit) (ht : t.Fit) (H : AH) : ACall Tryz.prog 22 [s.v, t.v] H (fun y H' => y = .bool (eqT s t) ∧ H' = H) := by
 obtain ⟨b, h1, h2⟩ := rtEqual_c s t hs ht H
 rw [← eqT_of h1]; exact h2
set_option maxRecDepth 8000 in
set_option maxHeartbeats 4000000 in
theorem CodecEncodes_c (l0 : List Int) (hl0 : l0.length ≤ maxLen) (hz0 : l0.length * 8 ≤ 140737488351232) (hr0 : ∀ n ∈ l0, -9223372036854775808 ≤ n ∧ n ≤ 9223372036854775807) (l1 : List Int) (hl1 : l1.length ≤ maxLen) (hz1 : l1.length * 8 ≤ 140737488351232) (hr1 : ∀ n ∈ l1, -9223372036854775808 ≤ n ∧ n ≤ 9223372036854775807) (x2 : Int) (hx2 : -9223372036854775808 ≤ x2 ∧ x2 ≤ 9223372036854775807) (x3 : Int) (hx3 : -9223372036854775808 ≤ x3 ∧ x3 ≤ 9223372036854775807) (x4 : Int) (hx4 : -9223372036854775808 ≤ x4 ∧ x4 ≤ 9223372036854775807) :
  ACall Tryz.prog 4 [.cs (iS .i64 l0) l0.length, .cs (iS .i64 l1) l1.length, .int .i64 x2, .int .i64 x3, .int .i64 x4] (fun _ => none) (fun y _ => y = .bool true) := by
 obtain ⟨Z, hz, hzig, hzr⟩ := zr_ex
 have ta := fun H => tile_c l0 hr0 hl0 x2 hx2 H
 have tb := fun H => tile_c l1 hr1 hl1 x2 hx2 H
 have h3 := aro_lt (n := x2) (m := 3) (by decide)
 obtain ⟨n, hn⟩ : ∃ n, n = 1 + aro x2 3 := ⟨_, rfl⟩
 rw [← hn] at ta tb
 have wa := tile_well l0 (n := n) (by omega)
 have wb := tile_well l1 (n := n) (by omega)
 generalize fnL 256 (tlA l0) = La at *
 generalize fnL (256 * n) (tlB l0 n) = Pa at *
 generalize fnL 256 (tlA l1) = Lb at *
 generalize fnL (256 * n) (tlB l1 n) = Pb at *
 have hn3 : 1 ≤ n ∧ n ≤ 3 := by omega
 clear hn h3
 have hLa := wa.l
 have hPa := wa.p
 have hLb := wb.l
 have hPb := wb.p
 clear wa wb
 obtain ⟨b', L', P', c1, c2, c3, sc⟩ := spoilt_c (n : Int) La Pa (by unfold J64; omega) (by omega) (by omega) x3 hx3 x4 hx4
 have hfa : Tl.Fit ⟨n, La, Pa⟩ := ⟨by unfold J64; dsimp only; omega, by dsimp only; omega, by dsimp only; omega⟩
 have hfb : Tl.Fit ⟨n, Lb, Pb⟩ := ⟨by unfold J64; dsimp only; omega, by dsimp only; omega, by dsimp only; omega⟩
 have hfc : Tl.Fit ⟨b', L', P'⟩ := ⟨c1, by dsimp only; omega, by dsimp only; omega⟩
 obtain ⟨T, hT⟩ : ∃ T : Nat → Tl, T = fun q => if q = 0 then ⟨n, La, Pa⟩ else if q = 1 then ⟨b', L', P'⟩ else ⟨n, Lb, Pb⟩ := ⟨_, rfl⟩
 have hTf : ∀ q, q < 3 → (T q).Fit := fun q _ => by
  rw [hT]; dsimp only
  by_cases h1 : q = 0
  ·rw [if_pos h1]; exact hfa
  ·rw [if_neg h1]
   by_cases h2 : q = 1
   ·rw [if_pos h2]; exact hfc
   ·rw [if_neg h2]; exact hfb
 have e0 : Tl.v ⟨n, La, Pa⟩ = (T 0).v := by rw [hT]; rfl
 have e1 : Tl.v ⟨b', L', P'⟩ = (T 1).v := by rw [hT]; rfl
 have e2 : Tl.v ⟨n, Lb, Pb⟩ = (T 2).v := by rw [hT]; rfl
 have ll : ∀ H, ACall Tryz.prog 18 [] H (fun y H' => y = .bool true ∧ H' = H) := fun H => lives26_c H
 unfold tV at ta tb sc
 generalize (fun _ => none : AH) = H0
 refine zQ zU (dok _) Tryz.func4 rfl (by decide) rfl ?_
 (repeat' ((conv => whnf); first | left | refine zd ?_ | (refine Both.mk ?_ ?_ <;> intro hc <;> try exact wX hc) | (intro c hc; (try (simp only [AH.zA] at hc; repeat (have hn := hc.1; replace hc := hc.2)))))) <;> (try (conv => whnf))
 refine Then.mk ?_
 (repeat' ((conv => whnf); first | left | refine zg ?_ (ta _) | refine zgg ?_ (ta _) | refine zd ?_ | (refine Both.mk ?_ ?_ <;> intro hc <;> try exact wX hc) | (intro c hc; (try (simp only [AH.zA] at hc; repeat (have hn := hc.1; replace hc := hc.2)))) | (refine ACall.to (ta _) ?_))) <;> (try (conv => whnf))
 refine Then.mk (AWq.in ?_)
 refine AWp_segP 11 [.int .i64 n, .cs (iS .i64 La) La.length, .cs (iS .i64 Pa) Pa.length] rfl rfl (by assumption) rfl rfl ?_
 refine AWp.of zU (dok _) rfl ?_
 (repeat' ((conv => whnf); first | refine Then.mk ?_ | left | refine zg ?_ (ta _) | refine zg ?_ (tb _) | refine zg ?_ (sc _) | refine zgg ?_ (ta _) | refine zgg ?_ (tb _) | refine zgg ?_ (sc _) | refine zd ?_ | (refine Both.mk ?_ ?_ <;> intro hc <;> try exact wX hc) | (intro c hc; (try (simp only [AH.zA] at hc; repeat (have hn := hc.1; replace hc := hc.2)))) | (refine ACall.to (ta _) ?_) | (refine ACall.to (tb _) ?_) | (refine ACall.to (sc _) ?_))) <;> (try (conv => whnf))
 obtain ⟨R, hR⟩ : ∃ R : List AV, R = [.int .i64 n, .cs (iS .i64 La) La.length, .cs (iS .i64 Pa) Pa.length, .int .i64 b', .cs (iS .i64 L') L'.length, .cs (iS .i64 P') P'.length, .int .i64 n, .cs (iS .i64 Lb) Lb.length, .cs (iS .i64 Pb) Pb.length] := ⟨_, rfl⟩
 have hseg : ∀ q : Nat, q < 3 → List.take 3 (List.drop ((q : Int).toNat * 3) R) = (T q).cells := fun q hq => by
  rw [hR, hT]
  rcases (show q = 0 ∨ q = 1 ∨ q = 2 by omega) with rfl | rfl | rfl <;> rfl
 have lR : R.length = 9 := by rw [hR]; rfl
 rw [← hR]
 clear hR hT e0 e1 e2 sc ta tb hfa hfb hfc
 refine zT (σ := Nat) (10 :: 13 :: 14 :: 15 :: 16 :: 17 :: 18 :: 19 :: 20 :: 33 :: 34 :: 35 :: 36 :: 37 :: 38 :: 39 :: 40 :: 41 :: 42 :: 43 :: 44 :: 45 :: 46 :: 47 :: 48 :: 49 :: 50 :: 51 :: 52 :: 53 :: 54 :: 55 :: 56 :: 57 :: 58 :: 59 :: 60 :: 61 :: 62 :: 63 :: 64 :: 65 :: 66 :: 67 :: 68 :: 69 :: 70 :: 71 :: 72 :: 73 :: 74 :: 75 :: 76 :: 77 :: 78 :: 79 :: 80 :: 81 :: 82 :: 83 :: 84 :: 85 :: 86 :: 87 :: 88 :: 89 :: 90 :: 91 :: 92 :: 93 :: 94 :: 95 :: 96 :: 97 :: 98 :: 99 :: 100 :: 101 :: 102 :: 103 :: []) (fun i => [(13, .int .i64 i)]) (fun _ => H0) (fun i => i ≤ 3) (fun i => 3 - i) 0 rfl (Nat.zero_le _) ⟨rfl, trivial⟩ (HLe.refl _) ?_
 intro i hi
 refine AWp.of zU (dok _) rfl ?_
 dsimp only at hi ⊢
 by_cases hit : i < 3
 ·have hsg := hseg i hit
  have hf := hTf i hit
  have en : ∀ H, ACall Tryz.prog 7 [.agg (List.take 3 (List.drop ((i : Int).toNat * 3) R))] H (fun y H' => y = .tup [.cs (u8s ((T i).pack Z)) ((T i).pack Z).length, .int .i64 (T i).err] ∧ H' = H) := fun H => by
   rw [hsg]; exact encode_any hz hzig (T i) hf H
  have rn : ∀ H, ACall Tryz.prog 20 [.agg (List.take 3 (List.drop ((i : Int).toNat * 3) R))] H (fun y H' => y = .tup [.cs (u8s ((T i).pack Z)) ((T i).pack Z).length, .int .i64 (T i).err] ∧ H' = H) := fun H => by
   rw [hsg]; exact rencode_any hz hzr (T i) hf H
  have q1 : ∀ k : Nat, k < 3 → ∀ H, ACall Tryz.prog 21 [.agg (List.take 3 (List.drop ((i : Int).toNat * 3) R)), .agg (List.take 3 (List.drop ((k : Int).toNat * 3) R))] H (fun y H' => y = .bool (eqT (T i) (T k)) ∧ H' = H) := fun k hk H => by
   rw [hsg, hseg k hk]; exact equalT (T i) (T k) hf (hTf k hk) H
  have q2 : ∀ k : Nat, k < 3 → ∀ H, ACall Tryz.prog 22 [.agg (List.take 3 (List.drop ((i : Int).toNat * 3) R)), .agg (List.take 3 (List.drop ((k : Int).toNat * 3) R))] H (fun y H' => y = .bool (eqT (T i) (T k)) ∧ H' = H) := fun k hk H => by
   rw [hsg, hseg k hk]; exact requalT (T i) (T k) hf (hTf k hk) H
  have hbb : ((u8s ((T i).pack Z)).length = ((T i).pack Z).length) := by simp
  have de : (T i).err = 0 → ∃ n : Nat, (∀ H, ACall Tryz.prog 23 [.cs (u8s ((T i).pack Z)) ((T i).pack Z).length] H (fun y H' => y = .tup [.agg [.int .i64 n, .cs (iS .i64 (T i).L) 256, .cs (iS .i64 (T i).P) (256 * n)], .int .i64 0] ∧ H' = H)) ∧
    ∀ H, ACall Tryz.prog 22 [.agg [.int .i64 n, .cs (iS .i64 (T i).L) 256, .cs (iS .i64 (T i).P) (256 * n)], .agg (List.take 3 (List.drop ((i : Int).toNat * 3) R))] H (fun y H' => y = .bool true ∧ H' = H) := fun he => by
   have h0 : tileE (T i).b (T i).L (T i).P = 0 := he
   obtain ⟨n, hn, hb, w⟩ := Tl.good h0
   refine ⟨n, fun H => ?_, fun H => ?_⟩
   ·have := Decode_ok hz hzig hn w.semi (by rw [← hb]; exact h0) H
    unfold Tl.pack
    rw [if_pos h0, hb, Int.toNat_natCast]
    exact this
   ·have := requalT (T i) (T i) hf hf H
    rw [eqT_same] at this
    rw [hsg]
    unfold Tl.v tV at this
    unfold Tl.cells
    rw [hb, w.l, w.p] at this ⊢
    exact this
  generalize (T i).pack Z = B at *
  generalize (T i).err = e at *
  (repeat' ((conv => whnf); first | refine Then.mk ?_ | left | refine zg ?_ (en _) | refine zg ?_ (rn _) | refine zgg ?_ (en _) | refine zgg ?_ (rn _) | refine zd ?_ | (refine Both.mk ?_ ?_ <;> intro hc <;> try exact wX hc) | (intro c hc; (try (simp only [AH.zA] at hc; repeat (have hn := hc.1; replace hc := hc.2)))) | (refine ACall.to (en _) ?_) | (refine ACall.to (rn _) ?_))) <;> (try (conv => whnf))
  refine zT (σ := Nat) (10 :: 18 :: 63 :: 64 :: 65 :: 66 :: 67 :: 68 :: 69 :: 70 :: 71 :: 72 :: 73 :: 74 :: 75 :: 76 :: 77 :: 78 :: 79 :: 80 :: 81 :: 82 :: 83 :: 84 :: 85 :: []) (fun k => [(18, .int .i64 k)]) (fun _ => H0) (fun k => k ≤ 3) (fun k => 3 - k) 0 rfl (Nat.zero_le _) ⟨rfl, trivial⟩ (HLe.refl _) ?_
  intro k hk
  refine AWp.of zU (dok _) rfl ?_
  dsimp only at hk ⊢
  by_cases hkt : k < 3
  ·have q1 := q1 k hkt
   have q2 := q2 k hkt
   generalize eqT (T i) (T k) = x at *
   cases x
   ·(repeat' ((conv => whnf); first | refine Then.mk ?_ | left | refine zg ?_ (q1 _) | refine zg ?_ (q2 _) | refine zgg ?_ (q1 _) | refine zgg ?_ (q2 _) | refine zd ?_ | (refine Both.mk ?_ ?_ <;> intro hc <;> try exact wX hc) | (intro c hc; (try (simp only [AH.zA] at hc; repeat (have hn := hc.1; replace hc := hc.2)))) | (refine ACall.to (q1 _) ?_) | (refine ACall.to (q2 _) ?_))) <;> (try (conv => whnf))
    exact ⟨k + 1, hkt, by omega, ⟨congrArg (AV.int .i64) (by omega), trivial⟩, HLe.refl _⟩
   ·(repeat' ((conv => whnf); first | refine Then.mk ?_ | left | refine zg ?_ (q1 _) | refine zg ?_ (q2 _) | refine zgg ?_ (q1 _) | refine zgg ?_ (q2 _) | refine zd ?_ | (refine Both.mk ?_ ?_ <;> intro hc <;> try exact wX hc) | (intro c hc; (try (simp only [AH.zA] at hc; repeat (have hn := hc.1; replace hc := hc.2)))) | (refine ACall.to (q1 _) ?_) | (refine ACall.to (q2 _) ?_))) <;> (try (conv => whnf))
    exact ⟨k + 1, hkt, by omega, ⟨congrArg (AV.int .i64) (by omega), trivial⟩, HLe.refl _⟩
  ·have hke : k = 3 := by omega
   subst hke
   by_cases he : e = 0
   ·obtain ⟨n, d1, d2⟩ := de he
    subst he
    (repeat' ((conv => whnf); first | left | refine zd ?_ | (refine Both.mk ?_ ?_ <;> intro hc <;> try exact wX hc) | (intro c hc; (try (simp only [AH.zA] at hc; repeat (have hn := hc.1; replace hc := hc.2)))))) <;> (try (conv => whnf))
    refine Then.mk ?_
    (repeat' ((conv => whnf); first | (refine Then.mk (AWq.in ?_); refine AWp_segP 19 ([.int .i64 n, .cs (iS .i64 (T i).L) 256, .cs (iS .i64 (T i).P) (256 * n)]) rfl rfl (by assumption) (rfl) (rfl) ?_; refine AWp.of zU (dok _) rfl ?_) | refine Then.mk ?_ | left | refine zg ?_ (d1 _) | refine zg ?_ (d2 _) | refine zgg ?_ (d1 _) | refine zgg ?_ (d2 _) | refine zd ?_ | (refine Both.mk ?_ ?_ <;> intro hc <;> try exact wX hc) | (intro c hc; (try (simp only [AH.zA] at hc; repeat (have hn := hc.1; replace hc := hc.2)))) | (refine ACall.to (d1 _) ?_) | (refine ACall.to (d2 _) ?_))) <;> (try (conv => whnf))
    exact ⟨i + 1, hit, by omega, ⟨congrArg (AV.int .i64) (by omega), trivial⟩, HLe.refl _⟩
   ·(repeat' ((conv => whnf); first | refine Then.mk ?_ | left | refine zd ?_ | (refine Both.mk ?_ ?_ <;> intro hc <;> try exact wX hc) | (intro c hc; (try (simp only [AH.zA] at hc; repeat (have hn := hc.1; replace hc := hc.2)))))) <;> (try (conv => whnf))
    exact ⟨i + 1, hit, by omega, ⟨congrArg (AV.int .i64) (by omega), trivial⟩, HLe.refl _⟩
 ·have hie : i = 3 := by omega
  subst hie
  (repeat' ((conv => whnf); first | refine Then.mk ?_ | left | refine zg ?_ (ll _) | refine zgg ?_ (ll _) | refine zd ?_ | (refine Both.mk ?_ ?_ <;> intro hc <;> try exact wX hc) | (intro c hc; (try (simp only [AH.zA] at hc; repeat (have hn := hc.1; replace hc := hc.2)))) | (refine ACall.to (ll _) ?_))) <;> (try (conv => whnf))
end Go.Proofs.YtgpfmojlgejnhaaGreat
