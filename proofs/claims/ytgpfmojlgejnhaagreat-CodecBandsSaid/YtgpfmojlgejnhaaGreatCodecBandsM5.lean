/- For the law CodecBands, part 5 of 7: the frame of the walk, the walks of the functions, the plain law, the row. No conditions. -/
import Derived.Test.YtgpfmojlgejnhaaGreatCodecBandsM4
/- The walk of the reference's Labels. -/
namespace Go.Proofs.YtgpfmojlgejnhaaGreat
open Go.Fw Go
set_option linter.unusedVariables false
set_option linter.unusedSimpArgs false
def lblQ (l : List Int) (w i : Nat) : Nat := (i % w * pickV l 0 3 + i / w * pickV l 1 3) / 7 % 3
def lblN (l : List Int) (w i : Nat) : Int :=
 if pickV l ((i % 11 : Nat) : Int) 40 = 1 then -1 - ((i % 2 : Nat) : Int) else if pickV l ((i % 11 : Nat) : Int) 40 = 0 then ((i % 5 : Nat) : Int) else (lblQ l w i : Int)
def lblV (l : List Int) (w h : Nat) : List Int := fnL (w * h) (lblN l w)
theorem lblV_len (l : List Int) (w h : Nat) : (lblV l w h).length = w * h := fnL_len _ _
theorem lblN_bd (l : List Int) (w i : Nat) : -2 ≤ lblN l w i ∧ lblN l w i ≤ 4 := by
 have : lblQ l w i < 3 := Nat.mod_lt _ (by decide)
 unfold lblN
 split
 ·omega
 ·split <;> omega
set_option maxRecDepth 8000 in
set_option maxHeartbeats 8000000 in
theorem labels_c (l : List Int) (hl : ∀ n ∈ l, -9223372036854775808 ≤ n ∧ n ≤ 9223372036854775807) (hll : l.length ≤ maxLen) (w h : Nat) (hw : w ≤ 300) (hh : h ≤ 300) (H : AH) :
  ACall Tryz.prog 31 [.cs (iS .i64 l) l.length, .int .i64 w, .int .i64 h] H (fun y H' => y = .cs (iS .i64 (lblV l w h)) (w * h) ∧ H' = H) := by
 have hll2 : l.length ≤ 9223372036854775807 := by unfold maxLen at hll; omega
 have hp := fun (i : Nat) (hi : i ≤ 1000) m hm1 hm2 H => pick_f l hl hll2 (i : Int) (by omega) m hm1 hm2 H
 refine ACall.cold (es := 1) (by rw [iS_length, lblV_len]; omega) ?_
 have hwh : w * h ≤ 300 * 300 := Nat.mul_le_mul hw hh
 have wm : IntKind.i64.wrap ((w : Int) * (h : Int)) = ((w * h : Nat) : Int) := by rw [← Int.natCast_mul, IntKind.wrap_i64]; omega
 unfold lblV
 obtain ⟨N, hN⟩ : ∃ N, N = w * h := ⟨_, rfl⟩
 rw [← hN] at wm hwh ⊢
 refine zQ zU (dok _) Tryz.func31 rfl (by decide) rfl ?_
 (iterate 1 ((repeat' ((conv => whnf); first | left | refine zd ?_ | (refine Both.mk ?_ ?_ <;> intro hc <;> try exact wX hc) | (intro c hc; (try (simp only [AH.zA] at hc; repeat (have hn := hc.1; replace hc := hc.2)))))) <;> (try (conv => whnf)); refine Then.mk ?_))
 (repeat' ((conv => whnf); first | left | refine zd ?_ | (refine Both.mk ?_ ?_ <;> intro hc <;> try exact wX hc) | (intro c hc; (try (simp only [AH.zA] at hc; repeat (have hn := hc.1; replace hc := hc.2)))))) <;> (try (conv => whnf))
 refine Then.mk (AWq.in ?_)
 refine AWp_nilrow1 7 1 rfl rfl fun q hq => ?_
 refine AWp.of zU (dok _) rfl ?_
 (repeat' ((conv => whnf); first | refine Then.mk ?_ | left | refine zd ?_ | (refine Both.mk ?_ ?_ <;> intro hc <;> try exact wX hc) | (intro c hc; (try (simp only [AH.zA] at hc; repeat (have hn := hc.1; replace hc := hc.2)))))) <;> (try (conv => whnf))
 refine zT (σ := Nat) (7 :: 8 :: 9 :: 10 :: 11 :: 12 :: 13 :: 14 :: 15 :: 16 :: 17 :: 18 :: 19 :: 20 :: 21 :: 22 :: 23 :: 24 :: 25 :: 26 :: 27 :: 28 :: 29 :: 30 :: 31 :: 32 :: 33 :: 34 :: 35 :: 36 :: 37 :: 38 :: 39 :: 40 :: 41 :: 42 :: 43 :: 44 :: 45 :: 46 :: 47 :: 48 :: 49 :: 50 :: []) (fun i => [(8, .int .i64 i), (7, .sl q i 1 0 i none)]) (fun i => H.set q (.row (iS .i64 (fnL i (lblN l w))) i)) (fun i => i ≤ N) (fun i => N - i) 0 rfl (Nat.zero_le _) ⟨rfl, rfl, trivial⟩ (HLe.refl _) ?_
 intro i hi
 refine AWp.of zU (dok _) rfl ?_
 dsimp only at hi ⊢
 by_cases hit : i < N
 ·have hw1 : 1 ≤ w := by
   rcases Nat.eq_zero_or_pos w with h0 | h0
   ·rw [h0, Nat.zero_mul] at hN; omega
   ·exact h0
  have pk := fun H => hp (i % 11) (by omega) 40 (by decide) (by decide) H
  have p0 := fun H => hp 0 (by decide) 3 (by decide) (by decide) H
  have p1 := fun H => hp 1 (by decide) 3 (by decide) (by decide) H
  have l0 := pickV_lt (l := l) (i := ((0 : Nat) : Int)) (m := 3) (by decide)
  have l1 := pickV_lt (l := l) (i := ((1 : Nat) : Int)) (m := 3) (by decide)
  have hsn : iS .i64 (fnL (i + 1) (lblN l w)) = iS .i64 (fnL i (lblN l w)) ++ [.int .i64 (lblN l w i)] := by rw [fnL_snoc, ← iS_snoc]
  rw [show lblN l w i = if pickV l ((i % 11 : Nat) : Int) 40 = 1 then -1 - ((i % 2 : Nat) : Int) else if pickV l ((i % 11 : Nat) : Int) 40 = 0 then ((i % 5 : Nat) : Int) else (((i % w * pickV l ((0 : Nat) : Int) 3 + i / w * pickV l ((1 : Nat) : Int) 3) / 7 % 3 : Nat) : Int) from rfl] at hsn
  generalize pickV l ((i % 11 : Nat) : Int) 40 = kk at *
  generalize pickV l ((0 : Nat) : Int) 3 = P0 at *
  generalize pickV l ((1 : Nat) : Int) 3 = P1 at *
  have hA : i % w < w := Nat.mod_lt _ hw1
  have hB : i / w ≤ i := Nat.div_le_self _ _
  have e_mod : ((i : Int).tmod (w : Int)) = ((i % w : Nat) : Int) := by rw [Int.tmod_eq_emod_of_nonneg (by omega)]; omega
  have e_div : IntKind.i64.wrap ((i : Int).tdiv (w : Int)) = ((i / w : Nat) : Int) := by
   rw [Int.tdiv_eq_ediv_of_nonneg (by omega), ← Int.natCast_ediv]
   generalize i / w = z at hB ⊢
   rw [IntKind.wrap_i64]; omega
  have e_max : max (w : Int) 1 = w := by omega
  have e_div2 : IntKind.i64.wrap ((i : Int).tdiv (max (w : Int) 1)) = ((i / w : Nat) : Int) := by rw [e_max]; exact e_div
  have e11 : ((i : Int).tmod 11) = ((i % 11 : Nat) : Int) := by rw [Int.tmod_eq_emod_of_nonneg (by omega)]; omega
  have e5 : ((i : Int).tmod 5) = ((i % 5 : Nat) : Int) := by rw [Int.tmod_eq_emod_of_nonneg (by omega)]; omega
  have e2 : ((i : Int).tmod 2) = ((i % 2 : Nat) : Int) := by rw [Int.tmod_eq_emod_of_nonneg (by omega)]; omega
  generalize i % w = A at *
  generalize i / w = Bq at *
  have hU : A * P0 ≤ 300 * 3 := Nat.mul_le_mul (by omega) (by omega)
  have hV : Bq * P1 ≤ 90000 * 3 := Nat.mul_le_mul (by omega) (by omega)
  have e_m1 : IntKind.i64.wrap ((A : Int) * (P0 : Int)) = ((A * P0 : Nat) : Int) := by rw [← Int.natCast_mul, IntKind.wrap_i64]; omega
  have e_m2 : IntKind.i64.wrap ((Bq : Int) * (P1 : Int)) = ((Bq * P1 : Nat) : Int) := by rw [← Int.natCast_mul, IntKind.wrap_i64]; omega
  generalize A * P0 = U at *
  generalize Bq * P1 = V at *
  have e7 : IntKind.i64.wrap (((U : Int) + (V : Int)).tdiv 7) = (((U + V) / 7 : Nat) : Int) := by
   rw [Int.tdiv_eq_ediv_of_nonneg (by omega), IntKind.wrap_i64]; omega
  have e3 : ((((U + V) / 7 : Nat) : Int).tmod 3) = (((U + V) / 7 % 3 : Nat) : Int) := by rw [Int.tmod_eq_emod_of_nonneg (by omega)]; omega
  generalize hQ : (U + V) / 7 = Q at *
  have hil : (iS .i64 (fnL i (lblN l w))).length = i := by simp
  generalize hR2 : iS .i64 (fnL (i + 1) (lblN l w)) = R2 at *
  generalize iS .i64 (fnL i (lblN l w)) = R1 at *
  have pk : ∀ H, ACall Tryz.prog 32 [.cs (iS .i64 l) l.length, .int .i64 ((i % 11 : Nat) : Int), .int .i64 40] H (fun y H' => y = .int .i64 kk ∧ H' = H) := pk
  have p0 : ∀ H, ACall Tryz.prog 32 [.cs (iS .i64 l) l.length, .int .i64 0, .int .i64 3] H (fun y H' => y = .int .i64 P0 ∧ H' = H) := p0
  have p1 : ∀ H, ACall Tryz.prog 32 [.cs (iS .i64 l) l.length, .int .i64 1, .int .i64 3] H (fun y H' => y = .int .i64 P1 ∧ H' = H) := p1
  rcases (show kk = 0 ∨ kk = 1 ∨ kk ≠ 0 ∧ kk ≠ 1 by omega) with h0 | h0 | h0
  ·rw [if_neg (by omega), if_pos h0] at hsn
   (repeat' ((conv => whnf); first | refine Then.mk ?_ | left | refine zg ?_ (pk _) | refine zg ?_ (p0 _) | refine zg ?_ (p1 _) | refine zgg ?_ (pk _) | refine zgg ?_ (p0 _) | refine zgg ?_ (p1 _) | refine zd ?_ | (refine Both.mk ?_ ?_ <;> intro hc <;> try exact wX hc) | (intro c hc; (try (simp only [AH.zA] at hc; repeat (have hn := hc.1; replace hc := hc.2)))) | (refine ACall.to (pk _) ?_) | (refine ACall.to (p0 _) ?_) | (refine ACall.to (p1 _) ?_))) <;> (try (conv => whnf))
   refine ⟨i + 1, hit, show N - (i + 1) < N - i by omega, ⟨congrArg (AV.int .i64) (by omega), rfl, trivial⟩, HLe.of_eq ?_⟩
   rw [hR2, hsn, AH.zS]
  ·rw [if_pos h0] at hsn
   (repeat' ((conv => whnf); first | refine Then.mk ?_ | left | refine zg ?_ (pk _) | refine zg ?_ (p0 _) | refine zg ?_ (p1 _) | refine zgg ?_ (pk _) | refine zgg ?_ (p0 _) | refine zgg ?_ (p1 _) | refine zd ?_ | (refine Both.mk ?_ ?_ <;> intro hc <;> try exact wX hc) | (intro c hc; (try (simp only [AH.zA] at hc; repeat (have hn := hc.1; replace hc := hc.2)))) | (refine ACall.to (pk _) ?_) | (refine ACall.to (p0 _) ?_) | (refine ACall.to (p1 _) ?_))) <;> (try (conv => whnf))
   refine ⟨i + 1, hit, show N - (i + 1) < N - i by omega, ⟨congrArg (AV.int .i64) (by omega), rfl, trivial⟩, HLe.of_eq ?_⟩
   rw [hR2, hsn, AH.zS]
  ·rw [if_neg h0.2, if_neg h0.1] at hsn
   (repeat' ((conv => whnf); first | refine Then.mk ?_ | left | refine zg ?_ (pk _) | refine zg ?_ (p0 _) | refine zg ?_ (p1 _) | refine zgg ?_ (pk _) | refine zgg ?_ (p0 _) | refine zgg ?_ (p1 _) | refine zd ?_ | (refine Both.mk ?_ ?_ <;> intro hc <;> try exact wX hc) | (intro c hc; (try (simp only [AH.zA] at hc; repeat (have hn := hc.1; replace hc := hc.2)))) | (refine ACall.to (pk _) ?_) | (refine ACall.to (p0 _) ?_) | (refine ACall.to (p1 _) ?_))) <;> (try (conv => whnf))
   refine ⟨i + 1, hit, show N - (i + 1) < N - i by omega, ⟨congrArg (AV.int .i64) (by omega), rfl, trivial⟩, HLe.of_eq ?_⟩
   rw [hR2, hsn, AH.zS]
 ·have hie : i = N := by omega
  subst hie
  (repeat' ((conv => whnf); first | refine Then.mk ?_ | left | refine zd ?_ | (refine Both.mk ?_ ?_ <;> intro hc <;> try exact wX hc) | (intro c hc; (try (simp only [AH.zA] at hc; repeat (have hn := hc.1; replace hc := hc.2)))))) <;> (try (conv => whnf))
open Go.Fw Go
def tlA (l : List Int) (i : Nat) : Int := max (lblN l 16 i) (-1)
def tlQ (l : List Int) (i k : Nat) : Int := if 0 ≤ lblN l 16 i then (((pickV l ((i % 7 : Nat) : Int) 9000 + i * pickV l 2 300 + 31 * k) % 65536 : Nat) : Int) else 0
def tlB (l : List Int) (n m : Nat) : Int := tlQ l (m / n) (m % n)
theorem tlB_at (l : List Int) {n k : Nat} (i : Nat) (hk : k < n) : tlB l n (i * n + k) = tlQ l i k := by
 unfold tlB
 rw [Nat.mul_comm i n, Nat.mul_add_div (by omega), Nat.div_eq_of_lt hk, Nat.mul_add_mod, Nat.mod_eq_of_lt hk, Nat.add_zero]
set_option maxRecDepth 8000 in
set_option maxHeartbeats 8000000 in
theorem tile_c (l : List Int) (hl : ∀ n ∈ l, -9223372036854775808 ≤ n ∧ n ≤ 9223372036854775807) (hll : l.length ≤ maxLen) (b : Int) (hb : J64 b) (H : AH) :
  ACall Tryz.prog 6 [.cs (iS .i64 l) l.length, .int .i64 b] H (fun z H' => z = tV ((1 + aro b 3 : Nat) : Int) (fnL 256 (tlA l)) (fnL (256 * (1 + aro b 3)) (tlB l (1 + aro b 3))) ∧ H' = H) := by
 have hll2 : l.length ≤ 9223372036854775807 := by unfold maxLen at hll; omega
 have hp := fun (i : Nat) (hi : i ≤ 1000) m hm1 hm2 H => pick_f l hl hll2 (i : Int) (by omega) m hm1 hm2 H
 have ha := fun H => around_f b hb.1 hb.2 3 (by decide) (by decide) H
 have hn := aro_lt (n := b) (m := 3) (by decide)
 generalize aro b 3 = n0 at *
 obtain ⟨n, hnd⟩ : ∃ n, n = 1 + n0 := ⟨_, rfl⟩
 have lenL : (lblV l 16 16).length = 256 := lblV_len l 16 16
 have hlb : ∀ H, ACall Tryz.prog 31 [.cs (iS .i64 l) l.length, .int .i64 16, .int .i64 16] H (fun y H' => y = .cs (iS .i64 (lblV l 16 16)) 256 ∧ H' = H) := fun H => labels_c l hl hll 16 16 (by decide) (by decide) H
 have hlg : ∀ i, i < 256 → (lblV l 16 16).getD i 0 = lblN l 16 i := fun i hi => by
  unfold lblV; rw [List.getD_eq_getElem?_getD, fnL_get _ hi]; rfl
 have hn13 : 1 ≤ n ∧ n ≤ 3 := by omega
 have e1n : 1 + (n0 : Int) = n := by omega
 have ha : ∀ H, ACall Tryz.prog 24 [.int .i64 b, .int .i64 3] H (fun y H' => y = .int .i64 n0 ∧ H' = H) := ha
 rw [← hnd]
 refine ACall.back ?_
 refine zQ zU (dok _) Tryz.func6 rfl (by decide) rfl ?_
 (repeat' ((conv => whnf); first | left | refine zd ?_ | (refine Both.mk ?_ ?_ <;> intro hc <;> try exact wX hc) | (intro c hc; (try (simp only [AH.zA] at hc; repeat (have hn := hc.1; replace hc := hc.2)))))) <;> (try (conv => whnf))
 refine Then.mk ?_
 (obtain ⟨t4, hq_⟩ : ∃ t4, t4 = c := ⟨_, rfl⟩); subst hq_
 have ht4 : H t4 = none := by assumption
 (repeat' ((conv => whnf); first | left | refine zg ?_ (ha _) | refine zgg ?_ (ha _) | refine zd ?_ | (refine Both.mk ?_ ?_ <;> intro hc <;> try exact wX hc) | (intro c hc; (try (simp only [AH.zA] at hc; repeat (have hn := hc.1; replace hc := hc.2)))) | (refine ACall.to (ha _) ?_))) <;> (try (conv => whnf))
 (obtain ⟨p, hq_⟩ : ∃ p, p = c := ⟨_, rfl⟩); subst hq_
 refine Then.mk (AWq.in ?_)
 refine AWp_seg [.int .i64 n, .nils, .nils] (by rw [← e1n]) rfl ?_
 obtain ⟨Z, hZ⟩ : ∃ Z, Z = H.set t4 (.row [.int .i64 0, .nils, .nils] 0) := ⟨_, rfl⟩
 have hpZ : Z p = none := by rw [hZ]; (first | assumption | (simp only [AH.zA]; (repeat' (first | assumption | (refine And.intro ?_ ?_)))))
 show AWp _ _ _ _ _ _ _ _ _ (AH.set (H.set t4 (.row [.int .i64 0, .nils, .nils] 0)) p _)
 rw [← hZ]
 refine AWp_grow (n : Int) hpZ fun q1 q2 g => ?_
 refine AWp.of zU (dok _) rfl ?_
 (repeat' ((conv => whnf); first | refine Then.mk ?_ | left | refine zg ?_ (hlb _) | refine zgg ?_ (hlb _) | refine zd ?_ | (refine Both.mk ?_ ?_ <;> intro hc <;> try exact wX hc) | (intro c hc; (try (simp only [AH.zA] at hc; repeat (have hn := hc.1; replace hc := hc.2)))) | (refine ACall.to (hlb _) ?_))) <;> (try (conv => whnf))
 have n1 := g.pa
 have n2 := g.pb
 have n3 := g.ab
 obtain ⟨fA, hA⟩ : ∃ fA : Nat → List Int, ∀ i, fA i = fnL i (tlA l) := ⟨_, fun _ => rfl⟩
 obtain ⟨fB, hB⟩ : ∃ fB : Nat → List Int, ∀ i, fB i = fnL i (tlB l n) := ⟨_, fun _ => rfl⟩
 have lA : ∀ i, (fA i).length = i := fun i => by rw [hA]; exact fnL_len _ _
 have lB : ∀ i, (fB i).length = i := fun i => by rw [hB]; exact fnL_len _ _
 have sA : ∀ i, fA (i + 1) = fA i ++ [tlA l i] := fun i => by rw [hA, hA, fnL_snoc]
 have sB : ∀ i, fB (i + 1) = fB i ++ [tlB l n i] := fun i => by rw [hB, hB, fnL_snoc]
 refine zT (σ := Nat) (7 :: 8 :: 9 :: 16 :: 17 :: 18 :: 19 :: 20 :: 21 :: 22 :: 23 :: 24 :: 25 :: 26 :: 27 :: 28 :: 29 :: 30 :: 31 :: 32 :: 33 :: 34 :: 35 :: 36 :: 37 :: 38 :: 39 :: 40 :: 41 :: 42 :: 43 :: 44 :: 45 :: 46 :: 47 :: 48 :: 49 :: 50 :: 51 :: 52 :: 53 :: 54 :: 55 :: 56 :: 57 :: 58 :: 59 :: []) (fun i => [(7, .int .i64 i)]) (fun i => grH Z p q1 q2 n (fA i) (fB (i * n))) (fun i => i ≤ 256) (fun i => 256 - i) 0 rfl (Nat.zero_le _) ⟨rfl, trivial⟩ (by rw [hA, Nat.zero_mul, hB]; exact HLe.refl _) ?_
 intro i hi
 refine AWp.of zU (dok _) rfl ?_
 dsimp only at hi ⊢
 have gp := g.atp n (fA i) (fB (i * n))
 have ga := g.ata n (fA i) (fB (i * n))
 have gb := g.atb n (fA i) (fB (i * n))
 by_cases hit : i < 256
 ·have st := g.stepA n (fA i) (fB (i * n)) (tlA l i)
  rw [← sA] at st
  simp only [lA, lB] at gp ga gb st
  have hq : i * n + n ≤ 256 * n := by
   have := Nat.mul_le_mul_right n (show i + 1 ≤ 256 by omega)
   rwa [Nat.add_mul, Nat.one_mul] at this
  have l1 : (iS .i64 (fA i)).length = i := by rw [iS_length, lA]
  have gx : (iS .i64 (lblV l 16 16))[(i : Int).toNat]? = some (.int .i64 (lblN l 16 i)) := by rw [← hlg i hit]; exact iS_get (by omega)
  have hxb := lblN_bd l 16 i
  have hsn := fun (k : Nat) (hk : k < n) => tlB_at l i hk
  unfold tlQ at hsn
  unfold tlA at st
  generalize hx : lblN l 16 i = x at *
  generalize hR1 : iS .i64 (fA i) = R1 at *
  generalize grH Z p q1 q2 n (fA i) (fB (i * n)) = G at *
  have hLL : (iS .i64 (lblV l 16 16)).length = 256 := by rw [iS_length]; exact lenL
  generalize iS .i64 (lblV l 16 16) = RL at *
  (repeat' ((conv => whnf); first | refine Then.mk ?_ | left | refine zd ?_ | (refine Both.mk ?_ ?_ <;> intro hc <;> try exact wX hc) | (intro c hc; (try (simp only [AH.zA] at hc; repeat (have hn := hc.1; replace hc := hc.2)))))) <;> (try (conv => whnf))
  refine zT (σ := Nat) (8 :: 9 :: 30 :: 31 :: 32 :: 33 :: 34 :: 35 :: 36 :: 37 :: 38 :: 39 :: 40 :: 41 :: 42 :: 43 :: 44 :: 45 :: 46 :: 47 :: 48 :: 49 :: 50 :: 51 :: 52 :: 53 :: 54 :: 55 :: 56 :: 57 :: 58 :: 59 :: []) (fun k => [(8, .int .i64 k)]) (fun k => grH Z p q1 q2 n (fA (i + 1)) (fB (i * n + k))) (fun k => k ≤ n) (fun k => n - k) 0 rfl (Nat.zero_le _) ⟨rfl, trivial⟩ st ?_
  intro k hk
  refine AWp.of zU (dok _) rfl ?_
  dsimp only at hk ⊢
  clear gp ga gb st
  have gp := g.atp n (fA (i + 1)) (fB (i * n + k))
  have ga := g.ata n (fA (i + 1)) (fB (i * n + k))
  have gb := g.atb n (fA (i + 1)) (fB (i * n + k))
  have st := g.stepB n (fA (i + 1)) (fB (i * n + k)) (tlB l n (i * n + k))
  rw [← sB] at st
  simp only [lA, lB] at gp ga gb st
  have l2 : (iS .i64 (fB (i * n + k))).length = i * n + k := by rw [iS_length, lB]
  by_cases hkt : k < n
  ·rw [hsn k hkt] at st
   have p1 : ∀ H, ACall Tryz.prog 32 [.cs (iS .i64 l) l.length, .int .i64 ((i % 7 : Nat) : Int), .int .i64 9000] H (fun y H' => y = .int .i64 (pickV l ((i % 7 : Nat) : Int) 9000) ∧ H' = H) := fun H => hp (i % 7) (by omega) 9000 (by decide) (by decide) H
   have p2 : ∀ H, ACall Tryz.prog 32 [.cs (iS .i64 l) l.length, .int .i64 2, .int .i64 300] H (fun y H' => y = .int .i64 (pickV l 2 300) ∧ H' = H) := fun H => hp 2 (by decide) 300 (by decide) (by decide) H
   have b1 := pickV_lt (l := l) (i := ((i % 7 : Nat) : Int)) (m := 9000) (by decide)
   have b2 := pickV_lt (l := l) (i := 2) (m := 300) (by decide)
   generalize pickV l ((i % 7 : Nat) : Int) 9000 = A1 at *
   generalize pickV l 2 300 = A2 at *
   have e7 : ((i : Int).tmod 7) = ((i % 7 : Nat) : Int) := by rw [Int.tmod_eq_emod_of_nonneg (by omega)]; omega
   have hU : i * A2 ≤ 256 * 300 := Nat.mul_le_mul (by omega) (by omega)
   have em : IntKind.i64.wrap ((i : Int) * (A2 : Int)) = ((i * A2 : Nat) : Int) := by rw [← Int.natCast_mul, IntKind.wrap_i64]; omega
   generalize i * A2 = U at *
   have e6 : ((A1 : Int) + (U : Int) + 31 * (k : Int)).tmod 65536 = (((A1 + U + 31 * k) % 65536 : Nat) : Int) := by rw [Int.tmod_eq_emod_of_nonneg (by omega)]; omega
   generalize (A1 + U + 31 * k) % 65536 = V at *
   generalize i % 7 = i7 at *
   generalize iS .i64 (fB (i * n + k)) = R2 at *
   generalize grH Z p q1 q2 n (fA (i + 1)) (fB (i * n + k)) = G at *
   generalize hQ : i * n = Q at *
   by_cases hx0 : 0 ≤ x
   ·rw [if_pos hx0] at st
    (repeat' ((conv => whnf); first | refine Then.mk ?_ | left | refine zg ?_ (p1 _) | refine zg ?_ (p2 _) | refine zgg ?_ (p1 _) | refine zgg ?_ (p2 _) | refine zd ?_ | (refine Both.mk ?_ ?_ <;> intro hc <;> try exact wX hc) | (intro c hc; (try (simp only [AH.zA] at hc; repeat (have hn := hc.1; replace hc := hc.2)))) | (refine ACall.to (p1 _) ?_) | (refine ACall.to (p2 _) ?_))) <;> (try (conv => whnf))
    exact ⟨k + 1, hkt, show n - (k + 1) < n - k by omega, ⟨congrArg (AV.int .i64) (by omega), trivial⟩, st⟩
   ·rw [if_neg hx0] at st
    (repeat' ((conv => whnf); first | refine Then.mk ?_ | left | refine zd ?_ | (refine Both.mk ?_ ?_ <;> intro hc <;> try exact wX hc) | (intro c hc; (try (simp only [AH.zA] at hc; repeat (have hn := hc.1; replace hc := hc.2)))))) <;> (try (conv => whnf))
    exact ⟨k + 1, hkt, show n - (k + 1) < n - k by omega, ⟨congrArg (AV.int .i64) (by omega), trivial⟩, st⟩
  ·have hke : k = n := by omega
   subst hke
   have e2 : i * k + k = (i + 1) * k := by rw [Nat.add_mul, Nat.one_mul]
   rw [e2]
   clear gp ga gb st
   have gp := g.atp k (fA (i + 1)) (fB ((i + 1) * k))
   simp only [lA, lB] at gp
   generalize hG : grH Z p q1 q2 k (fA (i + 1)) (fB ((i + 1) * k)) = G at *
   (repeat' ((conv => whnf); first | refine Then.mk ?_ | left | refine zd ?_ | (refine Both.mk ?_ ?_ <;> intro hc <;> try exact wX hc) | (intro c hc; (try (simp only [AH.zA] at hc; repeat (have hn := hc.1; replace hc := hc.2)))))) <;> (try (conv => whnf))
   exact ⟨i + 1, hit, show 256 - (i + 1) < 256 - i by omega, ⟨congrArg (AV.int .i64) (by omega), trivial⟩, by rw [hG]; exact HLe.refl _⟩
 ·have hie : i = 256 := by omega
  subst hie
  iterate 2 ((repeat' ((conv => whnf); first | left | refine zd ?_ | (refine Both.mk ?_ ?_ <;> intro hc <;> try exact wX hc) | (intro c hc; (try (simp only [AH.zA] at hc; repeat (have hn := hc.1; replace hc := hc.2)))))) <;> (try (conv => whnf)); refine Then.mk ?_)
  refine AWq.in ?_
  refine AWp_grown g n (fA 256) (fB (256 * n)) ?_
  refine AWp.of zU (dok _) rfl ?_
  rw [lA, lB, hA, hB]
  unfold tV
  rw [fnL_len, fnL_len]
  clear gp ga gb
  have gp := AH.zC Z p (.row [.int .i64 n, .cs (iS .i64 (fnL 256 (tlA l))) 256, .cs (iS .i64 (fnL (256 * n) (tlB l n))) (256 * n)] 0)
  have gt : Z t4 = some (.row [.int .i64 0, .nils, .nils] 0) := by rw [hZ]; exact AH.zC _ _ _
  generalize iS .i64 (fnL 256 (tlA l)) = R1 at *
  generalize iS .i64 (fnL (256 * n) (tlB l n)) = R2 at *
  (repeat' ((conv => whnf); first | refine Then.mk ?_ | left | refine zd ?_ | (refine Both.mk ?_ ?_ <;> intro hc <;> try exact wX hc) | (intro c hc; (try (simp only [AH.zA] at hc; repeat (have hn := hc.1; replace hc := hc.2)))))) <;> (try (conv => whnf))
  all_goals (rw [hZ]; (first | ((repeat' (first | (with_reducible exact HLe.refl _) | (with_reducible assumption) | apply HLe.push | refine HLe.set_of _ _ ?_ ?_ | refine HLe.del _ ?_ ?_ | rw [AH.zR _ _ (by (first | assumption | omega | exact Ne.symm (by assumption) | exact AH.ne_none (by assumption) (by assumption) | exact AH.none_ne (by assumption) (by assumption) | exact (AH.none_set (by assumption)).1 | exact Ne.symm (AH.none_set (by assumption)).1))])); done) | ((repeat' (first | refine HLe.set_of _ _ ?_ ?_ | refine HLe.del _ ?_ ?_)) <;> (first | assumption | exact HLe.refl _ | exact HLe.none (by assumption) (by assumption) | (simp_all; done)))))
open Go.Fw Go
structure Tl where
 b : Int
 L : List Int
 P : List Int
def Tl.v (t : Tl) : AV := tV t.b t.L t.P
def Tl.cells (t : Tl) : List AV := [.int .i64 t.b, .cs (iS .i64 t.L) t.L.length, .cs (iS .i64 t.P) t.P.length]
def Tl.zero : Tl := ⟨0, [], []⟩
theorem zero_le : AVles [.int .i64 0, .nils, .nils] Tl.zero.cells := AVles.cons (AVle.refl _) (AVles.cons AVle.nils (AVles.cons AVle.nils AVles.nil))
open Go.Fw Go
def emL : List Int := fnL 256 fun _ => -1
def emP (n : Nat) : List Int := fnL (256 * n) fun _ => 0
theorem emL_len : emL.length = 256 := fnL_len _ _
theorem emP_len (n : Nat) : (emP n).length = 256 * n := fnL_len _ _
def emV (b : Int) : AV × Int := if 1 ≤ b ∧ b ≤ 4 then (tV b emL (emP b.toNat), 0) else (tV 0 [] [], 1)
open Go.Fw Go
theorem wrap_u64b (x : Int) : IntKind.u64.wrap x = x % 18446744073709551616 := rfl
set_option maxRecDepth 8000 in
theorem bMul64_c (n : Nat) (h : n ≤ 4294967295) (H : AH) : ACall Tryz.prog 132 [.int .u64 1, .int .u64 n] H (fun y H' => y = .tup [.int .u64 0, .int .u64 n] ∧ H' = H) := by
 have e0 : (2 : Int) ^ min (Int.toNat 32) IntKind.u64.bits = 4294967296 := by decide
 have e1 : (n : Int).fdiv 4294967296 = 0 := by rw [Int.fdiv_eq_ediv_of_nonneg _ (by omega)]; omega
 have e2 : bitsA .and .u64 (n : Int) 4294967295 = n := by
  show IntKind.u64.wrap ((BitVec.ofInt 64 (n : Int) &&& BitVec.ofInt 64 4294967295).toNat : Int) = _
  have ha : (BitVec.ofInt 64 (n : Int)).toNat = n := by rw [BitVec.toNat_ofInt]; omega
  have hb : (BitVec.ofInt 64 4294967295).toNat = 2 ^ 32 - 1 := by decide
  rw [BitVec.toNat_and, ha, hb, Nat.and_two_pow_sub_one_eq_mod, wrap_u64b]
  omega
 have e3 : bitsA .and .u64 1 4294967295 = 1 := by decide
 have e4 : Int.fdiv 1 4294967296 = 0 := by decide
 have e5 : IntKind.u64.wrap (n : Int) = n := by rw [wrap_u64b]; omega
 have e6 : bitsA .and .u64 0 4294967295 = 0 := by decide
 have e7 : IntKind.u64.wrap 0 = 0 := by decide
 have e8 : Int.fdiv 0 4294967296 = 0 := by decide
 refine zQ zU (dok _) Tryz.func132 rfl (by decide) rfl ?_
 (repeat' ((conv => whnf); first | refine Then.mk ?_ | left | refine zd ?_ | (refine Both.mk ?_ ?_ <;> intro hc <;> try exact wX hc) | (intro c hc; (try (simp only [AH.zA] at hc; repeat (have hn := hc.1; replace hc := hc.2)))))) <;> (try (conv => whnf))
 refine ⟨?_, rfl⟩
 simp only [e0, e1, e2, e3, e4, e5, e6, e7, e8, Int.zero_mul, Int.one_mul, Int.mul_zero, Int.add_zero]
set_option maxRecDepth 8000 in
theorem bMul_c (n : Nat) (h : n ≤ 4294967295) (H : AH) : ACall Tryz.prog 111 [.int .u64 1, .int .u64 n] H (fun y H' => y = .tup [.int .u64 0, .int .u64 n] ∧ H' = H) := by
 have hm := fun H => bMul64_c n h H
 refine zQ zU (dok _) Tryz.func111 rfl (by decide) rfl ?_
 (repeat' ((conv => whnf); first | refine Then.mk ?_ | left | refine zg ?_ (hm _) | refine zgg ?_ (hm _) | refine zd ?_ | (refine Both.mk ?_ ?_ <;> intro hc <;> try exact wX hc) | (intro c hc; (try (simp only [AH.zA] at hc; repeat (have hn := hc.1; replace hc := hc.2)))) | (refine ACall.to (hm _) ?_))) <;> (try (conv => whnf))
theorem dLc {n : Nat} {f g : Nat → Int} (h : ∀ i, i < n → f i = g i) : dL n f = dL n g := congrArg (iS .i64) (fnL_congr h)
theorem dL_takeN {n m : Nat} (X : Nat → Int) (h : m ≤ n) : (dL n X).take m = dL m X := by
 apply List.ext_getElem?
 intro i
 rw [List.getElem?_take]
 by_cases hi : i < m
 ·rw [if_pos hi, dL_get X (by omega), dL_get X hi]
 ·rw [if_neg hi, List.getElem?_eq_none (by rw [dL_len]; omega)]
theorem dL_drop {n m : Nat} (X : Nat → Int) : (dL n X).drop m = dL (n - m) (fun k => X (m + k)) := by
 apply List.ext_getElem?
 intro i
 rw [List.getElem?_drop]
 by_cases hi : m + i < n
 ·rw [dL_get X hi, dL_get _ (by omega)]
 ·rw [List.getElem?_eq_none (by rw [dL_len]; omega), List.getElem?_eq_none (by rw [dL_len]; omega)]
theorem dL_app {n m : Nat} (X Y : Nat → Int) : dL n X ++ dL m Y = dL (n + m) (fun k => if k < n then X k else Y (k - n)) := by
 apply List.ext_getElem?
 intro i
 by_cases hi : i < n
 ·rw [List.getElem?_append_left (by rw [dL_len]; exact hi), dL_get _ hi, dL_get _ (by omega), if_pos hi]
 ·rw [List.getElem?_append_right (by rw [dL_len]; omega), dL_len]
  by_cases h2 : i < n + m
  ·rw [dL_get _ (by omega), dL_get _ h2, if_neg hi]
  ·rw [List.getElem?_eq_none (by rw [dL_len]; omega), List.getElem?_eq_none (by rw [dL_len]; omega)]
theorem dL_wrs {n m c : Nat} (X Y : Nat → Int) (h : c + m ≤ n) : wrA (dL n X) c (dL m Y) = dL n (fun k => if c ≤ k ∧ k < c + m then Y (k - c) else X k) := by
 unfold wrA
 rw [dL_takeN X (by omega), dL_len, dL_drop, dL_app, dL_app, show c + m + (n - (c + m)) = n by omega]
 refine dLc fun k hk => ?_
 by_cases h1 : k < c
 ·rw [if_pos (by omega), if_pos h1, if_neg (by omega)]
 ·by_cases h2 : k < c + m
  ·rw [if_pos h2, if_neg h1, if_pos (by omega)]
  ·rw [if_neg h2, if_neg (by omega)]
   congr 1; omega
set_option maxRecDepth 8000 in
theorem bRepeat_c (z : Int) (n : Nat) (h1 : 1 ≤ n) (h2 : n ≤ 1000000) (H : AH) :
  ACall Tryz.prog 80 [.cs [.int .i64 z] 1, .int .i64 n] H (fun y H' => ∃ q, H q = none ∧ y = .sl q 0 1 0 n none ∧ H' = H.set q (.row (dL n fun _ => z) 0)) := by
 have hm := fun H => bMul_c n (by omega) H
 refine zQ zU (dok _) Tryz.func80 rfl (by decide) rfl ?_
 (repeat' ((conv => whnf); first | refine Then.mk ?_ | left | refine zg ?_ (hm _) | refine zgg ?_ (hm _) | refine zd ?_ | (refine Both.mk ?_ ?_ <;> intro hc <;> try exact wX hc) | (intro c hc; (try (simp only [AH.zA] at hc; repeat (have hn := hc.1; replace hc := hc.2)))) | (refine ACall.to (hm _) ?_))) <;> (try (conv => whnf))
 refine zT (σ := Nat) (8 :: 34 :: 35 :: 36 :: 37 :: 38 :: 39 :: 40 :: 41 :: 42 :: 43 :: 44 :: 45 :: 46 :: []) (fun m => [(8, .int .i64 m)]) (fun m => AH.set H c (.row (dL n fun k => if k < m then z else 0) 0)) (fun m => 1 ≤ m ∧ m ≤ n) (fun m => n - m) 1 rfl ?_ ?_ ?_ ?_
 ·exact ⟨Nat.le_refl _, h1⟩
 ·refine ⟨?_, trivial⟩
  have : Nat.min 1 n = 1 := Nat.min_eq_left h1
  show AV.int .i64 (Nat.min 1 n : Nat) = _
  rw [this]
 ·refine HLe.of_eq (Eq.symm ((AH.zS _ _ _ _).trans (congrArg (fun l => AH.set H c (.row l 0)) ?_)))
  show wrA ((List.replicate n [AV.int .i64 0]).flatten) 0 (List.take (Nat.min 1 n * 1) (dL 1 fun _ => z)) = _
  rw [show Nat.min 1 n = 1 from Nat.min_eq_left h1, dL_zero, dL_takeN _ (by omega), dL_wrs _ _ (by omega)]
  refine dLc fun k hk => ?_
  by_cases h : k < 1 <;> simp [h]
 ·rintro m ⟨hm1, hm2⟩
  refine AWp.of zU (dok _) rfl ?_
  have li := dL_len n (fun k => if k < m then z else 0)
  by_cases hmn : m < n
  ·(repeat' ((conv => whnf); first | refine AWq.drawM ([45], []) (by decide +kernel) ?_ | refine Then.mk ?_ | left | refine zg ?_ (hm _) | refine zgg ?_ (hm _) | refine zd ?_ | (refine Both.mk ?_ ?_ <;> intro hc <;> try exact wX hc) | (intro c hc; (try (simp only [AH.zA] at hc; repeat (have hn := hc.1; replace hc := hc.2)))) | (refine ACall.to (hm _) ?_))) <;> (try (conv => whnf))
   refine ⟨.int .i64 (min m (n - m) : Nat), AH.set H c (.row (dL n fun k => if k < m + min m (n - m) then z else 0) 0), ?_, ?_⟩
   ·(repeat' ((conv => whnf); first | refine Then.mk ?_ | left | refine zd ?_ | (refine Both.mk ?_ ?_ <;> intro hc <;> try exact wX hc) | (intro c hc; (try (simp only [AH.zA] at hc; repeat (have hn := hc.1; replace hc := hc.2)))))) <;> (try (conv => whnf))
    refine (AH.zS _ _ _ _).trans (congrArg (fun l => AH.set H c (.row l 0)) ?_)
    have e1 : Nat.min m (n - m) = min m (n - m) := rfl
    rw [Int.toNat_natCast, Int.toNat_natCast, e1, List.drop_zero, Nat.mul_one, Nat.mul_one, dL_takeN _ hm2, dL_takeN _ (by omega), Nat.zero_add, dL_wrs _ _ (by omega)]
    refine dLc fun k hk => ?_
    split <;> split <;> first | rfl | omega | (split <;> first | rfl | omega)
   ·(repeat' ((conv => whnf); first | refine Then.mk ?_ | left | refine zd ?_ | (refine Both.mk ?_ ?_ <;> intro hc <;> try exact wX hc) | (intro c hc; (try (simp only [AH.zA] at hc; repeat (have hn := hc.1; replace hc := hc.2)))))) <;> (try (conv => whnf))
    exact ⟨m + min m (n - m), by omega, by omega, ⟨congrArg (AV.int .i64) (by omega), trivial⟩, HLe.refl _⟩
  ·have hme : m = n := by omega
   (repeat' ((conv => whnf); first | refine Then.mk ?_ | left | refine zd ?_ | (refine Both.mk ?_ ?_ <;> intro hc <;> try exact wX hc) | (intro c hc; (try (simp only [AH.zA] at hc; repeat (have hn := hc.1; replace hc := hc.2)))))) <;> (try (conv => whnf))
   exact congrArg (fun l => AH.set H c (.row l 0)) (dLc fun k hk => by rw [if_pos (by omega)])
theorem repeat_k (z : Int) (n : Nat) (h1 : 1 ≤ n) (h2 : n ≤ 1000000) (H : AH) :
  ACall Tryz.prog 80 [.cs [.int .i64 z] 1, .int .i64 n] H (fun y H' => y = .cs (iS .i64 (fnL n fun _ => z)) n ∧ H' = H) := by
 refine ACall.cold (es := 1) (by simp) ((bRepeat_c z n h1 h2 H).mono ?_)
 rintro y H' ⟨q, hq, rfl, rfl⟩
 exact ⟨q, hq, 0, rfl, rfl⟩
open Go.Fw Go
theorem zeros_fn (n : Nat) : (List.replicate n [AV.int .i64 0]).flatten = iS .i64 (fnL n fun _ => 0) := dL_zero n
set_option maxRecDepth 8000 in
set_option maxHeartbeats 8000000 in
theorem empty_c (b : Int) (hb : J64 b) (H : AH) : ACall Tryz.prog 56 [.int .i64 b] H (fun z H' => z = .tup [(emV b).1, .int .i64 (emV b).2] ∧ H' = H) := by
 unfold emV
 have b0 := fun H => btw_c b 1 4 H
 unfold J64 at hb
 by_cases h1 : 1 ≤ b ∧ b ≤ 4
 ·rw [if_pos h1]
  rw [decide_eq_true h1] at b0
  obtain ⟨n, rfl⟩ : ∃ n : Nat, b = n := ⟨b.toNat, by omega⟩
  rw [Int.toNat_natCast]
  have rp := fun H => repeat_k (-1) 256 (by decide) (by decide) H
  have rp : ∀ H, ACall Tryz.prog 80 [.cs [.int .i64 (-1)] 1, .int .i64 256] H (fun y H' => y = .cs (iS .i64 emL) 256 ∧ H' = H) := rp
  have ez : (List.replicate (256 * n) [AV.int .i64 0]).flatten = iS .i64 (emP n) := zeros_fn _
  have lP : (iS .i64 (emP n)).length = 256 * n := by rw [iS_length]; exact emP_len n
  have lL : (iS .i64 emL).length = 256 := by rw [iS_length]; exact emL_len
  unfold tV
  rw [emL_len, emP_len]
  refine ACall.back ?_
  refine zQ zU (dok _) Tryz.func56 rfl (by decide) rfl ?_
  (repeat' ((conv => whnf); first | refine Then.mk ?_ | left | refine zg ?_ (b0 _) | refine zg ?_ (rp _) | refine zgg ?_ (b0 _) | refine zgg ?_ (rp _) | refine zs ?_ | (refine Both.mk ?_ ?_ <;> intro hc <;> try exact wX hc) | (intro c hc; (try (simp only [AH.zA] at hc; repeat (have hn := hc.1; replace hc := hc.2)))) | (refine ACall.to (b0 _) ?_) | (refine ACall.to (rp _) ?_))) <;> (try (conv => whnf))
  (obtain ⟨t2, hq_⟩ : ∃ t2, t2 = c := ⟨_, rfl⟩); subst hq_
  have gt := AH.zC H t2 (.row [.int .i64 0, .nils, .nils] 0)
  refine AWq.drawK mo [(2, 0)] (fun _ => t2) (fun a b ha hb _ => by simp at ha hb; rw [ha, hb]) (by decide +kernel) ?_
  (repeat' ((conv => whnf); first | refine DrawK.consD ?_ | refine DrawK.nil ?_ | (apply And.intro; (focus (repeat (first | exact trivial | (refine And.intro (a := _ ≠ _) (b := offR _ _ _) ?_ ?_; (first | assumption | omega | exact Ne.symm (by assumption) | exact AH.ne_none (by assumption) (by assumption) | exact AH.none_ne (by assumption) (by assumption) | exact (AH.none_set (by assumption)).1 | exact Ne.symm (AH.none_set (by assumption)).1)))); done)) | (apply And.intro; exact rp _) | refine Then.mk ?_ | left | refine zg ?_ (rp _) | refine zgg ?_ (rp _) | refine zd ?_ | (refine Both.mk ?_ ?_ <;> intro hc <;> try exact wX hc) | (intro c hc; (try (simp only [AH.zA] at hc; repeat (have hn := hc.1; replace hc := hc.2)))) | (refine ACall.to (rp _) ?_))) <;> (try (conv => whnf))
  have hc0 : H t2 = none := hc
  rw [show (256 * (n : Int)).toNat = 256 * n by omega, ez]
  refine ⟨rfl, ?_⟩
  show HLe H (AH.set (AH.set H t2 _) t2 _)
  rw [AH.zS]; exact HLe.fresh _ hc0
 ·rw [if_neg h1]
  rw [decide_eq_false h1] at b0
  refine ACall.told ?_
  refine zQ zU (dok _) Tryz.func56 rfl (by decide) rfl ?_
  (repeat' ((conv => whnf); first | refine Then.mk ?_ | left | refine zg ?_ (b0 _) | refine zgg ?_ (b0 _) | refine zd ?_ | (refine Both.mk ?_ ?_ <;> intro hc <;> try exact wX hc) | (intro c hc; (try (simp only [AH.zA] at hc; repeat (have hn := hc.1; replace hc := hc.2)))) | (refine ACall.to (b0 _) ?_))) <;> (try (conv => whnf))
  all_goals exact ⟨_, _, AVle.tup (AVles.cons (AVle.agg (AVles.cons (AVle.refl _) (AVles.cons AVle.nils (AVles.cons AVle.nils AVles.nil)))) (AVles.refl _)), (by (first | ((repeat' (first | (with_reducible exact HLe.refl _) | (with_reducible assumption) | apply HLe.push | refine HLe.set_of _ _ ?_ ?_ | refine HLe.del _ ?_ ?_ | rw [AH.zR _ _ (by (first | assumption | omega | exact Ne.symm (by assumption) | exact AH.ne_none (by assumption) (by assumption) | exact AH.none_ne (by assumption) (by assumption) | exact (AH.none_set (by assumption)).1 | exact Ne.symm (AH.none_set (by assumption)).1))])); done) | ((repeat' (first | refine HLe.set_of _ _ ?_ ?_ | refine HLe.del _ ?_ ?_)) <;> (first | assumption | exact HLe.refl _ | exact HLe.none (by assumption) (by assumption) | (simp_all; done)))) : HLe H _), rfl, rfl⟩
open Go.Fw Go
theorem row_lt {n a k : Nat} (ha : a < 256) (hk : k < n) : a * n + k < 256 * n := by
 have := Nat.mul_le_mul_right n (show a + 1 ≤ 256 by omega)
 rw [Nat.add_mul, Nat.one_mul] at this
 omega
structure Well (n : Nat) (L P : List Int) : Prop where
 l : L.length = 256
 p : P.length = 256 * n
 ok : lbOk n L P 256
open Go.Fw Go
def bandL (n : Nat) (P : List Int) (k : Nat) : List Int := fnL 256 fun i => P.getD (i * n + k) 0
theorem bandL_len (n : Nat) (P : List Int) (k : Nat) : (bandL n P k).length = 256 := fnL_len _ _
def partsT (Z : List Int) (n : Nat) (L P : List Int) (k : Nat) : List (List UInt8) := labP L :: fnL k fun j => bandP Z (bandL n P j)
def packT (Z : List Int) (n : Nat) (L P : List Int) : List UInt8 := joinP (partsT Z n L P n)
theorem partsT_len (Z : List Int) (n : Nat) (L P : List Int) (k : Nat) : (partsT Z n L P k).length = k + 1 := by unfold partsT; rw [List.length_cons, fnL_len]
theorem partsT_snoc (Z : List Int) (n : Nat) (L P : List Int) (k : Nat) : partsT Z n L P (k + 1) = partsT Z n L P k ++ [bandP Z (bandL n P k)] := by
 unfold partsT; rw [fnL_snoc]; rfl
theorem Well.lab {n : Nat} {L P : List Int} (w : Well n L P) : I64L L := fun x hx => by
 obtain ⟨i, hi, rfl⟩ := List.getElem_of_mem hx
 have := (w.ok i (by rw [← w.l]; exact hi)).1
 rw [List.getD_eq_getElem?_getD, List.getElem?_eq_getElem hi] at this
 have : -1 ≤ L[i] ∧ L[i] ≤ 4095 := this
 omega
theorem Well.band {n : Nat} {L P : List Int} (w : Well n L P) {k : Nat} (hk : k < n) : BOk (bandL n P k) := by
 refine ⟨bandL_len _ _ _, fun x hx => ?_⟩
 unfold bandL fnL at hx
 obtain ⟨i, hi, rfl⟩ := List.mem_map.1 hx
 rw [List.mem_range] at hi
 exact ((w.ok i hi).2 k hk).1
theorem bandP_len {Z : List Int} (hz : ZO Z) {a : List Int} (h : BOk a) : (bandP Z a).length ≤ 33284 := by
 have := (ints_len (sortL_ok hz h) (m := 256) (by rw [sortL_len hz]; omega) (by omega)).1
 unfold bandP
 omega
theorem parts_le {Z : List Int} (hz : ZO Z) {n : Nat} {L P : List Int} (w : Well n L P) {k : Nat} (hk : k ≤ n) : ∀ p ∈ partsT Z n L P k, p.length ≤ 90000 := fun p hp => by
 unfold partsT at hp
 rcases List.mem_cons.1 hp with rfl | hp
 ·have := labP_len w.lab (by rw [w.l]; omega); omega
 ·unfold fnL at hp
  obtain ⟨j, hj, rfl⟩ := List.mem_map.1 hp
  rw [List.mem_range] at hj
  have := bandP_len hz (w.band (show j < n by omega)); omega
set_option maxRecDepth 8000 in
set_option maxHeartbeats 4000000 in
theorem encode_ok {Z : List Int} (hz : ZO Z) (hzig : ∀ H, ACall Tryz.prog 13 [.int .i64 16] H (fun y H' => y = .tup [.cs (iS .i64 Z) 256, .int .i64 0] ∧ H' = H)) (n : Nat) (hn : 1 ≤ n ∧ n ≤ 4) (L P : List Int) (w : Well n L P) (H : AH) :
  ACall Tryz.prog 7 [.agg [.int .i64 n, .cs (iS .i64 L) 256, .cs (iS .i64 P) (256 * n)]] H (fun y H' => y = .tup [.cs (u8s (packT Z n L P)) (packT Z n L P).length, .int .i64 0] ∧ H' = H) := by
 have hL := w.l
 have hP := w.p
 have vc := fun H => valid_c (n : Int) L P (by unfold J64; omega) (by unfold tI; omega) (by unfold tI; omega) H
 have hv : tileE (n : Int) L P = 0 := by
  unfold tileE
  rw [if_neg (fun h => h (by unfold tForm; omega)), Int.toNat_natCast, if_pos w.ok]
 rw [hv] at vc
 unfold tV at vc
 have lc := fun H => labelPart_c L w.lab (by omega) H
 rw [hL] at vc lc
 rw [hP] at vc
 have bc := fun k (hk : k < n) H => bandPart_c hz hzig (bandL n P k) (w.band hk) H
 have hPl : (iS .i64 P).length = 256 * n := by rw [iS_length, hP]
 have jc := fun H => join_c (partsT Z n L P n) (by rw [partsT_len]; omega) (by rw [partsT_len]; omega) (parts_le hz w (Nat.le_refl _)) H
 rw [partsT_len] at jc
 unfold packT
 generalize joinP (partsT Z n L P n) = B at *
 refine ACall.back ?_
 refine zQ zU (dok _) Tryz.func7 rfl (by decide) rfl ?_
 (repeat' ((conv => whnf); first | left | refine zd ?_ | (refine Both.mk ?_ ?_ <;> intro hc <;> try exact wX hc) | (intro c hc; (try (simp only [AH.zA] at hc; repeat (have hn := hc.1; replace hc := hc.2)))))) <;> (try (conv => whnf))
 refine Then.mk (AWq.in ?_)
 refine AWp_freezeP 1 rfl rfl (AH.zC _ _ _) ?_
 rw [AH.del_set _ _ _ (by assumption)]
 refine AWp.of zU (dok _) rfl ?_
 iterate 3 ((repeat' ((conv => whnf); first | left | refine zg ?_ (vc _) | refine zgg ?_ (vc _) | refine zd ?_ | (refine Both.mk ?_ ?_ <;> intro hc <;> try exact wX hc) | (intro c hc; (try (simp only [AH.zA] at hc; repeat (have hn := hc.1; replace hc := hc.2)))) | (refine ACall.to (vc _) ?_))) <;> (try (conv => whnf)); refine Then.mk ?_)
 (repeat' ((conv => whnf); first | refine Or.inr (Or.inl ?_) | refine zg ?_ (lc _) | refine zgg ?_ (lc _) | refine zd ?_ | (refine Both.mk ?_ ?_ <;> intro hc <;> try exact wX hc) | (intro c hc; (try (simp only [AH.zA] at hc; repeat (have hn := hc.1; replace hc := hc.2)))) | (refine ACall.to (lc _) ?_))) <;> (try (conv => whnf))
 (obtain ⟨q5, hq_⟩ : ∃ q5, q5 = c := ⟨_, rfl⟩); subst hq_
 have hq5 : H q5 = none := hc
 refine Then.mk ?_
 (repeat' ((conv => whnf); first | refine Then.mk ?_ | left | refine zd ?_ | (refine Both.mk ?_ ?_ <;> intro hc <;> try exact wX hc) | (intro c hc; (try (simp only [AH.zA] at hc; repeat (have hn := hc.1; replace hc := hc.2)))))) <;> (try (conv => whnf))
 refine zT (σ := Nat) (5 :: 6 :: 7 :: 8 :: 20 :: 21 :: 22 :: 23 :: 24 :: 25 :: 26 :: 27 :: 28 :: 29 :: 30 :: 31 :: 32 :: 33 :: 34 :: 35 :: 36 :: 37 :: 38 :: 39 :: 40 :: 41 :: 42 :: 43 :: 44 :: 45 :: []) (fun k => [(20, .int .i64 k), (5, .sl q5 k 1 0 (k + 1) none)]) (fun k => H.set q5 (.row (pvL (partsT Z n L P k)) k)) (fun k => k ≤ n) (fun k => n - k) 0 rfl (Nat.zero_le _) ⟨rfl, rfl, trivial⟩ (HLe.refl _) ?_
 intro k hk
 refine AWp.of zU (dok _) rfl ?_
 dsimp only at hk ⊢
 have gq := AH.zC H q5 (.row (pvL (partsT Z n L P k)) k)
 have lq : (pvL (partsT Z n L P k)).length = k + 1 := by rw [pvL_len, partsT_len]
 by_cases hkt : k < n
 ·have hps := pvL_snoc (partsT Z n L P k) (bandP Z (bandL n P k))
  rw [← partsT_snoc] at hps
  have bc := bc k hkt
  have hbl := bandL_len n P k
  generalize hG : AH.set H q5 (.row (pvL (partsT Z n L P k)) k) = G at *
  generalize hRP : pvL (partsT Z n L P k) = RP at *
  (repeat' ((conv => whnf); first | left | refine zd ?_ | (refine Both.mk ?_ ?_ <;> intro hc <;> try exact wX hc) | (intro c hc; (try (simp only [AH.zA] at hc; repeat (have hn := hc.1; replace hc := hc.2)))))) <;> (try (conv => whnf))
  refine Then.mk ?_
  (repeat' ((conv => whnf); first | left | refine zd ?_ | (refine Both.mk ?_ ?_ <;> intro hc <;> try exact wX hc) | (intro c hc; (try (simp only [AH.zA] at hc; repeat (have hn := hc.1; replace hc := hc.2)))))) <;> (try (conv => whnf))
  refine Then.mk ?_
  (repeat' ((conv => whnf); first | left | refine zd ?_ | (refine Both.mk ?_ ?_ <;> intro hc <;> try exact wX hc) | (intro c hc; (try (simp only [AH.zA] at hc; repeat (have hn := hc.1; replace hc := hc.2)))))) <;> (try (conv => whnf))
  refine Then.mk ?_
  (repeat' ((conv => whnf); first | left | refine zd ?_ | (refine Both.mk ?_ ?_ <;> intro hc <;> try exact wX hc) | (intro c hc; (try (simp only [AH.zA] at hc; repeat (have hn := hc.1; replace hc := hc.2)))))) <;> (try (conv => whnf))
  refine Then.mk (AWq.in ?_)
  refine AWp_nilrow1 7 1 rfl rfl fun q7 hq7 => ?_
  refine AWp.of zU (dok _) rfl ?_
  have n75 : q7 ≠ q5 := fun h => by rw [h, gq] at hq7; cases hq7
  (repeat' ((conv => whnf); first | refine Then.mk ?_ | left | refine zd ?_ | (refine Both.mk ?_ ?_ <;> intro hc <;> try exact wX hc) | (intro c hc; (try (simp only [AH.zA] at hc; repeat (have hn := hc.1; replace hc := hc.2)))))) <;> (try (conv => whnf))
  refine zT (σ := Nat) (7 :: 8 :: 23 :: 24 :: 25 :: 26 :: 27 :: 28 :: 29 :: 30 :: 31 :: 32 :: 33 :: 34 :: 35 :: 36 :: 37 :: 38 :: 39 :: []) (fun i => [(23, .int .i64 i), (7, .sl q7 i 1 0 i none)]) (fun i => G.set q7 (.row (iS .i64 ((bandL n P k).take i)) i)) (fun i => i ≤ 256) (fun i => 256 - i) 0 rfl (Nat.zero_le _) ⟨rfl, rfl, trivial⟩ (HLe.refl _) ?_
  intro i hi
  refine AWp.of zU (dok _) rfl ?_
  dsimp only at hi ⊢
  have g7 := AH.zC G q7 (.row (iS .i64 ((bandL n P k).take i)) i)
  have l7 : (iS .i64 ((bandL n P k).take i)).length = i := by rw [iS_length, List.length_take]; omega
  by_cases hit : i < 256
  ·have hin := row_lt (n := n) hit hkt
   have gp : (iS .i64 P)[i * n + k]? = some (.int .i64 (P.getD (i * n + k) 0)) := iS_get (by omega)
   have hbi : (bandL n P k).getD i 0 = P.getD (i * n + k) 0 := getD_fnL _ hit
   rw [← hbi] at gp
   have w1 : IntKind.i64.wrap ((i : Int) * (n : Int)) = ((i * n : Nat) : Int) := by
    rw [← Int.natCast_mul, IntKind.wrap_i64]; omega
   have ht : iS .i64 ((bandL n P k).take (i + 1)) = iS .i64 ((bandL n P k).take i) ++ [.int .i64 ((bandL n P k).getD i 0)] := by
    rw [take_snoc (x := (bandL n P k).getD i 0) (by rw [List.getD_eq_getElem?_getD, List.getElem?_eq_getElem (by omega)]; rfl), ← iS_snoc]
   generalize (bandL n P k).getD i 0 = v at *
   generalize iS .i64 ((bandL n P k).take i) = R7 at *
   generalize i * n = Q at *
   have w2 : IntKind.i64.wrap ((Q : Int) + k) = (Q : Int) + k := by rw [IntKind.wrap_i64]; omega
   have gp : (iS .i64 P)[((Q : Int) + k).toNat]? = some (.int .i64 v) := by rw [show ((Q : Int) + k).toNat = Q + k by omega]; exact gp
   (repeat' ((conv => whnf); first | refine Then.mk ?_ | left | refine zd ?_ | (refine Both.mk ?_ ?_ <;> intro hc <;> try exact wX hc) | (intro c hc; (try (simp only [AH.zA] at hc; repeat (have hn := hc.1; replace hc := hc.2)))))) <;> (try (conv => whnf))
   exact ⟨i + 1, hit, by omega, ⟨congrArg (AV.int .i64) (by omega), rfl, trivial⟩, HLe.of_eq (by rw [ht, AH.zS])⟩
  ·have hie : i = 256 := by omega
   subst hie
   rw [show (bandL n P k).take 256 = bandL n P k from List.take_of_length_le (by omega)] at g7 l7 ⊢
   (repeat' ((conv => whnf); first | left | refine zd ?_ | (refine Both.mk ?_ ?_ <;> intro hc <;> try exact wX hc) | (intro c hc; (try (simp only [AH.zA] at hc; repeat (have hn := hc.1; replace hc := hc.2)))))) <;> (try (conv => whnf))
   refine Then.mk ?_
   (repeat' ((conv => whnf); first | left | refine zd ?_ | (refine Both.mk ?_ ?_ <;> intro hc <;> try exact wX hc) | (intro c hc; (try (simp only [AH.zA] at hc; repeat (have hn := hc.1; replace hc := hc.2)))))) <;> (try (conv => whnf))
   refine Then.mk (AWq.in ?_)
   refine AWp_freeze1 7 rfl rfl g7 (by omega) ?_
   rw [AH.del_set _ _ _ hq7]
   refine AWp.of zU (dok _) rfl ?_
   have hone : ∀ p : List UInt8, one (.cs (u8s p) p.length) = true := fun p => rfl
   (repeat' ((conv => whnf); first | refine Then.mk ?_ | left | refine zg ?_ (bc _) | refine zgg ?_ (bc _) | refine zd ?_ | (refine Both.mk ?_ ?_ <;> intro hc <;> try exact wX hc) | (intro c hc; (try (simp only [AH.zA] at hc; repeat (have hn := hc.1; replace hc := hc.2)))) | (refine ACall.to (bc _) ?_))) <;> (try (conv => whnf))
   exact ⟨k + 1, hkt, by omega, ⟨congrArg (AV.int .i64) (by omega), rfl, trivial⟩, HLe.of_eq (by rw [← hG, AH.zS, hps])⟩
 ·have hke : k = n := by omega
  subst hke
  (repeat' ((conv => whnf); first | left | refine zd ?_ | (refine Both.mk ?_ ?_ <;> intro hc <;> try exact wX hc) | (intro c hc; (try (simp only [AH.zA] at hc; repeat (have hn := hc.1; replace hc := hc.2)))))) <;> (try (conv => whnf))
  refine Then.mk ?_
  (repeat' ((conv => whnf); first | left | refine zd ?_ | (refine Both.mk ?_ ?_ <;> intro hc <;> try exact wX hc) | (intro c hc; (try (simp only [AH.zA] at hc; repeat (have hn := hc.1; replace hc := hc.2)))))) <;> (try (conv => whnf))
  refine Then.mk (AWq.in ?_)
  refine AWp_freeze1 5 rfl rfl gq (by omega) ?_
  rw [AH.del_set _ _ _ hq5]
  refine AWp.of zU (dok _) rfl ?_
  (repeat' ((conv => whnf); first | refine Then.mk ?_ | left | refine zg ?_ (jc _) | refine zgg ?_ (jc _) | refine zd ?_ | (refine Both.mk ?_ ?_ <;> intro hc <;> try exact wX hc) | (intro c hc; (try (simp only [AH.zA] at hc; repeat (have hn := hc.1; replace hc := hc.2)))) | (refine ACall.to (jc _) ?_))) <;> (try (conv => whnf))
  exact HLe.refl _
open Go.Fw Go
theorem joinP_len {ps : List (List UInt8)} (h2 : ps.length ≤ 9) (hp : ∀ p ∈ ps, p.length ≤ 90000) : (joinP ps).length ≤ 820000 := by
 have hn10 := encI_len (n := (ps.length : Int) - 1) (by unfold I64; omega)
 have h3 := encRs_len (m := 90000) hp (by decide)
 have h4 := Nat.le_trans h3 (Nat.mul_le_mul_right (90000 + 10) h2)
 unfold joinP
 rw [List.length_append]
 have : 9 * (90000 + 10) = 810090 := rfl
 omega
theorem encRs_drop {ps : List (List UInt8)} {i : Nat} {p : List UInt8} (h : ps[i]? = some p) : encRs (ps.drop i) = encR p ++ encRs (ps.drop (i + 1)) := by
 have hi : i < ps.length := by
  by_cases hi : i < ps.length
  ·exact hi
  ·rw [List.getElem?_eq_none (by omega)] at h; cases h
 rw [List.drop_eq_getElem_cons hi]
 rw [List.getElem?_eq_getElem hi] at h
 rw [Option.some.inj h]; rfl
set_option maxRecDepth 8000 in
set_option maxHeartbeats 4000000 in
theorem split_ok (ps : List (List UInt8)) (h1 : 2 ≤ ps.length) (h2 : ps.length ≤ 5) (hp : ∀ p ∈ ps, p.length ≤ 90000) (H : AH) :
  ACall Tryz.prog 38 [.cs (u8s (joinP ps)) (joinP ps).length] H (fun y H' => y = .tup [.cs (pvL ps) ps.length, .int .i64 0] ∧ H' = H) := by
 have jc := fun H => join_c ps (by omega) (by omega) hp H
 have hjl := joinP_len (by omega) hp
 have hbl : (u8s (joinP ps)).length = (joinP ps).length := by simp
 have hpl := pvL_len ps
 have rI := rdI_enc (n := (ps.length : Int) - 1) (by unfold I64; omega) (encRs ps)
 have hJ : joinP ps = encI ((ps.length : Int) - 1) ++ encRs ps := rfl
 have hlr : (encRs ps).length ≤ 820000 := by rw [hJ, List.length_append] at hjl; omega
 rw [← hJ] at rI
 refine ACall.back ?_
 refine zQ zU (dok _) Tryz.func38 rfl (by decide) rfl ?_
 (repeat' ((conv => whnf); first | left | refine zd ?_ | (refine Both.mk ?_ ?_ <;> intro hc <;> try exact wX hc) | (intro c hc; (try (simp only [AH.zA] at hc; repeat (have hn := hc.1; replace hc := hc.2)))))) <;> (try (conv => whnf))
 refine Then.mk ?_
 (repeat' ((conv => whnf); first | left | refine zd ?_ | (refine Both.mk ?_ ?_ <;> intro hc <;> try exact wX hc) | (intro c hc; (try (simp only [AH.zA] at hc; repeat (have hn := hc.1; replace hc := hc.2)))))) <;> (try (conv => whnf))
 refine (Read_c (joinP ps) (by omega) H).mono ?_
 rintro y H' ⟨p, hpn, rfl, rfl⟩
 have ri := rInt_ok p (by omega) rI H
 have hle : ∀ b, HLe H (RdH H p 0 b) := fun b => HLe.set_of _ _ (HLe.refl _) hpn
 generalize hG0 : RdH H p 0 (joinP ps) = G0 at *
 generalize hG1 : RdH H p 0 (encRs ps) = G1 at *
 iterate 4 ((repeat' ((conv => whnf); first | left | refine zg ?_ (ri) | refine zgg ?_ (ri) | refine zd ?_ | (refine Both.mk ?_ ?_ <;> intro hc <;> try exact wX hc) | (intro c hc; (try (simp only [AH.zA] at hc; repeat (have hn := hc.1; replace hc := hc.2)))) | (refine ACall.to (ri) ?_))) <;> (try (conv => whnf)); refine Then.mk ?_)
 (repeat' ((conv => whnf); first | left | refine zd ?_ | (refine Both.mk ?_ ?_ <;> intro hc <;> try exact wX hc) | (intro c hc; (try (simp only [AH.zA] at hc; repeat (have hn := hc.1; replace hc := hc.2)))))) <;> (try (conv => whnf))
 refine Then.mk (AWq.in ?_)
 refine AWp_nilrow1 6 1 rfl rfl fun q hq => ?_
 have hqp : q ≠ p := fun h => by rw [h, ← hG1] at hq; unfold RdH at hq; rw [AH.zC] at hq; cases hq
 have hqn : H q = none := by rw [← hG1] at hq; unfold RdH at hq; rw [AH.zR _ _ hqp] at hq; exact hq
 refine AWp.of zU (dok _) rfl ?_
 (repeat' ((conv => whnf); first | refine Then.mk ?_ | left | refine zd ?_ | (refine Both.mk ?_ ?_ <;> intro hc <;> try exact wX hc) | (intro c hc; (try (simp only [AH.zA] at hc; repeat (have hn := hc.1; replace hc := hc.2)))))) <;> (try (conv => whnf))
 obtain ⟨N, hN⟩ : ∃ N, N = ps.length := ⟨_, rfl⟩
 obtain ⟨Hk, hHk⟩ : ∃ Hk : Nat → AH, ∀ i, Hk i = RdH (H.set q (.row (pvL (ps.take i)) i)) p 0 (encRs (ps.drop i)) := ⟨_, fun _ => rfl⟩
 have hH0 : Hk 0 = G1.set q (.row [] 0) := by
  rw [hHk, ← hG1]
  unfold RdH
  rw [AH.set_comm _ _ _ hqp]; rfl
 refine zT (σ := Nat) (6 :: 19 :: 20 :: 21 :: 22 :: 23 :: 24 :: 25 :: 26 :: []) (fun i => [(19, .int .i64 i), (6, .sl q i 1 0 i none)]) Hk (fun i => i ≤ ps.length) (fun i => ps.length - i) 0 rfl (Nat.zero_le _) ⟨rfl, rfl, trivial⟩ (HLe.of_eq hH0) ?_
 clear hH0 hG1 hG0 ri hq
 intro i hi
 refine AWp.of zU (dok _) rfl ?_
 dsimp only at hi ⊢
 have gq : Hk i q = some (.row (pvL (ps.take i)) i) := by rw [hHk]; unfold RdH; rw [AH.zR _ _ hqp, AH.zC]
 have lq : (pvL (ps.take i)).length = i := by rw [pvL_len, List.length_take]; omega
 by_cases hit : i < ps.length
 ·obtain ⟨x, hx⟩ : ∃ x, ps[i]? = some x := ⟨_, List.getElem?_eq_getElem hit⟩
  have hxl := hp x (List.mem_of_getElem? hx)
  have hdr := encRs_drop hx
  have hdl : (encRs (ps.drop i)).length ≤ 820000 := by
   have : encRs ps = encRs (ps.take i) ++ encRs (ps.drop i) := by unfold encRs; rw [← List.flatMap_append, List.take_append_drop]
   rw [this, List.length_append] at hlr; omega
  have rR := rdRaw_enc (b := x) (by omega) (encRs (ps.drop (i + 1)))
  rw [← hdr] at rR
  have rw1 := rRaw_ok p (by omega) rR (H.set q (.row (pvL (ps.take i)) i))
  rw [← hHk] at rw1
  have ht : pvL (ps.take (i + 1)) = pvL (ps.take i) ++ [.cs (u8s x) x.length] := by rw [take_snoc hx, pvL_snoc]
  have hst : Hk (i + 1) = (RdH (H.set q (.row (pvL (ps.take i)) i)) p 0 (encRs (ps.drop (i + 1)))).set q (.row (pvL (ps.take i) ++ [.cs (u8s x) x.length]) (i + 1)) := by
   rw [hHk, ← ht]
   unfold RdH
   rw [AH.set_comm _ _ _ (Ne.symm hqp), AH.zS]
  have gq2 : RdH (H.set q (.row (pvL (ps.take i)) i)) p 0 (encRs (ps.drop (i + 1))) q = some (.row (pvL (ps.take i)) i) := by unfold RdH; rw [AH.zR _ _ hqp, AH.zC]
  generalize RdH (H.set q (.row (pvL (ps.take i)) i)) p 0 (encRs (ps.drop (i + 1))) = G2 at *
  generalize pvL (ps.take i) = R at *
  generalize hGi : Hk i = Gi at *
  (repeat' ((conv => whnf); first | refine Then.mk ?_ | left | refine zg ?_ (rw1) | refine zgg ?_ (rw1) | refine zd ?_ | (refine Both.mk ?_ ?_ <;> intro hc <;> try exact wX hc) | (intro c hc; (try (simp only [AH.zA] at hc; repeat (have hn := hc.1; replace hc := hc.2)))) | (refine ACall.to (rw1) ?_))) <;> (try (conv => whnf))
  exact ⟨i + 1, hit, by omega, ⟨congrArg (AV.int .i64) (by omega), rfl, trivial⟩, HLe.of_eq hst⟩
 ·have hie : i = ps.length := by omega
  subst hie
  rw [List.take_length] at *
  have hdel : (Hk ps.length).del q = RdH H p 0 [] := by
   rw [hHk, List.take_length, List.drop_length]
   unfold RdH
   rw [AH.set_comm _ _ _ hqp, AH.del_set _ _ _ (by rw [AH.zR _ _ hqp]; exact hqn)]; rfl
  have hen : ∀ H, ACall Tryz.prog 76 [.ptr p 0 0] (RdH H p 0 []) (fun y H' => y = .int .i64 0 ∧ H' = RdH H p 0 []) := fun H => rEnd_c p 0 [] H
  have hen := hen H
  have hle := hle []
  (repeat' ((conv => whnf); first | left | refine zd ?_ | (refine Both.mk ?_ ?_ <;> intro hc <;> try exact wX hc) | (intro c hc; (try (simp only [AH.zA] at hc; repeat (have hn := hc.1; replace hc := hc.2)))))) <;> (try (conv => whnf))
  refine Then.mk ?_
  (repeat' ((conv => whnf); first | left | refine zd ?_ | (refine Both.mk ?_ ?_ <;> intro hc <;> try exact wX hc) | (intro c hc; (try (simp only [AH.zA] at hc; repeat (have hn := hc.1; replace hc := hc.2)))))) <;> (try (conv => whnf))
  refine Then.mk (AWq.in ?_)
  refine AWp_freeze1 6 rfl rfl gq (by omega) ?_
  rw [hdel]
  refine AWp.of zU (dok _) rfl ?_
  generalize hGE : RdH H p 0 [] = GE at *
  (repeat' ((conv => whnf); first | refine Then.mk ?_ | left | refine zg ?_ (hen) | refine zg ?_ (jc _) | refine zgg ?_ (hen) | refine zgg ?_ (jc _) | refine zd ?_ | (refine Both.mk ?_ ?_ <;> intro hc <;> try exact wX hc) | (intro c hc; (try (simp only [AH.zA] at hc; repeat (have hn := hc.1; replace hc := hc.2)))) | (refine ACall.to (hen) ?_) | (refine ACall.to (jc _) ?_))) <;> (try (conv => whnf))
  exact hle
open Go.Fw Go
set_option maxRecDepth 8000 in
theorem outside_c (lo hi : Int) (H : AH) : ACall Tryz.prog 79 [.int .i64 lo, .int .i64 hi] H (fun y H' => y = .fn (.func 110) [] [.cp [.int .i64 lo], .cp [.int .i64 hi]] ∧ H' = H) := by
 refine ACall.back ?_
 refine zQ zU (dok _) Tryz.func79 rfl (by decide) rfl ?_
 (repeat' ((conv => whnf); first | left | refine zd ?_ | (refine Both.mk ?_ ?_ <;> intro hc <;> try exact wX hc) | (intro c hc; (try (simp only [AH.zA] at hc; repeat (have hn := hc.1; replace hc := hc.2)))))) <;> (try (conv => whnf))
 rename_i c1 _
 have hc0 : ∀ o, (AH.set H c1 o) c = none := fun o => by rw [AH.zR _ _ hn]; exact hc
 have hc1 : H c1 = none := by assumption
 refine Then.mk (AWq.in ?_)
 refine AWp_freezeP (cells := [.int .i64 hi]) 3 rfl rfl (AH.zC _ _ _) ?_
 rw [AH.del_set _ _ _ (hc0 _)]
 refine AWp_freezeP (cells := [.int .i64 lo]) 2 rfl rfl (AH.zC _ _ _) ?_
 rw [AH.del_set _ _ _ hc1]
 refine AWp.of zU (dok _) rfl ?_
 (repeat' ((conv => whnf); first | refine Then.mk ?_ | left | refine zd ?_ | (refine Both.mk ?_ ?_ <;> intro hc <;> try exact wX hc) | (intro c hc; (try (simp only [AH.zA] at hc; repeat (have hn := hc.1; replace hc := hc.2)))))) <;> (try (conv => whnf))
 exact HLe.refl _
set_option maxRecDepth 8000 in
theorem out1_in (lo hi n : Int) (h : lo ≤ n ∧ n ≤ hi) (H : AH) : ACall Tryz.prog 110 [.int .i64 n, .cp [.int .i64 lo], .cp [.int .i64 hi]] H (fun y H' => y = .bool false ∧ H' = H) := by
 refine zQ zU (dok _) Tryz.func110 rfl (by decide) rfl ?_
 (repeat' ((conv => whnf); first | refine Then.mk ?_ | left | refine zd ?_ | (refine Both.mk ?_ ?_ <;> intro hc <;> try exact wX hc) | (intro c hc; (try (simp only [AH.zA] at hc; repeat (have hn := hc.1; replace hc := hc.2)))))) <;> (try (conv => whnf))
theorem expR_take (R : List (Int × Nat)) {j : Nat} {p : Int × Nat} (h : R[j]? = some p) : expR (R.take (j + 1)) = expR (R.take j) ++ List.replicate p.2 p.1 := by
 rw [take_snoc h, expR_app]
 show _ ++ (List.replicate p.2 p.1 ++ []) = _
 rw [List.append_nil]
theorem flatR_at {R : List (Int × Nat)} {j : Nat} {p : Int × Nat} (h : R[j]? = some p) : (flatR R).getD (2 * j) 0 = p.1 ∧ (flatR R).getD (2 * j + 1) 0 = p.2 := by
 have hj : j < R.length := by
  by_cases hj : j < R.length
  ·exact hj
  ·rw [List.getElem?_eq_none (by omega)] at h; cases h
 have e : R = R.take j ++ p :: R.drop (j + 1) := by
  have := List.drop_eq_getElem_cons hj
  rw [List.getElem?_eq_getElem hj] at h
  rw [Option.some.inj h] at this
  rw [← this, List.take_append_drop]
 have hl : (flatR (R.take j)).length = 2 * j := by rw [flatR_len, List.length_take]; omega
 have e2 : flatR R = flatR (R.take j) ++ (p.1 :: (p.2 : Int) :: flatR (R.drop (j + 1))) := by
  conv => lhs; rw [e]
  rw [flatR_app]; rfl
 rw [e2]
 refine ⟨?_, ?_⟩
 ·rw [List.getD_eq_getElem?_getD, List.getElem?_append_right (by omega), hl, Nat.sub_self]; rfl
 ·rw [List.getD_eq_getElem?_getD, List.getElem?_append_right (by omega), hl, show 2 * j + 1 - 2 * j = 1 by omega]; rfl
theorem expR_le (R : List (Int × Nat)) (j : Nat) : (expR (R.take j)).length ≤ (expR R).length := by
 have : expR R = expR (R.take j) ++ expR (R.drop j) := by rw [← expR_app, List.take_append_drop]
 rw [this, List.length_append]; omega
structure LbOk (L : List Int) : Prop where
 len : L.length = 256
 bd : ∀ x ∈ L, -1 ≤ x ∧ x ≤ 4095
set_option maxRecDepth 8000 in
set_option maxHeartbeats 4000000 in
theorem labels_ok (L : List Int) (h : LbOk L) (H : AH) : ACall Tryz.prog 42 [.cs (u8s (labP L)) (labP L).length] H (fun y H' => y = .tup [.cs (iS .i64 L) 256, .int .i64 0] ∧ H' = H) := by
 have hlen := h.len
 have hI : I64L L := fun x hx => by have := h.bd x hx; omega
 have lc := fun H => labelPart_c L hI (by omega) H
 have hll := labP_len hI (by omega)
 have hfl := flat_small (L := L) (by omega)
 have hfI := flat_I64 hI (by omega)
 obtain ⟨hil, hi0⟩ := ints_len hfI hfl (by omega)
 have hrr := read_round (l := flatR (runsR L)) (by omega) hfI
 have hfe := flatR_len (runsR L)
 have hrl := runsR_len L
 have hex := expR_runs L
 have hmem := fun p hp => runsR_mem _ L rfl p hp
 have hr1 : 1 ≤ (runsR L).length := by
  rcases list_end (runsR L) with e | ⟨S, x, e⟩
  ·rw [e] at hex
   have : L = [] := hex.symm
   rw [this] at hlen; cases hlen
  ·rw [e]; simp
 have rc := fun H => readInts_c (intsS (flatR (runsR L))).1 (by omega) (2 * ((runsR L).length : Int)) (by omega) H
 rw [show (2 * ((runsR L).length : Int)) = ((flatR (runsR L)).length : Int) by rw [hfe]; omega, hrr] at rc
 unfold resI at rc
 dsimp only at rc
 have rI := rdI_enc (n := ((runsR L).length : Int)) (by unfold I64; omega) (encR (intsS (flatR (runsR L))).1)
 have rR := rdRaw_enc (b := (intsS (flatR (runsR L))).1) (by omega) []
 rw [List.append_nil] at rR
 have hJ : labP L = encI ((runsR L).length : Int) ++ encR (intsS (flatR (runsR L))).1 := rfl
 rw [← hJ] at rI
 have hbl : (u8s (labP L)).length = (labP L).length := by simp
 have hel : (encR (intsS (flatR (runsR L))).1).length ≤ 79000 := by rw [hJ, List.length_append] at hll; omega
 generalize hF : flatR (runsR L) = F at *
 generalize hB : (intsS F).1 = B at *
 refine ACall.back ?_
 refine zQ zU (dok _) Tryz.func42 rfl (by decide) rfl ?_
 (repeat' ((conv => whnf); first | left | refine zd ?_ | (refine Both.mk ?_ ?_ <;> intro hc <;> try exact wX hc) | (intro c hc; (try (simp only [AH.zA] at hc; repeat (have hn := hc.1; replace hc := hc.2)))))) <;> (try (conv => whnf))
 refine Then.mk ?_
 (repeat' ((conv => whnf); first | left | refine zd ?_ | (refine Both.mk ?_ ?_ <;> intro hc <;> try exact wX hc) | (intro c hc; (try (simp only [AH.zA] at hc; repeat (have hn := hc.1; replace hc := hc.2)))))) <;> (try (conv => whnf))
 refine (Read_c (labP L) (by omega) H).mono ?_
 rintro y H' ⟨p, hpn, rfl, rfl⟩
 have ri := rInt_ok p (by omega) rI H
 have rr := rRaw_ok p (by omega) rR H
 have hen : ∀ H, ACall Tryz.prog 76 [.ptr p 0 0] (RdH H p 0 []) (fun y H' => y = .int .i64 0 ∧ H' = RdH H p 0 []) := fun H => rEnd_c p 0 [] H
 have hen := hen H
 have hle : HLe H (RdH H p 0 []) := HLe.set_of _ _ (HLe.refl _) hpn
 generalize hG0 : RdH H p 0 (labP L) = G0 at *
 generalize hG1 : RdH H p 0 (encR B) = G1 at *
 generalize hG2 : RdH H p 0 [] = G2 at *
 generalize hn : (runsR L).length = n at *
 have e1 : IntKind.i64.wrap (2 * (n : Int)) = (F.length : Int) := by rw [IntKind.wrap_i64, hfe]; omega
 iterate 4 ((repeat' ((conv => whnf); first | left | refine zg ?_ (ri) | refine zg ?_ (rr) | refine zg ?_ (hen) | refine zg ?_ (rc _) | refine zgg ?_ (ri) | refine zgg ?_ (rr) | refine zgg ?_ (hen) | refine zgg ?_ (rc _) | refine zd ?_ | (refine Both.mk ?_ ?_ <;> intro hc <;> try exact wX hc) | (intro c hc; (try (simp only [AH.zA] at hc; repeat (have hn := hc.1; replace hc := hc.2)))) | (refine ACall.to (ri) ?_) | (refine ACall.to (rr) ?_) | (refine ACall.to (hen) ?_) | (refine ACall.to (rc _) ?_))) <;> (try (conv => whnf)); refine Then.mk ?_)
 iterate 4 ((repeat' ((conv => whnf); first | left | refine zg ?_ (ri) | refine zg ?_ (rr) | refine zg ?_ (hen) | refine zg ?_ (rc _) | refine zgg ?_ (ri) | refine zgg ?_ (rr) | refine zgg ?_ (hen) | refine zgg ?_ (rc _) | refine zd ?_ | (refine Both.mk ?_ ?_ <;> intro hc <;> try exact wX hc) | (intro c hc; (try (simp only [AH.zA] at hc; repeat (have hn := hc.1; replace hc := hc.2)))) | (refine ACall.to (ri) ?_) | (refine ACall.to (rr) ?_) | (refine ACall.to (hen) ?_) | (refine ACall.to (rc _) ?_))) <;> (try (conv => whnf)); refine Then.mk ?_)
 (repeat' ((conv => whnf); first | left | refine zd ?_ | (refine Both.mk ?_ ?_ <;> intro hc <;> try exact wX hc) | (intro c hc; (try (simp only [AH.zA] at hc; repeat (have hn := hc.1; replace hc := hc.2)))))) <;> (try (conv => whnf))
 refine Then.mk (AWq.in ?_)
 refine AWp_nilrow1 9 1 rfl rfl fun q hq => ?_
 refine AWp.of zU (dok _) rfl ?_
 (repeat' ((conv => whnf); first | refine Then.mk ?_ | left | refine zd ?_ | (refine Both.mk ?_ ?_ <;> intro hc <;> try exact wX hc) | (intro c hc; (try (simp only [AH.zA] at hc; repeat (have hn := hc.1; replace hc := hc.2)))))) <;> (try (conv => whnf))
 have hFa := fun j p hp => flatR_at (R := runsR L) (j := j) (p := p) hp
 rw [hF] at hFa
 have hle2 := fun j => expR_le (runsR L) j
 rw [hex, hlen] at hle2
 have htk := fun j p hp => expR_take (runsR L) (j := j) (p := p) hp
 generalize hR : runsR L = R at *
 refine zT (σ := Nat) (2 :: 3 :: 9 :: 10 :: 37 :: 38 :: 39 :: 40 :: 41 :: 42 :: 43 :: 44 :: 45 :: 46 :: 47 :: 48 :: 49 :: 50 :: 51 :: 52 :: 53 :: 54 :: 55 :: 56 :: 57 :: 58 :: 59 :: 60 :: 61 :: 62 :: 63 :: 64 :: 65 :: 66 :: 67 :: 68 :: 69 :: 70 :: 71 :: 72 :: 73 :: 74 :: 75 :: 76 :: 77 :: 78 :: 79 :: 80 :: []) (fun j => [(10, .int .i64 (2 * j : Nat)), (9, .sl q j 1 0 (expR (R.take j)).length none)]) (fun j => G2.set q (.row (iS .i64 (expR (R.take j))) j)) (fun j => j ≤ n) (fun j => n - j) 0 rfl (Nat.zero_le _) ⟨rfl, rfl, trivial⟩ (HLe.refl _) ?_
 intro j hj
 refine AWp.of zU (dok _) rfl ?_
 dsimp only at hj ⊢
 have gq := AH.zC G2 q (.row (iS .i64 (expR (R.take j))) j)
 have lq : (iS .i64 (expR (R.take j))).length = (expR (R.take j)).length := by simp
 by_cases hjt : j < n
 ·obtain ⟨⟨x, m⟩, hx⟩ : ∃ p, R[j]? = some p := ⟨_, List.getElem?_eq_getElem (by omega)⟩
  obtain ⟨f1, f2⟩ := hFa j _ hx
  have hm := hmem _ (List.mem_of_getElem? hx)
  have hbx := h.bd x hm.1
  have ht := htk j _ hx
  have hl2 := hle2 (j + 1)
  have hl1 := hle2 j
  dsimp only at f1 f2 hm ht
  have hm1 := hm.2.1
  have gx : (iS .i64 F)[((2 * j : Nat) : Int).toNat]? = some (.int .i64 x) := by
   rw [← f1, Int.toNat_natCast]; exact iS_get (by omega)
  have gm : (iS .i64 F)[(((2 * j : Nat) : Int) + 1).toNat]? = some (.int .i64 m) := by
   rw [← f2, show (((2 * j : Nat) : Int) + 1).toNat = 2 * j + 1 by omega]; exact iS_get (by omega)
  have oc := fun H => outside_c (-1) 4095 H
  have o1 := fun H => out1_in (-1) 4095 x hbx H
  have rp := fun H => repeat_k x m (by omega) (by omega) H
  have hap : iS .i64 (expR (R.take (j + 1))) = iS .i64 (expR (R.take j)) ++ iS .i64 (fnL m fun _ => x) := by
   rw [ht, ← fnL_rep]; unfold iS; rw [List.map_append]
  have hal : (expR (R.take (j + 1))).length = (expR (R.take j)).length + m := by rw [ht, List.length_append, List.length_replicate]
  have lF : (iS .i64 F).length = 2 * n := by rw [iS_length, hfe]
  have hcnt : (((2 * j : Nat) : Int) + 1).toNat - ((2 * j : Nat) : Int).toNat = 1 := by omega
  have hsl : List.take (((((2 * j : Nat) : Int) + 1).toNat - ((2 * j : Nat) : Int).toNat) * 1) (List.drop (((2 * j : Nat) : Int).toNat * 1) (iS .i64 F)) = [.int .i64 x] := by
   rw [hcnt, Int.toNat_natCast, Nat.mul_one, Nat.mul_one, List.drop_eq_getElem_cons (by omega)]
   rw [Int.toNat_natCast, List.getElem?_eq_getElem (by omega)] at gx
   rw [Option.some.inj gx]; rfl
  have rp2 : ∀ H, ACall Tryz.prog 80 [.cs (List.take (((((2 * j : Nat) : Int) + 1).toNat - ((2 * j : Nat) : Int).toNat) * 1) (List.drop (((2 * j : Nat) : Int).toNat * 1) (iS .i64 F))) ((((2 * j : Nat) : Int) + 1).toNat - ((2 * j : Nat) : Int).toNat), .int .i64 m] H (fun y H' => y = .cs (iS .i64 (fnL m fun _ => x)) m ∧ H' = H) := fun H => by
   rw [hsl, hcnt]; exact rp H
  have lM : (iS .i64 (fnL m fun _ => x)).length = m := by simp
  have oM : (iS .i64 (fnL m fun _ => x)).all one = true := one_iS _ _
  generalize iS .i64 (fnL m fun _ => x) = RM at *
  generalize iS .i64 (expR (R.take j)) = R9 at *
  iterate 4 ((repeat' ((conv => whnf); first | left | refine zg ?_ (oc _) | refine zg ?_ (o1 _) | refine zg ?_ (rp2 _) | refine zgg ?_ (oc _) | refine zgg ?_ (o1 _) | refine zgg ?_ (rp2 _) | refine zd ?_ | (refine Both.mk ?_ ?_ <;> intro hc <;> try exact wX hc) | (intro c hc; (try (simp only [AH.zA] at hc; repeat (have hn := hc.1; replace hc := hc.2)))) | (refine ACall.to (oc _) ?_) | (refine ACall.to (o1 _) ?_) | (refine ACall.to (rp2 _) ?_))) <;> (try (conv => whnf)); refine Then.mk ?_)
  (repeat' ((conv => whnf); first | refine Then.mk ?_ | left | refine zg ?_ (oc _) | refine zg ?_ (o1 _) | refine zg ?_ (rp2 _) | refine zgg ?_ (oc _) | refine zgg ?_ (o1 _) | refine zgg ?_ (rp2 _) | refine zd ?_ | (refine Both.mk ?_ ?_ <;> intro hc <;> try exact wX hc) | (intro c hc; (try (simp only [AH.zA] at hc; repeat (have hn := hc.1; replace hc := hc.2)))) | (refine ACall.to (oc _) ?_) | (refine ACall.to (o1 _) ?_) | (refine ACall.to (rp2 _) ?_))) <;> (try (conv => whnf))
  exact ⟨j + 1, hjt, by omega, ⟨congrArg (AV.int .i64) (by omega), by rw [hal]; rfl, trivial⟩, HLe.of_eq (by rw [hap, AH.zS])⟩
 ·have hje : j = n := by omega
  subst hje
  have htl : R.take j = R := List.take_of_length_le (by omega)
  rw [htl, hex] at gq lq ⊢
  rw [hlen] at lc lq ⊢
  have hbs : (u8s (labP L)).length = (labP L).length := by simp
  (repeat' ((conv => whnf); first | left | refine zd ?_ | (refine Both.mk ?_ ?_ <;> intro hc <;> try exact wX hc) | (intro c hc; (try (simp only [AH.zA] at hc; repeat (have hn := hc.1; replace hc := hc.2)))))) <;> (try (conv => whnf))
  refine Then.mk ?_
  (repeat' ((conv => whnf); first | left | refine zd ?_ | (refine Both.mk ?_ ?_ <;> intro hc <;> try exact wX hc) | (intro c hc; (try (simp only [AH.zA] at hc; repeat (have hn := hc.1; replace hc := hc.2)))))) <;> (try (conv => whnf))
  refine Then.mk (AWq.in ?_)
  refine AWp_freeze1 9 rfl rfl gq (by omega) ?_
  rw [AH.del_set _ _ _ hq]
  refine AWp.of zU (dok _) rfl ?_
  (repeat' ((conv => whnf); first | refine Then.mk ?_ | left | refine zg ?_ (lc _) | refine zgg ?_ (lc _) | refine zd ?_ | (refine Both.mk ?_ ?_ <;> intro hc <;> try exact wX hc) | (intro c hc; (try (simp only [AH.zA] at hc; repeat (have hn := hc.1; replace hc := hc.2)))) | (refine ACall.to (lc _) ?_))) <;> (try (conv => whnf))
  exact hle
open Go.Fw Go
set_option maxRecDepth 8000 in
set_option maxHeartbeats 4000000 in
theorem idx_none (f : FuncId) (lo hi : Int) (A : List Int) (hA : A.length ≤ 1000) (hf : ∀ x, x ∈ A → ∀ H, ACall Tryz.prog f [.int .i64 x, .cp [.int .i64 lo], .cp [.int .i64 hi]] H (fun y H' => y = .bool false ∧ H' = H)) (H : AH) :
  ACall Tryz.prog 114 [.cs (iS .i64 A) A.length, .fn (.func f) [] [.cp [.int .i64 lo], .cp [.int .i64 hi]]] H (fun y H' => y = .int .i64 (-1) ∧ H' = H) := by
 have hl : (iS .i64 A).length = A.length := by simp
 refine zQ zU (dok _) Tryz.func114 rfl (by decide) rfl ?_
 (repeat' ((conv => whnf); first | refine Then.mk ?_ | left | refine zd ?_ | (refine Both.mk ?_ ?_ <;> intro hc <;> try exact wX hc) | (intro c hc; (try (simp only [AH.zA] at hc; repeat (have hn := hc.1; replace hc := hc.2)))))) <;> (try (conv => whnf))
 refine zT (σ := Nat) (4 :: 5 :: 8 :: 9 :: 10 :: 11 :: 12 :: 13 :: 14 :: 15 :: 16 :: 17 :: 18 :: []) (fun i => [(8, .int .i64 i)]) (fun _ => H) (fun i => i ≤ A.length) (fun i => A.length - i) 0 rfl (Nat.zero_le _) ⟨rfl, trivial⟩ (HLe.refl _) ?_
 intro i hi
 refine AWp.of zU (dok _) rfl ?_
 dsimp only at hi ⊢
 by_cases hit : i < A.length
 ·have g : (iS .i64 A)[(i : Int).toNat]? = some (.int .i64 (A.getD i 0)) := iS_get hit
  have h1 := hf _ (getD_mem hit)
  generalize A.getD i 0 = x at *
  (repeat' ((conv => whnf); first | refine Then.mk ?_ | left | refine zg ?_ (h1 _) | refine zgg ?_ (h1 _) | refine zd ?_ | (refine Both.mk ?_ ?_ <;> intro hc <;> try exact wX hc) | (intro c hc; (try (simp only [AH.zA] at hc; repeat (have hn := hc.1; replace hc := hc.2)))) | (refine ACall.to (h1 _) ?_))) <;> (try (conv => whnf))
  exact ⟨i + 1, hit, show A.length - (i + 1) < A.length - i by omega, ⟨congrArg (AV.int .i64) (by omega), trivial⟩, HLe.refl _⟩
 ·(repeat' ((conv => whnf); first | refine Then.mk ?_ | left | refine zd ?_ | (refine Both.mk ?_ ?_ <;> intro hc <;> try exact wX hc) | (intro c hc; (try (simp only [AH.zA] at hc; repeat (have hn := hc.1; replace hc := hc.2)))))) <;> (try (conv => whnf))
set_option maxRecDepth 8000 in
theorem has_none (f : FuncId) (lo hi : Int) (A : List Int) (hA : A.length ≤ 1000) (hf : ∀ x, x ∈ A → ∀ H, ACall Tryz.prog f [.int .i64 x, .cp [.int .i64 lo], .cp [.int .i64 hi]] H (fun y H' => y = .bool false ∧ H' = H)) (H : AH) :
  ACall Tryz.prog 90 [.cs (iS .i64 A) A.length, .fn (.func f) [] [.cp [.int .i64 lo], .cp [.int .i64 hi]]] H (fun y H' => y = .bool false ∧ H' = H) := by
 have ic := fun H => idx_none f lo hi A hA hf H
 refine zQ zU (dok _) Tryz.func90 rfl (by decide) rfl ?_
 (repeat' ((conv => whnf); first | refine Then.mk ?_ | left | refine zg ?_ (ic _) | refine zgg ?_ (ic _) | refine zd ?_ | (refine Both.mk ?_ ?_ <;> intro hc <;> try exact wX hc) | (intro c hc; (try (simp only [AH.zA] at hc; repeat (have hn := hc.1; replace hc := hc.2)))) | (refine ACall.to (ic _) ?_))) <;> (try (conv => whnf))
set_option maxRecDepth 8000 in
set_option maxHeartbeats 4000000 in
theorem band_ok {Z : List Int} (hz : ZO Z) (hzig : ∀ H, ACall Tryz.prog 13 [.int .i64 16] H (fun y H' => y = .tup [.cs (iS .i64 Z) 256, .int .i64 0] ∧ H' = H)) (a : List Int) (h : BOk a) (H : AH) :
  ACall Tryz.prog 61 [.cs (u8s (bandP Z a)) (bandP Z a).length] H (fun y H' => y = .tup [.cs (iS .i64 (coefL a)) 256, .cs (iS .i64 a) 256, .int .i64 0] ∧ H' = H) := by
 have iv : ∀ H, ACall Tryz.prog 89 [.int .i64 16, .cs (iS .i64 (coefL a)) 256] H (fun y H' => y = .tup [.cs (iS .i64 a) 256, .int .i64 0] ∧ H' = H) := fun H => by
  have := Inverse_ok 4 (by decide) (coefL a) (by rw [coefL_len]) h.inC H
  unfold resV at this
  rw [coef_back h.len, coefL_len] at this
  dsimp only at this
  rw [h.len] at this
  exact this
 have hsI : I64L (sortL Z a) := sortL_ok hz h
 have hsl := sortL_len hz a
 have hbl := bandP_len hz h
 have hrr := read_round (l := sortL Z a) (by omega) hsI
 have rc := fun H => readInts_c (bandP Z a) (by omega) 256 (by decide) H
 rw [hsl] at hrr
 have hrr : readS (bandP Z a) 256 = (sortL Z a, 0) := hrr
 rw [hrr] at rc
 unfold resI at rc
 dsimp only at rc
 rw [hsl] at rc
 have bc := fun H => bandPart_c hz hzig a h H
 have oc := fun H => outside_c 0 65535 H
 have hc1 := fun H => has_none 110 0 65535 a (by rw [h.len]; omega) (fun x hx H => out1_in 0 65535 x (h.bd x hx) H) H
 rw [h.len] at hc1
 have hzl : (iS .i64 Z).length = 256 := by rw [iS_length]; exact hz.len
 have hsl2 : (iS .i64 (sortL Z a)).length = 256 := by rw [iS_length]; exact hsl
 have hs0 : (List.replicate (256 : Int).toNat [AV.int .i64 0]).flatten = iS .i64 (scat Z (sortL Z a) 0) := dL_zero 256
 have hbu : (u8s (bandP Z a)).length = (bandP Z a).length := by simp
 generalize bandP Z a = B at *
 refine ACall.back ?_
 refine zQ zU (dok _) Tryz.func61 rfl (by decide) rfl ?_
 iterate 4 ((repeat' ((conv => whnf); first | left | refine zg ?_ (rc _) | refine zg ?_ (hzig _) | refine zgg ?_ (rc _) | refine zgg ?_ (hzig _) | refine zd ?_ | (refine Both.mk ?_ ?_ <;> intro hc <;> try exact wX hc) | (intro c hc; (try (simp only [AH.zA] at hc; repeat (have hn := hc.1; replace hc := hc.2)))) | (refine ACall.to (rc _) ?_) | (refine ACall.to (hzig _) ?_))) <;> (try (conv => whnf)); refine Then.mk ?_)
 (repeat' ((conv => whnf); first | left | refine zg ?_ (hzig _) | refine zgg ?_ (hzig _) | refine zd ?_ | (refine Both.mk ?_ ?_ <;> intro hc <;> try exact wX hc) | (intro c hc; (try (simp only [AH.zA] at hc; repeat (have hn := hc.1; replace hc := hc.2)))) | (refine ACall.to (hzig _) ?_))) <;> (try (conv => whnf))
 refine Then.mk ?_
 (repeat' ((conv => whnf); first | left | refine zd ?_ | (refine Both.mk ?_ ?_ <;> intro hc <;> try exact wX hc) | (intro c hc; (try (simp only [AH.zA] at hc; repeat (have hn := hc.1; replace hc := hc.2)))))) <;> (try (conv => whnf))
 (obtain ⟨q, hq_⟩ : ∃ q, q = c := ⟨_, rfl⟩); subst hq_
 have hq : H q = none := hc
 refine Then.mk (AWq.in ?_)
 rw [hs0]
 clear hs0 hrr
 refine AWp.of zU (dok _) rfl ?_
 (repeat' ((conv => whnf); first | refine Then.mk ?_ | left | refine zd ?_ | (refine Both.mk ?_ ?_ <;> intro hc <;> try exact wX hc) | (intro c hc; (try (simp only [AH.zA] at hc; repeat (have hn := hc.1; replace hc := hc.2)))))) <;> (try (conv => whnf))
 refine zT (σ := Nat) (10 :: 11 :: 27 :: 28 :: 29 :: 30 :: 31 :: 32 :: 33 :: 34 :: 35 :: 36 :: 37 :: 38 :: 39 :: []) (fun k => [(27, .int .i64 k)]) (fun k => H.set q (.row (iS .i64 (scat Z (sortL Z a) k)) 0)) (fun k => k ≤ 256) (fun k => 256 - k) 0 rfl (Nat.zero_le _) ⟨rfl, trivial⟩ (HLe.refl _) ?_
 intro k hk
 refine AWp.of zU (dok _) rfl ?_
 dsimp only at hk ⊢
 have gq := AH.zC H q (.row (iS .i64 (scat Z (sortL Z a) k)) 0)
 have lq : (iS .i64 (scat Z (sortL Z a) k)).length = 256 := by rw [iS_length]; exact scat_len _ _ _
 by_cases hkt : k < 256
 ·have hkz : k < Z.length := by rw [hz.len]; exact hkt
  have gz : (iS .i64 Z)[(k : Int).toNat]? = some (.int .i64 (Z.getD k 0)) := iS_get hkz
  have gs : (iS .i64 (sortL Z a))[(k : Int).toNat]? = some (.int .i64 ((sortL Z a).getD k 0)) := iS_get (by rw [Int.toNat_natCast, hsl]; exact hkt)
  have hb := hz.bd _ (getD_mem hkz)
  have hwr : wrA (iS .i64 (scat Z (sortL Z a) k)) (0 + (Z.getD k 0).toNat * 1) [.int .i64 ((sortL Z a).getD k 0)] = iS .i64 (scat Z (sortL Z a) (k + 1)) := by
   rw [show 0 + (Z.getD k 0).toNat * 1 = (Z.getD k 0).toNat by omega, iS_wr1 (by rw [scat_len]; omega)]; rfl
  generalize Z.getD k 0 = z at *
  generalize (sortL Z a).getD k 0 = v at *
  generalize hR2 : iS .i64 (scat Z (sortL Z a) (k + 1)) = R2 at *
  generalize iS .i64 (scat Z (sortL Z a) k) = R at *
  generalize iS .i64 (sortL Z a) = RS at *
  (repeat' ((conv => whnf); first | refine Then.mk ?_ | left | refine zd ?_ | (refine Both.mk ?_ ?_ <;> intro hc <;> try exact wX hc) | (intro c hc; (try (simp only [AH.zA] at hc; repeat (have hn := hc.1; replace hc := hc.2)))))) <;> (try (conv => whnf))
  exact ⟨k + 1, hkt, by omega, ⟨congrArg (AV.int .i64) (by omega), trivial⟩, HLe.of_eq (by rw [AH.zS, hR2]; exact congrArg (fun x => AH.set H q (.row x 0)) hwr.symm)⟩
 ·have hke : k = 256 := by omega
  subst hke
  have hse := scat_end hz a
  rw [hse] at gq lq ⊢
  clear hse
  (repeat' ((conv => whnf); first | left | refine zd ?_ | (refine Both.mk ?_ ?_ <;> intro hc <;> try exact wX hc) | (intro c hc; (try (simp only [AH.zA] at hc; repeat (have hn := hc.1; replace hc := hc.2)))))) <;> (try (conv => whnf))
  refine Then.mk ?_
  (repeat' ((conv => whnf); first | left | refine zd ?_ | (refine Both.mk ?_ ?_ <;> intro hc <;> try exact wX hc) | (intro c hc; (try (simp only [AH.zA] at hc; repeat (have hn := hc.1; replace hc := hc.2)))))) <;> (try (conv => whnf))
  refine Then.mk (AWq.in ?_)
  refine AWp_freeze1 9 rfl rfl gq (by omega) ?_
  rw [AH.del_set _ _ _ hq]
  refine AWp.of zU (dok _) rfl ?_
  (repeat' ((conv => whnf); first | refine Then.mk ?_ | left | refine zg ?_ (iv _) | refine zg ?_ (oc _) | refine zg ?_ (hc1 _) | refine zg ?_ (bc _) | refine zgg ?_ (iv _) | refine zgg ?_ (oc _) | refine zgg ?_ (hc1 _) | refine zgg ?_ (bc _) | refine zd ?_ | (refine Both.mk ?_ ?_ <;> intro hc <;> try exact wX hc) | (intro c hc; (try (simp only [AH.zA] at hc; repeat (have hn := hc.1; replace hc := hc.2)))) | (refine ACall.to (iv _) ?_) | (refine ACall.to (oc _) ?_) | (refine ACall.to (hc1 _) ?_) | (refine ACall.to (bc _) ?_))) <;> (try (conv => whnf))
  exact HLe.refl _
open Go.Fw Go
def lowR (s : Int) (a : List Int) (t : Int) : List Int × Int :=
 if IsSide s ∧ IsSide t ∧ t ≤ s ∧ (a.length : Int) = s * s then sqR 4398046511104 inv t (toL t.toNat (ofL s.toNat a)) else ([], 1)
theorem take_row {T i : Nat} (M : Mat) (hi : i < T) : (toL T M).take ((i + 1) * T) = (toL T M).take (i * T) ++ lnL T (M i) := by
 rw [← toL_row M hi (Nat.le_refl T), Nat.add_mul, Nat.one_mul, List.take_add]
theorem part_list {S T i : Nat} {a : List Int} (hl : a.length = S * S) (hi : i < T) (hT : T ≤ S) : ((iS .i64 a).drop (i * S)).take T = iS .i64 (lnL T (ofL S a i)) := by
 rw [iS_drop, iS_take]
 refine congrArg (iS .i64) ?_
 have := toL_row (s := S) (n := T) (ofL S a) (show i < S by omega) hT
 rw [toL_ofL hl] at this
 exact this
set_option maxRecDepth 8000 in
theorem Low_c (s : Int) (h1 : -9223372036854775808 ≤ s) (h2 : s ≤ 9223372036854775807) (a : List Int) (hb : a.length ≤ 1000000) (t : Int) (g1 : -9223372036854775808 ≤ t) (g2 : t ≤ 9223372036854775807) (H : AH) :
  ACall Tryz.prog 88 [.int .i64 s, .cs (iS .i64 a) a.length, .int .i64 t] H (fun y H' => y = resV (lowR s a t) ∧ H' = H) := by
 have s1 := fun H => sides_c s h1 h2 H
 have s2 := fun H => sides_c t g1 g2 H
 obtain ⟨R, hR⟩ : ∃ R, R = lowR s a t := ⟨_, rfl⟩
 rw [← hR]
 unfold lowR at hR
 refine ACall.told ?_
 by_cases hs : IsSide s
 ·rw [decide_eq_true hs] at s1
  have hs16 : 1 ≤ s ∧ s ≤ 16 := by unfold IsSide at hs; omega
  have hss : 0 ≤ s * s ∧ s * s ≤ 256 := by rcases hs with rfl | rfl | rfl | rfl | rfl <;> omega
  by_cases ht : IsSide t
  ·rw [decide_eq_true ht] at s2
   have ht16 : 1 ≤ t ∧ t ≤ 16 := by unfold IsSide at ht; omega
   by_cases hle : t ≤ s ∧ (a.length : Int) = s * s
   ·rw [if_pos ⟨hs, ht, hle⟩] at hR
    obtain ⟨S, rfl⟩ : ∃ S : Nat, s = S := ⟨s.toNat, by omega⟩
    obtain ⟨T, rfl⟩ : ∃ T : Nat, t = T := ⟨t.toNat, by omega⟩
    have hl : a.length = S * S := by have := hle.2; rw [← Int.natCast_mul] at this; omega
    have hTS : T ≤ S := by omega
    have hTT : T * T ≤ 256 := Nat.mul_le_mul (show T ≤ 16 by omega) (show T ≤ 16 by omega)
    obtain ⟨L, hL⟩ : ∃ L, L = toL T (ofL S a) := ⟨_, rfl⟩
    have lL : L.length = T * T := by rw [hL]; exact toL_len _ _
    have hi := fun H => Inverse_c (T : Int) g1 g2 L (by omega) H
    rw [Int.toNat_natCast, Int.toNat_natCast, ← hL] at hR
    rw [← hR] at hi
    refine zQ zU (dok _) Tryz.func88 rfl (by decide) rfl ?_
    (repeat' ((conv => whnf); first | refine Then.mk ?_ | left | refine zg ?_ (s1 _) | refine zg ?_ (s2 _) | refine zgg ?_ (s1 _) | refine zgg ?_ (s2 _) | refine zd ?_ | (refine Both.mk ?_ ?_ <;> intro hc <;> try exact wX hc) | (intro c hc; (try (simp only [AH.zA] at hc; repeat (have hn := hc.1; replace hc := hc.2)))) | (refine ACall.to (s1 _) ?_) | (refine ACall.to (s2 _) ?_))) <;> (try (conv => whnf))
    refine AWp_nilrow1 8 1 rfl rfl fun r1 hr1 => ?_
    refine zT (σ := Nat × Nat) (8 :: 9 :: 32 :: 33 :: 34 :: 35 :: 36 :: 37 :: 38 :: 39 :: 40 :: 41 :: 42 :: 43 :: 44 :: 45 :: 46 :: 47 :: []) (fun (i, v) => [(32, .int .i64 i), (8, .sl r1 v 1 0 (i * T) none)]) (fun (i, v) => AH.set H r1 (.row (iS .i64 (L.take (i * T))) v)) (fun (i, v) => i ≤ T) (fun (i, v) => T - i) (0, 0) rfl ?_ ?_ ?_ ?_
    ·exact Nat.zero_le _
    ·exact ⟨rfl, by show AV.sl r1 0 1 0 0 none = AV.sl r1 0 1 0 (0 * T) none; rw [Nat.zero_mul], trivial⟩
    ·refine HLe.of_eq ?_
     show AH.set H r1 (.row (iS .i64 (L.take (0 * T))) 0) = _
     rw [Nat.zero_mul]; rfl
    ·rintro ⟨i, v⟩ hiT
     dsimp only at hiT ⊢
     refine AWp.of zU (dok _) rfl ?_
     by_cases hlt : i < T
     ·have p1 : 0 ≤ (i : Int) * S := Int.mul_nonneg (by omega) (by omega)
      have p2 : i * S + T ≤ S * S := by
       have : (i + 1) * S ≤ S * S := Nat.mul_le_mul_right _ (by omega)
       rw [Nat.add_mul] at this; omega
      have p3 : (i : Int) * S = ((i * S : Nat) : Int) := (Int.natCast_mul _ _).symm
      have p5 : i * T + T ≤ T * T := by
       have : (i + 1) * T ≤ T * T := Nat.mul_le_mul_right _ (by omega)
       rw [Nat.add_mul] at this; omega
      have e1 : ((i : Int) * S + T).toNat - ((i : Int) * S).toNat = T := by omega
      have e2 : ((i : Int) * S).toNat = i * S := by omega
      have lt : (L.take (i * T)).length = i * T := by rw [List.length_take]; omega
      have hpl := part_list hl hlt hTS
      have hcl : (List.take T (List.drop (i * S) (iS .i64 a))).length = T := by rw [hpl, iS_length, lnL_len]
      (repeat' ((conv => whnf); first | refine Then.mk ?_ | left | refine zd ?_ | (refine Both.mk ?_ ?_ <;> intro hc <;> try exact wX hc) | (intro c hc; (try (simp only [AH.zA] at hc; repeat (have hn := hc.1; replace hc := hc.2)))))) <;> (try (conv => whnf))
      refine ⟨(i + 1, v + 1), by show i + 1 ≤ T; omega, by show T - (i + 1) < T - i; omega, ⟨congrArg (AV.int .i64) (by omega), ?_, trivial⟩, HLe.of_eq (Eq.symm ((AH.zS _ _ _ _).trans ?_))⟩
      ·show AV.sl r1 (v + 1) 1 0 (i * T + (((i : Int) * S + T).toNat - ((i : Int) * S).toNat)) none = AV.sl r1 (v + 1) 1 0 ((i + 1) * T) none
       rw [e1, Nat.add_mul, Nat.one_mul]
      ·refine congrArg (fun l => AH.set H r1 (.row l (v + 1))) ?_
       show iS .i64 (L.take (i * T)) ++ List.take ((((i : Int) * S + T).toNat - ((i : Int) * S).toNat) * 1) (List.drop (((i : Int) * S).toNat * 1) (iS .i64 a)) = iS .i64 (L.take ((i + 1) * T))
       rw [e1, e2, Nat.mul_one, Nat.mul_one, hpl, iS_append, hL, take_row _ hlt]
     ·have hie : i = T := by omega
      have hLL : L.take (i * T) = L := List.take_of_length_le (by rw [hie, lL]; exact Nat.le_refl _)
      rw [hLL, hie, ← lL]
      (repeat' ((conv => whnf); first | refine Then.mk ?_ | refine zd ?_ | (refine Both.mk ?_ ?_ <;> intro hc <;> try exact wX hc) | (intro c hc; (try (simp only [AH.zA] at hc; repeat (have hn := hc.1; replace hc := hc.2)))))) <;> (try (conv => whnf))
      refine ACall.frz (pre := [.int .i64 T]) (post := []) (n := L.length) (cells := iS .i64 L) (AH.zC _ _ _) (by simp) ?_
      (repeat' ((conv => whnf); first | refine Then.mk ?_ | refine zg ?_ (hi _) | refine zgg ?_ (hi _) | refine zd ?_ | (refine Both.mk ?_ ?_ <;> intro hc <;> try exact wX hc) | (intro c hc; (try (simp only [AH.zA] at hc; repeat (have hn := hc.1; replace hc := hc.2)))) | (refine ACall.to (hi _) ?_))) <;> (try (conv => whnf))
      exact ⟨resV R, H, AVle.refl _, HLe.del _ (HLe.fresh _ hr1) hr1, rfl, rfl⟩
   ·rw [if_neg (fun h => hle h.2.2)] at hR
    refine zQ zU (dok _) Tryz.func88 rfl (by decide) rfl ?_
    (repeat' ((conv => whnf); first | refine Then.mk ?_ | refine zg ?_ (s1 _) | refine zg ?_ (s2 _) | refine zgg ?_ (s1 _) | refine zgg ?_ (s2 _) | refine zd ?_ | (refine Both.mk ?_ ?_ <;> intro hc <;> try exact wX hc) | (intro c hc; (try (simp only [AH.zA] at hc; repeat (have hn := hc.1; replace hc := hc.2)))) | (refine ACall.to (s1 _) ?_) | (refine ACall.to (s2 _) ?_))) <;> (try (conv => whnf))
    all_goals exact res_told hR
  ·rw [decide_eq_false ht] at s2
   rw [if_neg (fun h => ht h.2.1)] at hR
   refine zQ zU (dok _) Tryz.func88 rfl (by decide) rfl ?_
   (repeat' ((conv => whnf); first | refine Then.mk ?_ | refine zg ?_ (s1 _) | refine zg ?_ (s2 _) | refine zgg ?_ (s1 _) | refine zgg ?_ (s2 _) | refine zd ?_ | (refine Both.mk ?_ ?_ <;> intro hc <;> try exact wX hc) | (intro c hc; (try (simp only [AH.zA] at hc; repeat (have hn := hc.1; replace hc := hc.2)))) | (refine ACall.to (s1 _) ?_) | (refine ACall.to (s2 _) ?_))) <;> (try (conv => whnf))
   exact res_told hR
 ·rw [decide_eq_false hs] at s1
  rw [if_neg (fun h => hs h.1)] at hR
  refine zQ zU (dok _) Tryz.func88 rfl (by decide) rfl ?_
  (repeat' ((conv => whnf); first | refine Then.mk ?_ | refine zg ?_ (s1 _) | refine zg ?_ (s2 _) | refine zgg ?_ (s1 _) | refine zgg ?_ (s2 _) | refine zd ?_ | (refine Both.mk ?_ ?_ <;> intro hc <;> try exact wX hc) | (intro c hc; (try (simp only [AH.zA] at hc; repeat (have hn := hc.1; replace hc := hc.2)))) | (refine ACall.to (s1 _) ?_) | (refine ACall.to (s2 _) ?_))) <;> (try (conv => whnf))
  exact res_told hR
open Go.Fw Go
def Zg (Z : List Int) : Prop := ∀ H, ACall Tryz.prog 13 [.int .i64 16] H (fun y H' => y = .tup [.cs (iS .i64 Z) 256, .int .i64 0] ∧ H' = H)
theorem zg_ex : ∃ Z, ZO Z ∧ Zg Z := by
 refine ⟨zgz (2 ^ 4) 4, zo_16, fun H => ?_⟩
 have h := zig_ok 4 (by decide) H
 have hl := zo_16.len
 generalize zgz (2 ^ 4) 4 = Z at *
 unfold resV at h
 dsimp only at h
 rw [hl] at h
 exact h
theorem Well.lb {n : Nat} {L P : List Int} (w : Well n L P) : LbOk L := by
 refine ⟨w.l, fun x hx => ?_⟩
 obtain ⟨i, hi, rfl⟩ := List.getElem_of_mem hx
 have := (w.ok i (by rw [← w.l]; exact hi)).1
 rw [List.getD_eq_getElem?_getD, List.getElem?_eq_getElem hi] at this
 exact this
theorem parts_0 (Z : List Int) (n : Nat) (L P : List Int) : (partsT Z n L P n)[0]? = some (labP L) := rfl
theorem parts_k (Z : List Int) {n k : Nat} (L P : List Int) (hk : k < n) : (partsT Z n L P n)[k + 1]? = some (bandP Z (bandL n P k)) := by
 unfold partsT
 rw [List.getElem?_cons_succ, fnL_get _ hk]
structure Semi (n : Nat) (L P : List Int) : Prop where
 lb : LbOk L
 p : P.length = 256 * n
 band : ∀ k, k < n → BOk (bandL n P k)
theorem Well.semi {n : Nat} {L P : List Int} (w : Well n L P) : Semi n L P := ⟨w.lb, w.p, fun k hk => w.band hk⟩
theorem Semi.lab {n : Nat} {L P : List Int} (w : Semi n L P) : I64L L := fun x hx => by have := w.lb.bd x hx; omega
theorem Semi.parts {Z : List Int} (hz : ZO Z) {n : Nat} {L P : List Int} (w : Semi n L P) : ∀ p ∈ partsT Z n L P n, p.length ≤ 90000 := fun p hp => by
 unfold partsT at hp
 rcases List.mem_cons.1 hp with rfl | hp
 ·have := labP_len w.lab (by rw [w.lb.len]; omega); omega
 ·unfold fnL at hp
  obtain ⟨j, hj, rfl⟩ := List.mem_map.1 hp
  rw [List.mem_range] at hj
  have := bandP_len hz (w.band j hj); omega
section
variable {Z : List Int} (hz : ZO Z) (hzig : Zg Z) {n : Nat} (hn : 1 ≤ n ∧ n ≤ 4) {L P : List Int} (w : Semi n L P) (H : AH)
include hz hn w
theorem split_t : ACall Tryz.prog 38 [.cs (u8s (packT Z n L P)) (packT Z n L P).length] H (fun y H' => y = .tup [.cs (pvL (partsT Z n L P n)) (n + 1), .int .i64 0] ∧ H' = H) := by
 have := split_ok (partsT Z n L P n) (by rw [partsT_len]; omega) (by rw [partsT_len]; omega) (w.parts hz) H
 rw [partsT_len] at this
 exact this
set_option maxRecDepth 8000 in
theorem Labels_t : ACall Tryz.prog 11 [.cs (u8s (packT Z n L P)) (packT Z n L P).length] H (fun y H' => y = .tup [.cs (iS .i64 L) 256, .int .i64 0] ∧ H' = H) := by
 have sc := fun H => split_t hz hn w H
 have lc := fun H => labels_ok L w.lb H
 have g0 : (pvL (partsT Z n L P n))[(0 : Int).toNat]? = some (.cs (u8s (labP L)) (labP L).length) := pvL_get (parts_0 Z n L P)
 have lp : (pvL (partsT Z n L P n)).length = n + 1 := by rw [pvL_len, partsT_len]
 generalize pvL (partsT Z n L P n) = R at *
 generalize packT Z n L P = B at *
 refine zQ zU (dok _) Tryz.func11 rfl (by decide) rfl ?_
 (repeat' ((conv => whnf); first | refine Then.mk ?_ | left | refine zg ?_ (sc _) | refine zg ?_ (lc _) | refine zgg ?_ (sc _) | refine zgg ?_ (lc _) | refine zd ?_ | (refine Both.mk ?_ ?_ <;> intro hc <;> try exact wX hc) | (intro c hc; (try (simp only [AH.zA] at hc; repeat (have hn := hc.1; replace hc := hc.2)))) | (refine ACall.to (sc _) ?_) | (refine ACall.to (lc _) ?_))) <;> (try (conv => whnf))
include hzig
set_option maxRecDepth 8000 in
theorem one_t {k : Nat} (hk : k < n) : ACall Tryz.prog 44 [.cs (u8s (packT Z n L P)) (packT Z n L P).length, .int .i64 k] H (fun y H' => y = .tup [.cs (iS .i64 (coefL (bandL n P k))) 256, .cs (iS .i64 (bandL n P k)) 256, .int .i64 0] ∧ H' = H) := by
 have sc := fun H => split_t hz hn w H
 have bc := fun H => band_ok hz hzig (bandL n P k) (w.band k hk) H
 have g0 : (pvL (partsT Z n L P n))[((k : Int) + 1).toNat]? = some (.cs (u8s (bandP Z (bandL n P k))) (bandP Z (bandL n P k)).length) := pvL_get (by rw [show ((k : Int) + 1).toNat = k + 1 by omega]; exact parts_k Z L P hk)
 have lp : (pvL (partsT Z n L P n)).length = n + 1 := by rw [pvL_len, partsT_len]
 generalize pvL (partsT Z n L P n) = R at *
 generalize packT Z n L P = B at *
 refine zQ zU (dok _) Tryz.func44 rfl (by decide) rfl ?_
 (repeat' ((conv => whnf); first | refine Then.mk ?_ | left | refine zg ?_ (sc _) | refine zg ?_ (bc _) | refine zgg ?_ (sc _) | refine zgg ?_ (bc _) | refine zd ?_ | (refine Both.mk ?_ ?_ <;> intro hc <;> try exact wX hc) | (intro c hc; (try (simp only [AH.zA] at hc; repeat (have hn := hc.1; replace hc := hc.2)))) | (refine ACall.to (sc _) ?_) | (refine ACall.to (bc _) ?_))) <;> (try (conv => whnf))
set_option maxRecDepth 8000 in
theorem Band_t {k : Nat} (hk : k < n) : ACall Tryz.prog 14 [.cs (u8s (packT Z n L P)) (packT Z n L P).length, .int .i64 k] H (fun y H' => y = .tup [.cs (iS .i64 (bandL n P k)) 256, .int .i64 0] ∧ H' = H) := by
 have oc := fun H => one_t hz hzig hn w H hk
 generalize packT Z n L P = B at *
 refine zQ zU (dok _) Tryz.func14 rfl (by decide) rfl ?_
 (repeat' ((conv => whnf); first | refine Then.mk ?_ | left | refine zg ?_ (oc _) | refine zgg ?_ (oc _) | refine zd ?_ | (refine Both.mk ?_ ?_ <;> intro hc <;> try exact wX hc) | (intro c hc; (try (simp only [AH.zA] at hc; repeat (have hn := hc.1; replace hc := hc.2)))) | (refine ACall.to (oc _) ?_))) <;> (try (conv => whnf))
set_option maxRecDepth 8000 in
theorem Thumb_t {k : Nat} (hk : k < n) (t : Int) (ht : J64 t) : ACall Tryz.prog 57 [.cs (u8s (packT Z n L P)) (packT Z n L P).length, .int .i64 k, .int .i64 t] H (fun y H' => y = resV (lowR 16 (coefL (bandL n P k)) t) ∧ H' = H) := by
 have oc := fun H => one_t hz hzig hn w H hk
 have lc := fun H => Low_c 16 (by decide) (by decide) (coefL (bandL n P k)) (by rw [coefL_len]; omega) t ht.1 ht.2 H
 rw [coefL_len] at lc
 unfold resV at lc ⊢
 generalize packT Z n L P = B at *
 generalize (lowR 16 (coefL (bandL n P k)) t).1 = X at *
 generalize (lowR 16 (coefL (bandL n P k)) t).2 = e at *
 refine zQ zU (dok _) Tryz.func57 rfl (by decide) rfl ?_
 (repeat' ((conv => whnf); first | refine Then.mk ?_ | left | refine zg ?_ (oc _) | refine zg ?_ (lc _) | refine zgg ?_ (oc _) | refine zgg ?_ (lc _) | refine zd ?_ | (refine Both.mk ?_ ?_ <;> intro hc <;> try exact wX hc) | (intro c hc; (try (simp only [AH.zA] at hc; repeat (have hn := hc.1; replace hc := hc.2)))) | (refine ACall.to (oc _) ?_) | (refine ACall.to (lc _) ?_))) <;> (try (conv => whnf))
end
end Go.Proofs.YtgpfmojlgejnhaaGreat
/- codec.Parts of bytes that have parts. -/
namespace Go.Fw
open Go.RowKit
theorem ACall.coldS {P : Program} {g : FuncId} {args : List AV} {H : AH} {K : AV → Prop}
    (h : ACall P g args H fun y H' => ∃ r v es n cells e, H r = none ∧ cells.length = n * es ∧ y = .tup [.sl r v es 0 n none, .int .i64 e] ∧ HLe (H.set r (.row cells v)) H' ∧ K (.tup [.cs cells n, .int .i64 e])) :
    ACall P g args H fun y H' => K y ∧ H' = H := by
  refine ⟨h.ent, fun κ F B w0 w cargs hI hA => (h.run κ F B w0 w cargs hI hA).mono ?_⟩
  rintro e w' ⟨x, he, y, H', κ', F', k1, k2, I, hv, r, v, es, n, cells, e', hr, hl, rfl, hle, hK⟩
  have I := I.less hle.le
  obtain ⟨F1, hF1, I1, ha1⟩ := I.coolAll (r := r) (v := v) (cells := cells) (AH.zC _ _ _)
  rw [AH.del_set _ _ _ hr] at I1
  refine ⟨x, he, _, H, κ', F1, k1, k2.trans hF1, I1, ?_, hK, rfl⟩
  cases hv with
  | tup hsz hi =>
    refine .tup hsz fun i hi' => ?_
    match i, hi' with
    | 0, _ => exact ha1 _ _ _ _ _ hl (hi 0 (by simp))
    | 1, _ => have := hi 1 (by simp); simp only [List.getElem_cons_succ, List.getElem_cons_zero] at this ⊢; generalize Array.getD _ _ _ = x3 at this ⊢; cases this; exact .int _ _
end Go.Fw
namespace Go.Proofs.YtgpfmojlgejnhaaGreat
open Go.Fw Go
set_option linter.unusedVariables false
set_option linter.unusedSimpArgs false
def endP (ps : List (List UInt8)) (i : Nat) : Nat := (encI ((ps.length : Int) - 1)).length + (encRs (ps.take (i + 1))).length
def placeP (ps : List (List UInt8)) (i : Nat) : Int × Int := ((endP ps i : Int) - ((ps.getD i []).length : Int), ((ps.getD i []).length : Int))
def placesP (ps : List (List UInt8)) (k : Nat) : List (Int × Int) := fnL ps.length fun i => if ps.length - k ≤ i then placeP ps i else (0, 0)
theorem placesP_len (ps : List (List UInt8)) (k : Nat) : (placesP ps k).length = ps.length := fnL_len _ _
theorem placesP_step (ps : List (List UInt8)) {k : Nat} (hk : k < ps.length) : (placesP ps k).set (ps.length - 1 - k) (placeP ps (ps.length - 1 - k)) = placesP ps (k + 1) := by
 unfold placesP
 rw [fnL_set]
 refine fnL_congr fun i hi => ?_
 by_cases e : i = ps.length - 1 - k
 ·rw [if_pos e, if_pos (by omega), e]
 ·rw [if_neg e]
  by_cases e2 : ps.length - k ≤ i
  ·rw [if_pos e2, if_pos (by omega)]
  ·rw [if_neg e2, if_neg (by omega)]
set_option maxRecDepth 8000 in
set_option maxHeartbeats 4000000 in
theorem pplace_c (ps : List (List UInt8)) (hl : ps.length ≤ 9) (hp : ∀ p ∈ ps, p.length ≤ 90000) (i : Nat) (hi : i < ps.length) (E : Nat) (hE1 : (encR (ps.getD i [])).length ≤ E) (hE : E ≤ 1000000) (c q v : Nat) (R : List AV) (hR : R.length = ps.length * 2) (H : AH)
  (hc1 : H c = some (.row [.int .i64 E] 0)) (hq1 : H q = some (.row R v)) (hcq : c ≠ q) :
  ACall Tryz.prog 39 [.int .i64 i, .cp [.cs (pvL ps) ps.length], .ptr c 0 0, .cp [.sl q v 2 0 ps.length none]] H
   (fun y H' => y = .tup [] ∧ H' = (H.set q (.row (wrA R (i * 2) [.int .i64 ((E : Int) - ((ps.getD i []).length : Int)), .int .i64 (ps.getD i []).length]) v)).set c (.row [.int .i64 (E - (encR (ps.getD i [])).length : Nat)] 0)) := by
 obtain ⟨x, hx⟩ : ∃ x, ps[i]? = some x := ⟨_, List.getElem?_eq_getElem hi⟩
 have hxe : ps.getD i [] = x := by rw [List.getD_eq_getElem?_getD, hx]; rfl
 have hxl := hp x (List.mem_of_getElem? hx)
 have gp : (pvL ps)[(i : Int).toNat]? = some (.cs (u8s x) x.length) := pvL_get hx
 have lp := pvL_len ps
 have hel := encR_len (b := x) (by omega)
 have hel2 : x.length ≤ (encR x).length := by unfold encR; rw [List.length_append]; omega
 rw [hxe] at hE1 ⊢
 refine ACall.told ?_
 refine zQ zU (dok _) Tryz.func39 rfl (by decide) rfl ?_
 (repeat' ((conv => whnf); first | left | refine zd ?_ | (refine Both.mk ?_ ?_ <;> intro hc <;> try exact wX hc) | (intro c hc; (try (simp only [AH.zA] at hc; repeat (have hn := hc.1; replace hc := hc.2)))))) <;> (try (conv => whnf))
 refine Then.mk ?_
 (repeat' ((conv => whnf); first | left | refine zd ?_ | (refine Both.mk ?_ ?_ <;> intro hc <;> try exact wX hc) | (intro c hc; (try (simp only [AH.zA] at hc; repeat (have hn := hc.1; replace hc := hc.2)))))) <;> (try (conv => whnf))
 rw [show 0 + (i : Int).toNat * 2 = i * 2 by omega]
 have h1c : (AH.set H q (.row (wrA R (i * 2) [.int .i64 ((E : Int) - (x.length : Int)), .int .i64 x.length]) v)) c = some (.row [.int .i64 E] 0) := by rw [AH.zR _ _ hcq]; exact hc1
 generalize hH1 : AH.set H q (.row (wrA R (i * 2) [.int .i64 ((E : Int) - (x.length : Int)), .int .i64 x.length]) v) = H1 at *
 refine Then.mk ?_
 (repeat' ((conv => whnf); first | left | refine zd ?_ | (refine Both.mk ?_ ?_ <;> intro hc <;> try exact wX hc) | (intro c hc; (try (simp only [AH.zA] at hc; repeat (have hn := hc.1; replace hc := hc.2)))))) <;> (try (conv => whnf))
 (obtain ⟨w, hq_⟩ : ∃ w, w = c := ⟨_, rfl⟩); subst hq_
 have hcc : H1 w = none := hc
 refine Then.mk (AWq.in ?_)
 refine AWp_writer hcc fun r hcr hr => ?_
 have hle : ∀ v bs, HLe H1 (WrH H1 w r v bs) := fun v bs => HLe.set_of _ _ (HLe.set_of _ _ (HLe.refl _) hcc) hr
 have hcw : c ≠ w := fun h => by rw [h, hcc] at h1c; cases h1c
 have hcr2 : c ≠ r := fun h => by rw [h, hr] at h1c; cases h1c
 have w1 := wRaw_c w r 0 [] x (by omega) (by simp) H1 hcr
 rw [List.nil_append] at w1
 refine AWp.of zU (dok _) rfl ?_
 generalize hG : WrH H1 w r 0 [] = G at *
 (repeat' ((conv => whnf); first | refine Then.mk ?_ | left | refine zd ?_ | (refine Both.mk ?_ ?_ <;> intro hc <;> try exact wX hc) | (intro c hc; (try (simp only [AH.zA] at hc; repeat (have hn := hc.1; replace hc := hc.2)))))) <;> (try (conv => whnf))
 refine w1.mono ?_
 rintro y H' ⟨rfl, v1, rfl⟩
 have gc : WrH H1 w r v1 (encR x) c = some (.row [.int .i64 E] 0) := by unfold WrH; rw [AH.zR _ _ hcr2, AH.zR _ _ hcw]; exact h1c
 have w2 := wDone_c w r v1 (encR x) (by omega) H1 hcr
 have hle := hle v1 (encR x)
 have e1 : IntKind.i64.wrap ((E : Int) - ((encR x).length : Int)) = ((E - (encR x).length : Nat) : Int) := by rw [IntKind.wrap_i64]; omega
 generalize WrH H1 w r v1 (encR x) = G1 at *
 generalize (encR x).length = m at *
 (repeat' ((conv => whnf); first | refine Then.mk ?_ | left | refine zg ?_ (w2) | refine zgg ?_ (w2) | refine zd ?_ | (refine Both.mk ?_ ?_ <;> intro hc <;> try exact wX hc) | (intro c hc; (try (simp only [AH.zA] at hc; repeat (have hn := hc.1; replace hc := hc.2)))) | (refine ACall.to (w2) ?_))) <;> (try (conv => whnf))
 exact ⟨_, _, AVle.refl _, HLe.set hle _ _, rfl, rfl⟩
set_option maxRecDepth 8000 in
set_option maxHeartbeats 4000000 in
theorem Parts_ok (ps : List (List UInt8)) (h1 : 2 ≤ ps.length) (h2 : ps.length ≤ 5) (hp : ∀ p ∈ ps, p.length ≤ 90000) (H : AH) :
  ACall Tryz.prog 10 [.cs (u8s (joinP ps)) (joinP ps).length] H (fun y H' => y = .tup [.cs (prL (placesP ps ps.length)) ps.length, .int .i64 0] ∧ H' = H) := by
 have sc := fun H => split_ok ps h1 h2 hp H
 have hjl := joinP_len (by omega) hp
 have hzero : (List.replicate ps.length [AV.int .i64 0, AV.int .i64 0]).flatten = prL (placesP ps 0) := by
  have e : placesP ps 0 = List.replicate ps.length (0, 0) := by
   unfold placesP
   rw [fnL_rep]
   exact fnL_congr fun i hi => if_neg (by omega)
  rw [e]
  exact fL_rep prA (0, 0) ps.length
 refine ACall.coldS ?_
 refine zQ zU (dok _) Tryz.func10 rfl (by decide) rfl ?_
 (repeat' ((conv => whnf); first | left | refine zd ?_ | (refine Both.mk ?_ ?_ <;> intro hc <;> try exact wX hc) | (intro c hc; (try (simp only [AH.zA] at hc; repeat (have hn := hc.1; replace hc := hc.2)))))) <;> (try (conv => whnf))
 refine Then.mk ?_
 (repeat' ((conv => whnf); first | left | refine zg ?_ (sc _) | refine zgg ?_ (sc _) | refine zd ?_ | (refine Both.mk ?_ ?_ <;> intro hc <;> try exact wX hc) | (intro c hc; (try (simp only [AH.zA] at hc; repeat (have hn := hc.1; replace hc := hc.2)))) | (refine ACall.to (sc _) ?_))) <;> (try (conv => whnf))
 refine Then.mk (AWq.in ?_)
 refine AWp_segP 4 [.cs (pvL ps) ps.length] rfl rfl (by assumption) rfl rfl ?_
 refine AWp.of zU (dok _) rfl ?_
 (repeat' ((conv => whnf); first | left | refine zd ?_ | (refine Both.mk ?_ ?_ <;> intro hc <;> try exact wX hc) | (intro c hc; (try (simp only [AH.zA] at hc; repeat (have hn := hc.1; replace hc := hc.2)))))) <;> (try (conv => whnf))
 refine Then.mk ?_
 (repeat' ((conv => whnf); first | left | refine zd ?_ | (refine Both.mk ?_ ?_ <;> intro hc <;> try exact wX hc) | (intro c hc; (try (simp only [AH.zA] at hc; repeat (have hn := hc.1; replace hc := hc.2)))))) <;> (try (conv => whnf))
 refine Then.mk ?_
 (repeat' ((conv => whnf); first | left | refine zd ?_ | (refine Both.mk ?_ ?_ <;> intro hc <;> try exact wX hc) | (intro c hc; (try (simp only [AH.zA] at hc; repeat (have hn := hc.1; replace hc := hc.2)))))) <;> (try (conv => whnf))
 rename_i q hq
 have hqc : ∀ o, (AH.set H q o) c = none := fun o => by rw [AH.zR _ _ hn]; exact hc
 rw [Int.toNat_natCast, hzero]
 refine Then.mk (AWq.in ?_)
 refine AWp_segP 6 [.sl q 0 2 0 ps.length none] rfl rfl (hqc _) rfl rfl ?_
 clear hn hqc hc
 refine AWp.of zU (dok _) rfl ?_
 (repeat' ((conv => whnf); first | left | refine zd ?_ | (refine Both.mk ?_ ?_ <;> intro hc <;> try exact wX hc) | (intro c hc; (try (simp only [AH.zA] at hc; repeat (have hn := hc.1; replace hc := hc.2)))))) <;> (try (conv => whnf))
 (obtain ⟨d, hq_⟩ : ∃ d, d = c := ⟨_, rfl⟩); subst hq_
 have hqd : d ≠ q := hn
 have hd : H d = none := hc
 refine Then.mk ?_
 obtain ⟨N, hN⟩ : ∃ N, N = ps.length := ⟨_, rfl⟩
 have hE0 : ((joinP ps).length : Int) = ((encI ((ps.length : Int) - 1)).length + (encRs (ps.take (ps.length - 0))).length : Nat) := by
  rw [Nat.sub_zero, List.take_length]; unfold joinP; rw [List.length_append]
 (repeat' ((conv => whnf); first | refine Then.mk ?_ | left | refine zd ?_ | (refine Both.mk ?_ ?_ <;> intro hc <;> try exact wX hc) | (intro c hc; (try (simp only [AH.zA] at hc; repeat (have hn := hc.1; replace hc := hc.2)))))) <;> (try (conv => whnf))
 refine zT (σ := Nat) (9 :: 26 :: 27 :: 28 :: 29 :: 30 :: 31 :: 32 :: 33 :: 34 :: 35 :: 36 :: []) (fun k => [(26, .int .i64 k)]) (fun k => (AH.set H q (.row (prL (placesP ps k)) 0)).set d (.row [.int .i64 ((encI ((ps.length : Int) - 1)).length + (encRs (ps.take (ps.length - k))).length : Nat)] 0)) (fun k => k ≤ ps.length) (fun k => ps.length - k) 0 rfl (Nat.zero_le _) ⟨rfl, trivial⟩ (HLe.of_eq (by rw [← hE0, AH.zS]; rfl)) ?_
 intro k hk
 refine AWp.of zU (dok _) rfl ?_
 dsimp only at hk ⊢
 have gd := AH.zC (AH.set H q (.row (prL (placesP ps k)) 0)) d (.row [.int .i64 ((encI ((ps.length : Int) - 1)).length + (encRs (ps.take (ps.length - k))).length : Nat)] 0)
 have gq : (AH.set (AH.set H q (.row (prL (placesP ps k)) 0)) d (.row [.int .i64 ((encI ((ps.length : Int) - 1)).length + (encRs (ps.take (ps.length - k))).length : Nat)] 0)) q = some (.row (prL (placesP ps k)) 0) := by rw [AH.zR _ _ (Ne.symm hqd), AH.zC]
 have lq : (prL (placesP ps k)).length = ps.length * 2 := by rw [prL_len, placesP_len]
 by_cases hkt : k < ps.length
 ·obtain ⟨i, hi⟩ : ∃ i, i = ps.length - 1 - k := ⟨_, rfl⟩
  have hil : i < ps.length := by omega
  obtain ⟨x, hx⟩ : ∃ x, ps[i]? = some x := ⟨_, List.getElem?_eq_getElem hil⟩
  have hxe : ps.getD i [] = x := by rw [List.getD_eq_getElem?_getD, hx]; rfl
  have hlen1 : (encRs (ps.take (ps.length - k))).length = (encRs (ps.take (ps.length - (k + 1)))).length + (encR x).length := by
   rw [show ps.length - k = i + 1 by omega, show ps.length - (k + 1) = i by omega, take_snoc hx, encRs_snoc, List.length_append]
  have hjl2 : (encI ((ps.length : Int) - 1)).length + (encRs (ps.take (ps.length - k))).length ≤ 820000 := by
   have e1 : encRs ps = encRs (ps.take (ps.length - k)) ++ encRs (ps.drop (ps.length - k)) := by unfold encRs; rw [← List.flatMap_append, List.take_append_drop]
   have : (joinP ps).length = (encI ((ps.length : Int) - 1)).length + (encRs ps).length := by unfold joinP; rw [List.length_append]
   rw [e1, List.length_append] at this; omega
  have pc := pplace_c ps (by omega) hp i hil ((encI ((ps.length : Int) - 1)).length + (encRs (ps.take (ps.length - k))).length) (by rw [hxe]; omega) (by omega) d q 0 (prL (placesP ps k)) lq _ gd gq hqd
  have hst : (AH.set H q (.row (prL (placesP ps (k + 1))) 0)).set d (.row [.int .i64 ((encI ((ps.length : Int) - 1)).length + (encRs (ps.take (ps.length - (k + 1)))).length : Nat)] 0) =
    (((AH.set H q (.row (prL (placesP ps k)) 0)).set d (.row [.int .i64 ((encI ((ps.length : Int) - 1)).length + (encRs (ps.take (ps.length - k))).length : Nat)] 0)).set q (.row (wrA (prL (placesP ps k)) (i * 2) [.int .i64 ((((encI ((ps.length : Int) - 1)).length + (encRs (ps.take (ps.length - k))).length : Nat) : Int) - ((ps.getD i []).length : Int)), .int .i64 (ps.getD i []).length]) 0)).set d (.row [.int .i64 ((encI ((ps.length : Int) - 1)).length + (encRs (ps.take (ps.length - k))).length - (encR (ps.getD i [])).length : Nat)] 0) := by
   have hpl : endP ps i = (encI ((ps.length : Int) - 1)).length + (encRs (ps.take (ps.length - k))).length := by
    unfold endP; rw [show i + 1 = ps.length - k by omega]
   have hw : wrA (prL (placesP ps k)) (i * 2) [.int .i64 ((((encI ((ps.length : Int) - 1)).length + (encRs (ps.take (ps.length - k))).length : Nat) : Int) - ((ps.getD i []).length : Int)), .int .i64 (ps.getD i []).length] = prL (placesP ps (k + 1)) := by
    have h3 := fL_wr (f := prA) (k := 2) prA_len (l := placesP ps k) (i := i) (by rw [placesP_len]; exact hil) (b := placeP ps i)
    unfold prL
    rw [← placesP_step ps hkt, ← hi, ← h3]
    unfold prA placeP
    rw [hpl]
   rw [hw, hxe, show (encI ((ps.length : Int) - 1)).length + (encRs (ps.take (ps.length - k))).length - (encR x).length = (encI ((ps.length : Int) - 1)).length + (encRs (ps.take (ps.length - (k + 1)))).length by omega]
   have hdq := Ne.symm hqd
   ((funext s; simp only [AH.set, AH.del]; repeat' split) <;> (first | rfl | (exfalso; omega)))
  rw [show ((i : Nat) : Int) = (ps.length : Int) - 1 - k by omega] at pc
  generalize hGk : (AH.set H q (.row (prL (placesP ps k)) 0)).set d (.row [.int .i64 ((encI ((ps.length : Int) - 1)).length + (encRs (ps.take (ps.length - k))).length : Nat)] 0) = Gk at *
  (repeat' ((conv => whnf); first | refine Then.mk ?_ | left | refine zg ?_ (pc) | refine zgg ?_ (pc) | refine zd ?_ | (refine Both.mk ?_ ?_ <;> intro hc <;> try exact wX hc) | (intro c hc; (try (simp only [AH.zA] at hc; repeat (have hn := hc.1; replace hc := hc.2)))) | (refine ACall.to (pc) ?_))) <;> (try (conv => whnf))
  exact ⟨k + 1, hkt, by omega, ⟨congrArg (AV.int .i64) (by omega), trivial⟩, HLe.of_eq hst⟩
 ·have hke : k = ps.length := by omega
  subst hke
  have hle : HLe (AH.set H q (.row (prL (placesP ps ps.length)) 0)) ((AH.set H q (.row (prL (placesP ps ps.length)) 0)).set d (.row [.int .i64 ((encI ((ps.length : Int) - 1)).length + (encRs (ps.take (ps.length - ps.length))).length : Nat)] 0)) := HLe.fresh _ (by rw [AH.zR _ _ hqd]; exact hd)
  generalize (AH.set H q (.row (prL (placesP ps ps.length)) 0)).set d (.row [.int .i64 ((encI ((ps.length : Int) - 1)).length + (encRs (ps.take (ps.length - ps.length))).length : Nat)] 0) = Gk at *
  (repeat' ((conv => whnf); first | refine Then.mk ?_ | left | refine zd ?_ | (refine Both.mk ?_ ?_ <;> intro hc <;> try exact wX hc) | (intro c hc; (try (simp only [AH.zA] at hc; repeat (have hn := hc.1; replace hc := hc.2)))))) <;> (try (conv => whnf))
  exact ⟨q, 0, 2, ps.length, _, 0, hq, lq, rfl, hle, rfl⟩
theorem Parts_t {Z : List Int} (hz : ZO Z) {n : Nat} (hn : 1 ≤ n ∧ n ≤ 4) {L P : List Int} (w : Well n L P) (H : AH) :
  ACall Tryz.prog 10 [.cs (u8s (packT Z n L P)) (packT Z n L P).length] H (fun y H' => y = .tup [.cs (prL (placesP (partsT Z n L P n) (n + 1))) (n + 1), .int .i64 0] ∧ H' = H) := by
 have := Parts_ok (partsT Z n L P n) (by rw [partsT_len]; omega) (by rw [partsT_len]; omega) (parts_le hz w (Nat.le_refl _)) H
 rw [partsT_len] at this
 exact this
open Go.Fw Go
def stpM (k : Nat) (M : Mat) : Mat := colsM spl (2 ^ (k + 1)) (rowsM spl (2 ^ (k + 1)) M)
def lowM : Nat → Mat → Mat
 | 0, M => M
 | d + 1, M => stpM (3 - d) (lowM d M)
theorem fwd_low (M : Mat) {j : Nat} (hj : j ≤ 4) : fwd 4 M = fwd j (lowM (4 - j) M) := by
 rcases (show j = 0 ∨ j = 1 ∨ j = 2 ∨ j = 3 ∨ j = 4 by omega) with rfl | rfl | rfl | rfl | rfl <;> rfl
theorem joi_congr {n : Nat} {x y : Ln} (hn : n % 2 = 0) (h : ∀ c, c < n → x c = y c) (c : Nat) (hc : c < n) : joi n x c = joi n y c := by
 unfold joi
 rw [h (c / 2) (by omega), h (n / 2 + c / 2) (by omega)]
theorem inv_congr : ∀ (k : Nat) (X Y : Mat), (∀ r c, r < 2 ^ k → c < 2 ^ k → X r c = Y r c) → ∀ r c, r < 2 ^ k → c < 2 ^ k → inv k X r c = inv k Y r c
 | 0, X, Y, h, r, c, hr, hc => h r c hr hc
 | k + 1, X, Y, h, r, c, hr, hc => by
  have hp := pow_half k
  have hin : ∀ r c, r < 2 ^ (k + 1) → c < 2 ^ (k + 1) → inv k X r c = inv k Y r c := fun r c hr hc => by
   by_cases hh : r < 2 ^ k ∧ c < 2 ^ k
   ·exact inv_congr k X Y (fun r c hr hc => h r c (by omega) (by omega)) r c hh.1 hh.2
   ·rw [inv_out k X r c hh, inv_out k Y r c hh, h r c hr hc]
  have hcol : ∀ r c, r < 2 ^ (k + 1) → c < 2 ^ (k + 1) → colsM joi (2 ^ (k + 1)) (inv k X) r c = colsM joi (2 ^ (k + 1)) (inv k Y) r c := fun r c hr hc => by
   unfold colsM
   rw [if_pos ⟨hr, hc⟩, if_pos ⟨hr, hc⟩]
   exact joi_congr (by omega) (fun i hi => hin i c hi hc) r hr
  show rowsM joi _ (colsM joi _ (inv k X)) r c = rowsM joi _ (colsM joi _ (inv k Y)) r c
  unfold rowsM
  rw [if_pos ⟨hr, hc⟩, if_pos ⟨hr, hc⟩]
  exact joi_congr (by omega) (fun i hi => hcol r i hr hi) c hc
theorem toL_same {s : Nat} {X Y : Mat} (h : ∀ r c, r < s → c < s → X r c = Y r c) : toL s X = toL s Y := by
 unfold toL
 refine List.map_congr_left fun p hp => ?_
 rw [List.mem_range] at hp
 have hs : 0 < s := Nat.pos_of_ne_zero fun h0 => by rw [h0] at hp; omega
 exact h _ _ (Nat.div_lt_of_lt_mul hp) (Nat.mod_lt _ hs)
theorem low_eq {a : List Int} (h : BOk a) {j : Nat} (hj : j ≤ 4) : lowR 16 (coefL a) ((2 ^ j : Nat) : Int) = (toL (2 ^ j) (lowM (4 - j) (ofL (2 ^ 4) a)), 0) := by
 have hs := pow_side hj
 have h16 : IsSide 16 := (pow_side (k := 4) (by decide)).1
 have hX : ofL 16 (coefL a) = fwd 4 (ofL (2 ^ 4) a) := fwd_ofL 4 a
 have hbS := inB_bnd (by omega) h.inC 16
 have hin : inB 4398046511104 (toL (2 ^ j) (ofL 16 (coefL a))) = true := inB_toL fun r c hr hc => hbS r c (by omega) (by omega)
 have hlog : Nat.log2 (2 ^ j) = j := by
  rcases (show j = 0 ∨ j = 1 ∨ j = 2 ∨ j = 3 ∨ j = 4 by omega) with rfl | rfl | rfl | rfl | rfl <;> decide
 unfold lowR
 rw [if_pos ⟨h16, hs.1, by omega, by rw [coefL_len]; rfl⟩, Int.toNat_natCast]
 show sqR 4398046511104 inv ((2 ^ j : Nat) : Int) (toL (2 ^ j) (ofL 16 (coefL a))) = _
 unfold sqR
 rw [if_pos ⟨hs.1, by rw [toL_len, Int.natCast_mul]⟩, if_pos hin, Int.toNat_natCast, hlog]
 refine congrArg (fun l => (l, (0 : Int))) ?_
 have e1 : ∀ r c, r < 2 ^ j → c < 2 ^ j → ofL (2 ^ j) (toL (2 ^ j) (ofL 16 (coefL a))) r c = fwd 4 (ofL (2 ^ 4) a) r c := fun r c hr hc => by
  show (if r < 2 ^ j ∧ c < 2 ^ j then (toL (2 ^ j) (ofL 16 (coefL a))).getD (r * 2 ^ j + c) 0 else 0) = _
  rw [if_pos ⟨hr, hc⟩, toL_getD _ hr hc, hX]
 rw [toL_same fun r c hr hc => inv_congr j _ _ e1 r c hr hc, fwd_low _ hj, inv_fwd]
theorem stp_at {k : Nat} (M : Mat) {r c : Nat} (hr : r < 2 ^ k) (hc : c < 2 ^ k) : stpM k M r c = ((M (2 * r) (2 * c) + M (2 * r) (2 * c + 1)) / 2 + (M (2 * r + 1) (2 * c) + M (2 * r + 1) (2 * c + 1)) / 2) / 2 := by
 have hp := pow_half k
 have hrow : ∀ i, i < 2 ^ (k + 1) → rowsM spl (2 ^ (k + 1)) M i c = (M i (2 * c) + M i (2 * c + 1)) / 2 := fun i hi => by
  unfold rowsM
  rw [if_pos ⟨hi, by omega⟩]
  unfold spl
  rw [if_pos (by omega)]
 unfold stpM colsM
 rw [if_pos ⟨by omega, by omega⟩]
 show spl (2 ^ (k + 1)) (fun i => rowsM spl (2 ^ (k + 1)) M i c) r = _
 unfold spl
 rw [if_pos (by omega)]
 show (rowsM spl _ M (2 * r) c + rowsM spl _ M (2 * r + 1) c) / 2 = _
 rw [hrow (2 * r) (by omega), hrow (2 * r + 1) (by omega)]
theorem low_const {v : Int} {M : Mat} (h : ∀ r c, r < 16 → c < 16 → M r c = v) : ∀ d, d ≤ 4 → ∀ r c, r < 2 ^ (4 - d) → c < 2 ^ (4 - d) → lowM d M r c = v
 | 0, _, r, c, hr, hc => h r c hr hc
 | d + 1, hd, r, c, hr, hc => by
  have ih := low_const h d (by omega)
  have e : 4 - d = 3 - d + 1 := by omega
  rw [e, pow_half] at ih
  rw [show 4 - (d + 1) = 3 - d by omega] at hr hc
  show stpM (3 - d) (lowM d M) r c = v
  rw [stp_at _ hr hc, ih _ _ (by omega) (by omega), ih _ _ (by omega) (by omega), ih _ _ (by omega) (by omega), ih _ _ (by omega) (by omega)]
  omega
theorem low_same {v : Int} (hv : 0 ≤ v ∧ v ≤ 65535) {j : Nat} (hj : j ≤ 4) : lowR 16 (coefL (fnL 256 fun _ => v)) ((2 ^ j : Nat) : Int) = (fnL (2 ^ j * 2 ^ j) fun _ => v, 0) := by
 have hb : BOk (fnL 256 fun _ => v) := ⟨fnL_len _ _, fun x hx => by
  unfold fnL at hx
  obtain ⟨i, hi, rfl⟩ := List.mem_map.1 hx
  exact hv⟩
 rw [low_eq hb hj]
 refine congrArg (fun l => (l, (0 : Int))) ?_
 have hM : ∀ r c, r < 16 → c < 16 → ofL (2 ^ 4) (fnL 256 fun _ => v) r c = v := fun r c hr hc => by
  unfold ofL
  rw [if_pos ⟨hr, hc⟩, List.getD_eq_getElem?_getD, fnL_get _ (by omega)]; rfl
 unfold toL fnL
 refine List.map_congr_left fun p hp => ?_
 rw [List.mem_range] at hp
 have hs : 0 < 2 ^ j := Nat.two_pow_pos j
 exact low_const hM (4 - j) (by omega) _ _ (by rw [show 4 - (4 - j) = j by omega]; exact Nat.div_lt_of_lt_mul hp) (by rw [show 4 - (4 - j) = j by omega]; exact Nat.mod_lt _ hs)
open Go.Fw Go
theorem empty_well : Well 1 emL (emP 1) := by
 refine ⟨emL_len, emP_len 1, fun j hj => ?_⟩
 have e1 : emL.getD j 0 = -1 := getD_fnL _ hj
 refine ⟨by rw [e1]; omega, fun k hk => ?_⟩
 have e2 : (emP 1).getD (j * 1 + k) 0 = 0 := getD_fnL _ (by omega)
 rw [e1, e2]
 exact ⟨by omega, fun _ => rfl⟩
theorem empty_band : bandL 1 (emP 1) 0 = fnL 256 fun _ => 0 := fnL_congr fun i hi => getD_fnL _ (by omega)
set_option maxRecDepth 8000 in
set_option maxHeartbeats 4000000 in
theorem lives26_c (H : AH) : ACall Tryz.prog 18 [] H (fun y H' => y = .bool true ∧ H' = H) := by
 obtain ⟨Z, hz, hzig⟩ := zg_ex
 have w := empty_well
 have em : ∀ H, ACall Tryz.prog 56 [.int .i64 1] H (fun y H' => y = .tup [.agg [.int .i64 1, .cs (iS .i64 emL) 256, .cs (iS .i64 (emP 1)) 256], .int .i64 0] ∧ H' = H) := fun H => by
  have := empty_c 1 (by decide) H
  have e : emV 1 = (tV 1 emL (emP 1), 0) := if_pos (by decide)
  rw [e] at this
  unfold tV at this
  rw [emL_len, emP_len] at this
  exact this
 have en := fun H => encode_ok hz hzig 1 (by decide) emL (emP 1) w H
 have lb := fun H => Labels_t hz (n := 1) (by decide) w.semi H
 have th := fun H => Thumb_t hz hzig (n := 1) (by decide) w.semi H (k := 0) (by decide) 1 (by decide)
 have hth : lowR 16 (coefL (bandL 1 (emP 1) 0)) 1 = (fnL 1 fun _ => 0, 0) := by rw [empty_band]; exact low_same (v := 0) (by decide) (j := 0) (by decide)
 rw [hth] at th
 unfold resV at th
 have pa := fun H => Parts_t hz (n := 1) (by decide) w H
 have si : ∀ H, ACall Tryz.prog 12 [.cs (iS .i64 (fnL 1 fun _ => 0)) 1, .cs [.int .i64 0] 1] H (fun y H' => y = .bool true ∧ H' = H) := fun H => by
  have := sameints_c [0] [0] (by decide) (by decide) H
  rw [decide_eq_true rfl] at this
  exact this
 have g0 : (iS .i64 emL)[(0 : Int).toNat]? = some (.int .i64 (-1)) := by rw [iS_get (by rw [emL_len]; decide)]; exact congrArg (fun z => some (AV.int .i64 z)) (getD_fnL _ (by decide))
 have g255 : (iS .i64 emL)[(255 : Int).toNat]? = some (.int .i64 (-1)) := by rw [iS_get (by rw [emL_len]; decide)]; exact congrArg (fun z => some (AV.int .i64 z)) (getD_fnL _ (by decide))
 have le : (iS .i64 emL).length = 256 := by rw [iS_length]; exact emL_len
 generalize packT Z 1 emL (emP 1) = B at *
 generalize prL (placesP (partsT Z 1 emL (emP 1) 1) (1 + 1)) = PL at *
 clear hth w
 generalize iS .i64 emL = RL at *
 generalize iS .i64 (emP 1) = RP at *
 refine zQ zU (dok _) Tryz.func18 rfl (by decide) rfl ?_
 (repeat' ((conv => whnf); first | (refine Then.mk (AWq.in ?_); refine AWp_segP 1 ([.int .i64 1, .cs RL 256, .cs RP 256]) rfl rfl (by assumption) (rfl) (rfl) ?_; refine AWp.of zU (dok _) rfl ?_) | refine Then.mk ?_ | left | refine zg ?_ (em _) | refine zg ?_ (en _) | refine zg ?_ (lb _) | refine zg ?_ (th _) | refine zg ?_ (pa _) | refine zg ?_ (si _) | refine zgg ?_ (em _) | refine zgg ?_ (en _) | refine zgg ?_ (lb _) | refine zgg ?_ (th _) | refine zgg ?_ (pa _) | refine zgg ?_ (si _) | refine zd ?_ | (refine Both.mk ?_ ?_ <;> intro hc <;> try exact wX hc) | (intro c hc; (try (simp only [AH.zA] at hc; repeat (have hn := hc.1; replace hc := hc.2)))) | (refine ACall.to (em _) ?_) | (refine ACall.to (en _) ?_) | (refine ACall.to (lb _) ?_) | (refine ACall.to (th _) ?_) | (refine ACall.to (pa _) ?_) | (refine ACall.to (si _) ?_))) <;> (try (conv => whnf))
open Go.Fw Go
theorem tile_well (l : List Int) {n : Nat} (hn : 1 ≤ n ∧ n ≤ 3) : Well n (fnL 256 (tlA l)) (fnL (256 * n) (tlB l n)) := by
 refine ⟨fnL_len _ _, fnL_len _ _, fun i hi => ?_⟩
 have hb := lblN_bd l 16 i
 rw [getD_fnL _ hi]
 refine ⟨by unfold tlA; omega, fun k hk => ?_⟩
 rw [getD_fnL _ hi, getD_fnL _ (row_lt hi hk), tlB_at l i hk]
 unfold vOk tlA tlQ
 split <;> omega
set_option maxRecDepth 8000 in
set_option maxHeartbeats 4000000 in
theorem Values_c (n k : Nat) (hk : k < n) (hn : n ≤ 4) (L P : List Int) (hP : P.length = 256 * n) (H : AH) :
  ACall Tryz.prog 16 [.agg [.int .i64 n, .cs (iS .i64 L) 256, .cs (iS .i64 P) (256 * n)], .int .i64 k] H (fun y H' => y = .cs (iS .i64 (bandL n P k)) 256 ∧ H' = H) := by
 have hPl : (iS .i64 P).length = 256 * n := by rw [iS_length, hP]
 have hbl := bandL_len n P k
 refine ACall.cold (es := 1) (by rw [iS_length, hbl]) ?_
 refine ACall.told ?_
 refine zQ zU (dok _) Tryz.func16 rfl (by decide) rfl ?_
 (repeat' ((conv => whnf); first | left | refine zd ?_ | (refine Both.mk ?_ ?_ <;> intro hc <;> try exact wX hc) | (intro c hc; (try (simp only [AH.zA] at hc; repeat (have hn := hc.1; replace hc := hc.2)))))) <;> (try (conv => whnf))
 refine Then.mk (AWq.in ?_)
 refine AWp_freezeP 2 rfl rfl (AH.zC _ _ _) ?_
 rw [AH.del_set _ _ _ (by assumption)]
 refine AWp.of zU (dok _) rfl ?_
 (repeat' ((conv => whnf); first | left | refine zd ?_ | (refine Both.mk ?_ ?_ <;> intro hc <;> try exact wX hc) | (intro c hc; (try (simp only [AH.zA] at hc; repeat (have hn := hc.1; replace hc := hc.2)))))) <;> (try (conv => whnf))
 refine Then.mk (AWq.in ?_)
 refine AWp_nilrow1 5 1 rfl rfl fun q hq => ?_
 refine AWp.of zU (dok _) rfl ?_
 (repeat' ((conv => whnf); first | refine Then.mk ?_ | left | refine zd ?_ | (refine Both.mk ?_ ?_ <;> intro hc <;> try exact wX hc) | (intro c hc; (try (simp only [AH.zA] at hc; repeat (have hn := hc.1; replace hc := hc.2)))))) <;> (try (conv => whnf))
 refine zT (σ := Nat) (5 :: 6 :: 8 :: 9 :: 10 :: 11 :: 12 :: 13 :: 14 :: 15 :: 16 :: 17 :: 18 :: 19 :: 20 :: 21 :: 22 :: 23 :: 24 :: []) (fun i => [(6, .int .i64 (i * n + k : Nat)), (5, .sl q i 1 0 i none)]) (fun i => H.set q (.row (iS .i64 ((bandL n P k).take i)) i)) (fun i => i ≤ 256) (fun i => 256 - i) 0 rfl (Nat.zero_le _) ⟨by rw [Nat.zero_mul, Nat.zero_add]; rfl, rfl, trivial⟩ (HLe.refl _) ?_
 intro i hi
 refine AWp.of zU (dok _) rfl ?_
 dsimp only at hi ⊢
 have gq := AH.zC H q (.row (iS .i64 ((bandL n P k).take i)) i)
 have lq : (iS .i64 ((bandL n P k).take i)).length = i := by rw [iS_length, List.length_take]; omega
 by_cases hit : i < 256
 ·have hin := row_lt (n := n) hit hk
  have gp : (iS .i64 P)[((i * n + k : Nat) : Int).toNat]? = some (.int .i64 (P.getD (i * n + k) 0)) := by rw [Int.toNat_natCast]; exact iS_get (by omega)
  have hbi : (bandL n P k).getD i 0 = P.getD (i * n + k) 0 := getD_fnL _ hit
  rw [← hbi] at gp
  have ht : iS .i64 ((bandL n P k).take (i + 1)) = iS .i64 ((bandL n P k).take i) ++ [.int .i64 ((bandL n P k).getD i 0)] := by
   rw [take_snoc (x := (bandL n P k).getD i 0) (by rw [List.getD_eq_getElem?_getD, List.getElem?_eq_getElem (by omega)]; rfl), ← iS_snoc]
  have hnx : ((((i + 1) * n + k : Nat)) : Int) = ((i * n + k : Nat) : Int) + n := by rw [Nat.add_mul, Nat.one_mul]; omega
  generalize (bandL n P k).getD i 0 = v at *
  generalize iS .i64 ((bandL n P k).take i) = R7 at *
  generalize hQ : i * n + k = Q at *
  have e1 : IntKind.i64.wrap ((Q : Int) + n) = (Q : Int) + n := by rw [IntKind.wrap_i64]; omega
  (repeat' ((conv => whnf); first | refine Then.mk ?_ | left | refine zd ?_ | (refine Both.mk ?_ ?_ <;> intro hc <;> try exact wX hc) | (intro c hc; (try (simp only [AH.zA] at hc; repeat (have hn := hc.1; replace hc := hc.2)))))) <;> (try (conv => whnf))
  exact ⟨i + 1, hit, by omega, ⟨by dsimp only; rw [hnx]; rfl, rfl, trivial⟩, HLe.of_eq (by rw [ht, AH.zS])⟩
 ·have hie : i = 256 := by omega
  subst hie
  rw [show (bandL n P k).take 256 = bandL n P k from List.take_of_length_le (by omega)] at gq lq ⊢
  (repeat' ((conv => whnf); first | refine Then.mk ?_ | left | refine zd ?_ | (refine Both.mk ?_ ?_ <;> intro hc <;> try exact wX hc) | (intro c hc; (try (simp only [AH.zA] at hc; repeat (have hn := hc.1; replace hc := hc.2)))))) <;> (try (conv => whnf))
  exact ⟨_, _, AVle.refl _, HLe.refl _, q, hq, 256, rfl, rfl⟩
theorem fwd_sq {a : List Int} (h : BOk a) : sqR 1099511627776 fwd 16 a = (coefL a, 0) := by
 have h16 : IsSide 16 := (pow_side (k := 4) (by decide)).1
 have hlog : Nat.log2 16 = 4 := by decide
 unfold sqR
 rw [if_pos ⟨h16, by rw [h.len]; rfl⟩, if_pos h.inA]
 show (toL 16 (fwd (Nat.log2 16) (ofL 16 a)), (0 : Int)) = _
 rw [hlog]; rfl
open Go.Fw Go
def dv : List Nat → Nat
 | [] => 0
 | d :: r => d + 10000 * dv r
def DOk (l : List Nat) : Prop := ∀ d ∈ l, d < 10000
def dg (n : Nat) : List Nat := if h : n = 0 then [] else n % 10000 :: dg (n / 10000)
termination_by n
decreasing_by omega
theorem dg_zero : dg 0 = [] := by rw [dg]; rfl
theorem dg_pos {n : Nat} (h : n ≠ 0) : dg n = n % 10000 :: dg (n / 10000) := by rw [dg, dif_neg h]
theorem dv_dg (n : Nat) : dv (dg n) = n := by
 induction n using Nat.strongRecOn with
 | _ n ih =>
  by_cases h : n = 0
  ·rw [h, dg_zero]; rfl
  ·rw [dg_pos h]
   show n % 10000 + 10000 * dv (dg (n / 10000)) = n
   rw [ih _ (by omega)]; omega
theorem dok_dg (n : Nat) : DOk (dg n) := by
 induction n using Nat.strongRecOn with
 | _ n ih =>
  by_cases h : n = 0
  ·rw [h, dg_zero]; intro d hd; cases hd
  ·rw [dg_pos h]
   intro d hd
   rcases List.mem_cons.1 hd with rfl | hd
   ·exact Nat.mod_lt _ (by decide)
   ·exact ih _ (by omega) d hd
theorem DOk.at {l : List Nat} (h : DOk l) (i : Nat) : l.getD i 0 < 10000 := by
 by_cases hi : i < l.length
 ·have : l.getD i 0 = l[i] := by rw [List.getD_eq_getElem?_getD, List.getElem?_eq_getElem hi]; rfl
  rw [this]; exact h _ (List.getElem_mem hi)
 ·rw [List.getD_eq_getElem?_getD, List.getElem?_eq_none (by omega)]; decide
theorem DOk.take {l : List Nat} (h : DOk l) (n : Nat) : DOk (l.take n) := fun d hd => h d (List.mem_of_mem_take hd)
theorem DOk.drop {l : List Nat} (h : DOk l) (n : Nat) : DOk (l.drop n) := fun d hd => h d (List.mem_of_mem_drop hd)
theorem DOk.app {a b : List Nat} (h : DOk a) (k : DOk b) : DOk (a ++ b) := fun d hd => (List.mem_append.1 hd).elim (h d) (k d)
theorem DOk.one {d : Nat} (h : d < 10000) : DOk [d] := fun x hx => by
 have : x = d := by simpa using hx
 omega
theorem DOk.nil : DOk [] := fun d hd => by cases hd
theorem dv_app (a b : List Nat) : dv (a ++ b) = dv a + 10000 ^ a.length * dv b := by
 induction a with
 | nil => simp [dv]
 | cons d r ih =>
  show d + 10000 * dv (r ++ b) = d + 10000 * dv r + 10000 ^ (r.length + 1) * dv b
  rw [ih, Nat.mul_add, Nat.pow_succ, Nat.mul_comm (10000 ^ r.length) 10000, Nat.mul_assoc]; omega
theorem dv_lt {l : List Nat} (h : DOk l) : dv l < 10000 ^ l.length := by
 induction l with
 | nil => decide
 | cons d r ih =>
  have h1 := ih fun x hx => h x (by simp [hx])
  have h2 := h d (by simp)
  show d + 10000 * dv r < 10000 ^ (r.length + 1)
  rw [Nat.pow_succ]; omega
theorem ncanon : ∀ {l : List Nat}, DOk l → (l.length = 0 ∨ l.getD (l.length - 1) 0 ≠ 0) → l = dg (dv l)
 | [], _, _ => dg_zero.symm
 | d :: r, h, hl => by
  have hr : DOk r := fun x hx => h x (by simp [hx])
  have hd := h d (by simp)
  have ih := ncanon (l := r) hr (by
   by_cases hz : r.length = 0
   ·exact .inl hz
   ·right
    rcases hl with hl | hl
    ·simp at hl
    ·obtain ⟨k, hk⟩ : ∃ k, r.length = k + 1 := ⟨r.length - 1, by omega⟩
     rw [List.length_cons, hk] at hl
     rw [hk]
     exact hl)
  have hv : dv (d :: r) = d + 10000 * dv r := rfl
  by_cases h0 : dv (d :: r) = 0
  ·exfalso
   rw [hv] at h0
   have : dv r = 0 := by omega
   rw [this, dg_zero] at ih
   subst ih
   rcases hl with hl | hl
   ·simp at hl
   ·apply hl
    show d = 0
    omega
  ·rw [dg_pos h0, hv, show (d + 10000 * dv r) % 10000 = d by omega, show (d + 10000 * dv r) / 10000 = dv r by omega, ← ih]
theorem dg_one {n : Nat} (h : n < 10000) (h0 : n ≠ 0) : dg n = [n] := by
 rw [dg_pos h0, show n % 10000 = n by omega, show n / 10000 = 0 by omega, dg_zero]
theorem dg_len {n k : Nat} (h : n < 10000 ^ k) : (dg n).length ≤ k := by
 induction k generalizing n with
 | zero => rw [show n = 0 by simpa using h, dg_zero]; exact Nat.le_refl _
 | succ k ih =>
  by_cases h0 : n = 0
  ·rw [h0, dg_zero]; simp
  ·rw [dg_pos h0, List.length_cons]
   have := ih (n := n / 10000) (by rw [Nat.div_lt_iff_lt_mul (by decide), ← Nat.pow_succ]; exact h)
   omega
def dA (l : List Nat) : List AV := l.map fun d => .int .i64 ((d : Nat) : Int)
@[simp] theorem dA_len (l : List Nat) : (dA l).length = l.length := by simp [dA]
theorem dA_get {l : List Nat} {i : Nat} (h : i < l.length) : (dA l)[i]? = some (.int .i64 (l.getD i 0 : Nat)) := by
 unfold dA
 rw [List.getElem?_map, List.getElem?_eq_getElem h, List.getD_eq_getElem?_getD, List.getElem?_eq_getElem h]; rfl
theorem dA_gi {l : List Nat} {i : Nat} (h : i < l.length) : (dA l)[(i : Int).toNat]? = some (.int .i64 (l.getD i 0 : Nat)) := dA_get h
theorem dA_take (l : List Nat) (n : Nat) : (dA l).take n = dA (l.take n) := by simp [dA, List.map_take]
theorem dA_snoc (l : List Nat) (d : Nat) : dA l ++ [.int .i64 (d : Nat)] = dA (l ++ [d]) := by simp [dA]
def nN (neg : Bool) (n : Nat) : AV := .agg [.bool (neg && !decide (n = 0)), .cs (dA (dg n)) (dg n).length]
theorem AVle.trans {a b c : AV} (h : AVle a b) (k : AVle b c) : AVle a c := fun κ F x hx => k κ F x (h κ F x hx)
set_option maxRecDepth 8000 in
theorem normal_c (neg : Bool) (l : List Nat) (hl : DOk l) (hll : l.length ≤ 1000000000) (H : AH) :
  ACall Tryz.prog 134 [.bool neg, .cs (dA l) l.length] H (fun y H' => y = nN neg (dv l) ∧ HLe H H') := by
 refine zQ zU (dok _) Tryz.func134 rfl (by decide) rfl ?_
 (repeat' ((conv => whnf); first | refine Then.mk ?_ | left | refine zd ?_ | (refine Both.mk ?_ ?_ <;> intro hc <;> try exact wX hc) | (intro c hc; (try (simp only [AH.zA] at hc; repeat (have hn := hc.1; replace hc := hc.2)))))) <;> (try (conv => whnf))
 have hcH : H c = none := by assumption
 refine zT (σ := Nat) (1 :: 5 :: 6 :: 7 :: 8 :: 9 :: 10 :: 11 :: 12 :: 13 :: 14 :: 15 :: 16 :: 17 :: 18 :: 19 :: 20 :: 21 :: []) (fun k => [(1, .cs (dA (l.take k)) k)]) (fun k => _) (fun k => k ≤ l.length ∧ dv (l.take k) = dv l) (fun k => k) l.length rfl ⟨Nat.le_refl _, by rw [List.take_length]⟩ ⟨by rw [List.take_length]; rfl, trivial⟩ (HLe.refl _) ?_
 rintro k ⟨hk, hv⟩
 refine AWp.of zU (dok _) rfl ?_
 dsimp only at hk hv ⊢
 have htl : (l.take k).length = k := by rw [List.length_take]; omega
 have hdl : (dA (l.take k)).length = k * 1 := by simp [htl]
 have fin : (k = 0 ∨ (l.take k).getD (k - 1) 0 ≠ 0) → AV.agg [.bool (neg && !decide (k = 0)), .cs (dA (l.take k)) k] = nN neg (dv l) := fun h => by
  have hcn := ncanon (hl.take k) (by rw [htl]; exact h)
  rw [hv] at hcn
  have hz : k = 0 ↔ dv l = 0 := by
   rw [← htl, hcn]
   constructor
   ·intro h0
    rw [List.length_eq_zero_iff] at h0
    have := dv_dg (dv l)
    rw [h0] at this
    exact this.symm
   ·intro h0
    rw [h0, dg_zero]; rfl
  unfold nN
  rw [← hcn, htl]
  simp only [hz]
 by_cases h0 : k = 0
 ·subst h0
  cases neg with
  | true =>
   (repeat' ((conv => whnf); first | refine Then.mk ?_ | left | refine zd ?_ | (refine Both.mk ?_ ?_ <;> intro hc <;> try exact wX hc) | (intro c hc; (try (simp only [AH.zA] at hc; repeat (have hn := hc.1; replace hc := hc.2)))))) <;> (try (conv => whnf))
   exact ⟨fin (.inl rfl), HLe.set_of _ _ (HLe.fresh _ hcH) hcH⟩
  | false =>
   (repeat' ((conv => whnf); first | refine Then.mk ?_ | left | refine zd ?_ | (refine Both.mk ?_ ?_ <;> intro hc <;> try exact wX hc) | (intro c hc; (try (simp only [AH.zA] at hc; repeat (have hn := hc.1; replace hc := hc.2)))))) <;> (try (conv => whnf))
   exact ⟨fin (.inl rfl), HLe.set_of _ _ (HLe.fresh _ hcH) hcH⟩
 ·obtain ⟨j, rfl⟩ : ∃ j, k = j + 1 := ⟨k - 1, by omega⟩
  have hg : (dA (l.take (j + 1)))[((j + 1 : Nat) - 1 : Int).toNat]? = some (.int .i64 ((l.take (j + 1)).getD j 0 : Nat)) := by
   rw [show ((j + 1 : Nat) - 1 : Int).toNat = j by omega]; exact dA_get (by omega)
  by_cases hz : (l.take (j + 1)).getD j 0 = 0
  ·have hvj : dv (l.take j) = dv l := by
    have e : l.take (j + 1) = l.take j ++ [(l.take (j + 1)).getD j 0] := by
     have hjl : j < l.length := by omega
     rw [List.take_add_one, List.getElem?_eq_getElem hjl, List.getD_eq_getElem?_getD, List.getElem?_append_right (by rw [List.length_take]; omega)]
     simp [List.length_take, Nat.min_eq_left (show j ≤ l.length by omega)]
    rw [hz] at e
    rw [e, dv_app] at hv
    rw [← hv]
    simp [dv]
   have htt : ∀ n : Nat, n = j → List.take (n * 1) (dA (l.take (j + 1))) = dA (l.take j) := fun n hn => by
    rw [hn, Nat.mul_one, dA_take, List.take_take, Nat.min_eq_left (by omega)]
   rw [hz] at hg
   (repeat' ((conv => whnf); first | refine Then.mk ?_ | left | refine zd ?_ | (refine Both.mk ?_ ?_ <;> intro hc <;> try exact wX hc) | (intro c hc; (try (simp only [AH.zA] at hc; repeat (have hn := hc.1; replace hc := hc.2)))))) <;> (try (conv => whnf))
   refine ⟨j, ⟨by omega, hvj⟩, by omega, ⟨?_, trivial⟩, HLe.refl _⟩
   have e : ((j + 1 : Nat) - 1 : Int).toNat = j := by omega
   show AV.cs (List.take (((j + 1 : Nat) - 1 : Int).toNat * 1) (dA (l.take (j + 1)))) ((j + 1 : Nat) - 1 : Int).toNat = _
   rw [htt _ e, e]
  ·have hz2 : (((l.take (j + 1)).getD j 0 : Nat) : Int) ≠ 0 := by omega
   have hf := fin (.inr hz)
   generalize (((l.take (j + 1)).getD j 0 : Nat) : Int) = z at *
   cases neg with
   | true =>
    (repeat' ((conv => whnf); first | refine Then.mk ?_ | left | refine zd ?_ | (refine Both.mk ?_ ?_ <;> intro hc <;> try exact wX hc) | (intro c hc; (try (simp only [AH.zA] at hc; repeat (have hn := hc.1; replace hc := hc.2)))))) <;> (try (conv => whnf))
    exact HLe.set_of _ _ (HLe.fresh _ hcH) hcH
   | false =>
    (repeat' ((conv => whnf); first | refine Then.mk ?_ | left | refine zd ?_ | (refine Both.mk ?_ ?_ <;> intro hc <;> try exact wX hc) | (intro c hc; (try (simp only [AH.zA] at hc; repeat (have hn := hc.1; replace hc := hc.2)))))) <;> (try (conv => whnf))
    exact HLe.set_of _ _ (HLe.fresh _ hcH) hcH
theorem normal_k (neg : Bool) (l : List Nat) (hl : DOk l) (hll : l.length ≤ 1000000000) (H : AH) :
  ACall Tryz.prog 134 [.bool neg, .cs (dA l) l.length] H (fun y H' => y = nN neg (dv l) ∧ H' = H) :=
 ACall.back (normal_c neg l hl hll H)
def ab (n : Int) : Nat := n.natAbs
set_option maxRecDepth 8000 in
theorem of_c (n : Int) (hn : -9223372036854775808 ≤ n ∧ n ≤ 9223372036854775807) (H : AH) :
  ACall Tryz.prog 117 [.int .i64 n] H (fun y H' => y = nN (decide (n < 0)) (ab n) ∧ H' = H) := by
 refine ACall.back ?_
 obtain ⟨g, hg⟩ : ∃ g, g = decide (n < 0) := ⟨_, rfl⟩
 obtain ⟨N, hN⟩ : ∃ N, N = ab n := ⟨_, rfl⟩
 have hab : n = if g = true then -(N : Int) else N := by
  rw [hN, hg]; unfold ab
  by_cases h : n < 0
  ·rw [if_pos (by simpa using h)]; omega
  ·rw [if_neg (by simpa using h)]; omega
 have hNb : N ≤ 9223372036854775808 := by rw [hN]; unfold ab; omega
 have hgn : g = true ↔ n < 0 := by rw [hg]; simp
 rw [← hg, ← hN]
 refine zQ zU (dok _) Tryz.func117 rfl (by decide) rfl ?_
 (repeat' ((conv => whnf); first | left | refine zd ?_ | (refine Both.mk ?_ ?_ <;> intro hc <;> try exact wX hc) | (intro c hc; (try (simp only [AH.zA] at hc; repeat (have hn := hc.1; replace hc := hc.2)))))) <;> (try (conv => whnf))
 refine Then.mk ?_
 (repeat' ((conv => whnf); first | left | refine zd ?_ | (refine Both.mk ?_ ?_ <;> intro hc <;> try exact wX hc) | (intro c hc; (try (simp only [AH.zA] at hc; repeat (have hn := hc.1; replace hc := hc.2)))))) <;> (try (conv => whnf))
 refine Then.mk (AWq.in ?_)
 have hcH : H c = none := by assumption
 refine AWp_nilrow1 3 1 rfl rfl fun r hr => ?_
 obtain ⟨hrc, hrH⟩ := AH.none_set hr
 have hBc : (AH.set H c (.row [.bool false, .nils] 0)) c = some (.row [.bool false, .nils] 0) := AH.zC _ _ _
 have hBr : (AH.set H c (.row [.bool false, .nils] 0)) r = none := by rw [AH.zR _ _ hrc]; exact hrH
 have hBle : HLe H (AH.set H c (.row [.bool false, .nils] 0)) := HLe.fresh _ hcH
 have hcr := Ne.symm hrc
 show AWp _ _ _ _ _ _ _ _ _ ((AH.set H c (.row [.bool false, .nils] 0)).set r (.row [] 0))
 generalize (AH.set H c (.row [.bool false, .nils] 0)) = HB at *
 refine AWp.of zU (dok _) rfl ?_
 cases g with
 | true =>
  have hneg := hgn.1 rfl
  rw [if_pos rfl] at hab
  (repeat' ((conv => whnf); first | refine Then.mk ?_ | left | refine zd ?_ | (refine Both.mk ?_ ?_ <;> intro hc <;> try exact wX hc) | (intro c hc; (try (simp only [AH.zA] at hc; repeat (have hn := hc.1; replace hc := hc.2)))))) <;> (try (conv => whnf))
  refine zT (σ := List Nat × Nat) (0 :: 3 :: 5 :: 8 :: 9 :: 10 :: 11 :: 12 :: 13 :: 14 :: 15 :: 16 :: 17 :: 18 :: 19 :: 20 :: 21 :: []) (fun (ds, m) => [(0, .int .i64 (-(m : Int))), (3, .sl r ds.length 1 0 ds.length none)]) (fun (ds, m) => HB.set r (.row (dA ds) ds.length)) (fun (ds, m) => DOk ds ∧ dv ds + 10000 ^ ds.length * m = N ∧ ds.length ≤ 5) (fun (ds, m) => m) ([], N) rfl ⟨DOk.nil, by show 0 + 10000 ^ 0 * N = N; omega, by decide⟩ ⟨congrArg (AV.int .i64) (by first | exact hab | omega), rfl, trivial⟩ (HLe.refl _) ?_
  rintro ⟨ds, m⟩ ⟨h1, h2, h5⟩
  dsimp only at h1 h2 h5 ⊢
  refine AWp.of zU (dok _) rfl ?_
  have kr : (HB.set r (.row (dA ds) ds.length)) r = some (.row (dA ds) ds.length) := AH.zC _ _ _
  have kc : (HB.set r (.row (dA ds) ds.length)) c = some (.row [.bool false, .nils] 0) := by rw [AH.zR _ _ hcr]; exact hBc
  have hdl : (dA ds).length = ds.length * 1 := by simp
  have hl5 : m ≠ 0 → ds.length < 5 := fun hm => by
   refine (Nat.pow_lt_pow_iff_right (a := 10000) (by decide)).1 (Nat.lt_of_le_of_lt (m := N) ?_ (by omega))
   have : 10000 ^ ds.length * 1 ≤ 10000 ^ ds.length * m := Nat.mul_le_mul_left _ (by omega)
   omega
  have hmN : m ≤ N := by
   have : 1 * m ≤ 10000 ^ ds.length * m := Nat.mul_le_mul_right _ (Nat.pow_pos (by decide))
   omega
  have t1 : (-(m : Int)).tmod 10000 = -((m % 10000 : Nat) : Int) := by
   rw [Int.neg_tmod, Int.tmod_eq_emod_of_nonneg (by omega)]; omega
  have t2 : IntKind.i64.wrap ((-(m : Int)).tdiv 10000) = -((m / 10000 : Nat) : Int) := by
   rw [Int.neg_tdiv, Int.tdiv_eq_ediv_of_nonneg (by omega)]
   rw [IntKind.wrap_i64]; omega
  by_cases hm : m = 0
  ·subst hm
   have hv : dv ds = N := by rw [Nat.mul_zero] at h2; omega
   have hds : ds.length ≤ 1000000000 := by omega
   (repeat' ((conv => whnf); first | left | refine zd ?_ | (refine Both.mk ?_ ?_ <;> intro hc <;> try exact wX hc) | (intro c hc; (try (simp only [AH.zA] at hc; repeat (have hn := hc.1; replace hc := hc.2)))))) <;> (try (conv => whnf))
   refine Then.mk (AWq.in ?_)
   refine AWp_freeze1 (r := r) (v := ds.length) (es := 1) (n := ds.length) (lim := none) (cells := dA ds) 3 rfl rfl kr hdl ?_
   have hn2 := fun H => normal_k true ds h1 hds H
   rw [hv] at hn2
   rw [AH.del_set _ _ _ hBr]
   refine AWp.of zU (dok _) rfl ?_
   (repeat' ((conv => whnf); first | refine Then.mk ?_ | left | refine zg ?_ (hn2 _) | refine zgg ?_ (hn2 _) | refine zd ?_ | (refine Both.mk ?_ ?_ <;> intro hc <;> try exact wX hc) | (intro c hc; (try (simp only [AH.zA] at hc; repeat (have hn := hc.1; replace hc := hc.2)))) | (refine ACall.to (hn2 _) ?_))) <;> (try (conv => whnf))
   exact HLe.set_of _ _ hBle hcH
  ·have hl5 := hl5 hm
   have hfin : ∀ Z : Int, Z = (m % 10000 : Nat) → HLe (HB.set r (.row (dA (ds ++ [m % 10000])) (ds ++ [m % 10000]).length)) ((HB.set r (.row (dA ds) ds.length)).set r (.row (dA ds ++ [.int .i64 Z]) (ds.length + 1))) := fun Z hZ => by
    rw [hZ, dA_snoc, AH.zS, List.length_append, List.length_singleton]
    exact HLe.refl _
   have hnx : DOk (ds ++ [m % 10000]) ∧ dv (ds ++ [m % 10000]) + 10000 ^ (ds ++ [m % 10000]).length * (m / 10000) = N ∧ (ds ++ [m % 10000]).length ≤ 5 := by
    refine ⟨h1.app (DOk.one (Nat.mod_lt _ (by decide))), ?_, by rw [List.length_append, List.length_singleton]; omega⟩
    rw [dv_app, List.length_append, List.length_singleton, Nat.pow_succ, Nat.mul_assoc, Nat.add_assoc, ← Nat.mul_add]
    have : dv [m % 10000] + 10000 * (m / 10000) = m := by show m % 10000 + 10000 * 0 + _ = m; omega
    rw [this]; exact h2
   have hsl : AV.sl r (ds.length + 1) 1 0 (ds.length + 1) none = AV.sl r (ds ++ [m % 10000]).length 1 0 (ds ++ [m % 10000]).length none := by rw [List.length_append, List.length_singleton]
   have hlt : m / 10000 < m := by omega
   have hx10 : m % 10000 < 10000 := Nat.mod_lt _ (by decide)
   generalize m % 10000 = x at *
   generalize hG : (HB.set r (.row (dA ds) ds.length)) = G at *
   by_cases hx0 : x = 0
   ·(repeat' ((conv => whnf); first | refine Then.mk ?_ | left | refine zd ?_ | (refine Both.mk ?_ ?_ <;> intro hc <;> try exact wX hc) | (intro c hc; (try (simp only [AH.zA] at hc; repeat (have hn := hc.1; replace hc := hc.2)))))) <;> (try (conv => whnf))
    exact ⟨(ds ++ [x], m / 10000), hnx, hlt, ⟨rfl, hsl, trivial⟩, hfin _ (by omega)⟩
   ·(repeat' ((conv => whnf); first | refine Then.mk ?_ | left | refine zd ?_ | (refine Both.mk ?_ ?_ <;> intro hc <;> try exact wX hc) | (intro c hc; (try (simp only [AH.zA] at hc; repeat (have hn := hc.1; replace hc := hc.2)))))) <;> (try (conv => whnf))
    exact ⟨(ds ++ [x], m / 10000), hnx, hlt, ⟨rfl, hsl, trivial⟩, hfin _ (by omega)⟩
 | false =>
  have hneg : ¬ n < 0 := fun h => by have := hgn.2 h; cases this
  rw [if_neg (by decide)] at hab
  (repeat' ((conv => whnf); first | refine Then.mk ?_ | left | refine zd ?_ | (refine Both.mk ?_ ?_ <;> intro hc <;> try exact wX hc) | (intro c hc; (try (simp only [AH.zA] at hc; repeat (have hn := hc.1; replace hc := hc.2)))))) <;> (try (conv => whnf))
  refine zT (σ := List Nat × Nat) (0 :: 3 :: 5 :: 8 :: 9 :: 10 :: 11 :: 12 :: 13 :: 14 :: 15 :: 16 :: 17 :: 18 :: 19 :: 20 :: 21 :: []) (fun (ds, m) => [(0, .int .i64 ((m : Int))), (3, .sl r ds.length 1 0 ds.length none)]) (fun (ds, m) => HB.set r (.row (dA ds) ds.length)) (fun (ds, m) => DOk ds ∧ dv ds + 10000 ^ ds.length * m = N ∧ ds.length ≤ 5) (fun (ds, m) => m) ([], N) rfl ⟨DOk.nil, by show 0 + 10000 ^ 0 * N = N; omega, by decide⟩ ⟨congrArg (AV.int .i64) (by first | exact hab | omega), rfl, trivial⟩ (HLe.refl _) ?_
  rintro ⟨ds, m⟩ ⟨h1, h2, h5⟩
  dsimp only at h1 h2 h5 ⊢
  refine AWp.of zU (dok _) rfl ?_
  have kr : (HB.set r (.row (dA ds) ds.length)) r = some (.row (dA ds) ds.length) := AH.zC _ _ _
  have kc : (HB.set r (.row (dA ds) ds.length)) c = some (.row [.bool false, .nils] 0) := by rw [AH.zR _ _ hcr]; exact hBc
  have hdl : (dA ds).length = ds.length * 1 := by simp
  have hl5 : m ≠ 0 → ds.length < 5 := fun hm => by
   refine (Nat.pow_lt_pow_iff_right (a := 10000) (by decide)).1 (Nat.lt_of_le_of_lt (m := N) ?_ (by omega))
   have : 10000 ^ ds.length * 1 ≤ 10000 ^ ds.length * m := Nat.mul_le_mul_left _ (by omega)
   omega
  have hmN : m ≤ N := by
   have : 1 * m ≤ 10000 ^ ds.length * m := Nat.mul_le_mul_right _ (Nat.pow_pos (by decide))
   omega
  have t1 : ((m : Int)).tmod 10000 = ((m % 10000 : Nat) : Int) := by
   rw [Int.tmod_eq_emod_of_nonneg (by omega)]; omega
  have t2 : IntKind.i64.wrap (((m : Int)).tdiv 10000) = ((m / 10000 : Nat) : Int) := by
   rw [Int.tdiv_eq_ediv_of_nonneg (by omega)]
   rw [IntKind.wrap_i64]; omega
  by_cases hm : m = 0
  ·subst hm
   have hv : dv ds = N := by rw [Nat.mul_zero] at h2; omega
   have hds : ds.length ≤ 1000000000 := by omega
   (repeat' ((conv => whnf); first | left | refine zd ?_ | (refine Both.mk ?_ ?_ <;> intro hc <;> try exact wX hc) | (intro c hc; (try (simp only [AH.zA] at hc; repeat (have hn := hc.1; replace hc := hc.2)))))) <;> (try (conv => whnf))
   refine Then.mk (AWq.in ?_)
   refine AWp_freeze1 (r := r) (v := ds.length) (es := 1) (n := ds.length) (lim := none) (cells := dA ds) 3 rfl rfl kr hdl ?_
   have hn2 := fun H => normal_k false ds h1 hds H
   rw [hv] at hn2
   rw [AH.del_set _ _ _ hBr]
   refine AWp.of zU (dok _) rfl ?_
   (repeat' ((conv => whnf); first | refine Then.mk ?_ | left | refine zg ?_ (hn2 _) | refine zgg ?_ (hn2 _) | refine zd ?_ | (refine Both.mk ?_ ?_ <;> intro hc <;> try exact wX hc) | (intro c hc; (try (simp only [AH.zA] at hc; repeat (have hn := hc.1; replace hc := hc.2)))) | (refine ACall.to (hn2 _) ?_))) <;> (try (conv => whnf))
   exact HLe.set_of _ _ hBle hcH
  ·have hl5 := hl5 hm
   have hfin : ∀ Z : Int, Z = (m % 10000 : Nat) → HLe (HB.set r (.row (dA (ds ++ [m % 10000])) (ds ++ [m % 10000]).length)) ((HB.set r (.row (dA ds) ds.length)).set r (.row (dA ds ++ [.int .i64 Z]) (ds.length + 1))) := fun Z hZ => by
    rw [hZ, dA_snoc, AH.zS, List.length_append, List.length_singleton]
    exact HLe.refl _
   have hnx : DOk (ds ++ [m % 10000]) ∧ dv (ds ++ [m % 10000]) + 10000 ^ (ds ++ [m % 10000]).length * (m / 10000) = N ∧ (ds ++ [m % 10000]).length ≤ 5 := by
    refine ⟨h1.app (DOk.one (Nat.mod_lt _ (by decide))), ?_, by rw [List.length_append, List.length_singleton]; omega⟩
    rw [dv_app, List.length_append, List.length_singleton, Nat.pow_succ, Nat.mul_assoc, Nat.add_assoc, ← Nat.mul_add]
    have : dv [m % 10000] + 10000 * (m / 10000) = m := by show m % 10000 + 10000 * 0 + _ = m; omega
    rw [this]; exact h2
   have hsl : AV.sl r (ds.length + 1) 1 0 (ds.length + 1) none = AV.sl r (ds ++ [m % 10000]).length 1 0 (ds ++ [m % 10000]).length none := by rw [List.length_append, List.length_singleton]
   have hlt : m / 10000 < m := by omega
   have hx10 : m % 10000 < 10000 := Nat.mod_lt _ (by decide)
   generalize m % 10000 = x at *
   generalize hG : (HB.set r (.row (dA ds) ds.length)) = G at *
   (repeat' ((conv => whnf); first | refine Then.mk ?_ | left | refine zd ?_ | (refine Both.mk ?_ ?_ <;> intro hc <;> try exact wX hc) | (intro c hc; (try (simp only [AH.zA] at hc; repeat (have hn := hc.1; replace hc := hc.2)))))) <;> (try (conv => whnf))
   exact ⟨(ds ++ [x], m / 10000), hnx, hlt, ⟨rfl, hsl, trivial⟩, hfin _ (by omega)⟩
open Go.Fw Go
theorem dv_take_succ (a : List Nat) (i : Nat) : dv (a.take (i + 1)) = dv (a.take i) + 10000 ^ i * a.getD i 0 := by
 by_cases h : i < a.length
 ·have e : a.take (i + 1) = a.take i ++ [a.getD i 0] := by
   rw [List.take_add_one, List.getElem?_eq_getElem h, List.getD_eq_getElem?_getD, List.getElem?_eq_getElem h]; rfl
  rw [e, dv_app, List.length_take, Nat.min_eq_left (by omega)]
  simp [dv]
 ·rw [List.take_of_length_le (by omega), List.take_of_length_le (by omega), List.getD_eq_getElem?_getD, List.getElem?_eq_none (by omega)]
  simp
set_option maxRecDepth 8000 in
theorem at0_c (a : List Nat) (i : Nat) (H : AH) :
  ACall Tryz.prog 142 [.cs (dA a) a.length, .int .i64 i] H (fun y H' => y = .int .i64 (a.getD i 0 : Nat) ∧ H' = H) := by
 by_cases h : i < a.length
 ·have hg := dA_gi h
  refine zQ zU (dok _) Tryz.func142 rfl (by decide) rfl ?_
  (repeat' ((conv => whnf); first | refine Then.mk ?_ | left | refine zd ?_ | (refine Both.mk ?_ ?_ <;> intro hc <;> try exact wX hc) | (intro c hc; (try (simp only [AH.zA] at hc; repeat (have hn := hc.1; replace hc := hc.2)))))) <;> (try (conv => whnf))
 ·have h0 : a.getD i 0 = 0 := by rw [List.getD_eq_getElem?_getD, List.getElem?_eq_none (by omega)]; rfl
  rw [h0]
  refine zQ zU (dok _) Tryz.func142 rfl (by decide) rfl ?_
  (repeat' ((conv => whnf); first | refine Then.mk ?_ | left | refine zd ?_ | (refine Both.mk ?_ ?_ <;> intro hc <;> try exact wX hc) | (intro c hc; (try (simp only [AH.zA] at hc; repeat (have hn := hc.1; replace hc := hc.2)))))) <;> (try (conv => whnf))
def plusSt (a b : List Nat) : Nat → List Nat × Nat
 | 0 => ([], 0)
 | i + 1 => ((plusSt a b i).1 ++ [(a.getD i 0 + b.getD i 0 + (plusSt a b i).2) % 10000], (a.getD i 0 + b.getD i 0 + (plusSt a b i).2) / 10000)
def plusN (a b : List Nat) : Nat := if 0 < (plusSt a b (max a.length b.length)).2 then max a.length b.length + 1 else max a.length b.length
def plusL (a b : List Nat) : List Nat := (plusSt a b (plusN a b)).1
structure PlOk (a b : List Nat) (i : Nat) : Prop where
 ok : DOk (plusSt a b i).1
 len : (plusSt a b i).1.length = i
 c : (plusSt a b i).2 ≤ 1
 sum : dv (plusSt a b i).1 + 10000 ^ i * (plusSt a b i).2 = dv (a.take i) + dv (b.take i)
theorem plus_ok {a b : List Nat} (ha : DOk a) (hb : DOk b) : ∀ i, PlOk a b i
 | 0 => ⟨DOk.nil, rfl, Nat.zero_le _, rfl⟩
 | i + 1 => by
  obtain ⟨h1, h2, h3, h4⟩ := plus_ok ha hb i
  have p1 := ha.at i
  have p2 := hb.at i
  refine ⟨h1.app (DOk.one (Nat.mod_lt _ (by decide))), ?_, ?_, ?_⟩
  ·show ((plusSt a b i).1 ++ [_]).length = _
   rw [List.length_append, List.length_singleton, h2]
  ·show (a.getD i 0 + b.getD i 0 + (plusSt a b i).2) / 10000 ≤ 1
   omega
  ·show dv ((plusSt a b i).1 ++ [(a.getD i 0 + b.getD i 0 + (plusSt a b i).2) % 10000]) + 10000 ^ (i + 1) * ((a.getD i 0 + b.getD i 0 + (plusSt a b i).2) / 10000) = _
   rw [dv_app, h2, dv_take_succ, dv_take_succ, Nat.pow_succ, Nat.mul_assoc]
   generalize a.getD i 0 = x at *
   generalize b.getD i 0 = y at *
   generalize (plusSt a b i).2 = c at *
   have e : dv [(x + y + c) % 10000] = (x + y + c) % 10000 := by simp [dv]
   have e2 : 10000 ^ i * ((x + y + c) % 10000) + 10000 ^ i * (10000 * ((x + y + c) / 10000)) = 10000 ^ i * x + 10000 ^ i * y + 10000 ^ i * c := by
    rw [← Nat.mul_add, ← Nat.mul_add, ← Nat.mul_add]; congr 1; omega
   rw [e]; omega
theorem plus_more {a b : List Nat} (ha : DOk a) (hb : DOk b) : (plusSt a b (plusN a b)).2 = 0 := by
 unfold plusN
 split
 ·have h := (plus_ok ha hb (max a.length b.length)).c
  show (a.getD _ 0 + b.getD _ 0 + _) / 10000 = 0
  rw [List.getD_eq_getElem?_getD, List.getD_eq_getElem?_getD, List.getElem?_eq_none (by omega), List.getElem?_eq_none (by omega)]
  show (0 + 0 + (plusSt a b (max a.length b.length)).2) / 10000 = 0
  omega
 ·omega
theorem plusN_ge (a b : List Nat) : a.length ≤ plusN a b ∧ b.length ≤ plusN a b ∧ plusN a b ≤ a.length + b.length + 1 := by
 unfold plusN; split <;> omega
theorem plusL_ok {a b : List Nat} (ha : DOk a) (hb : DOk b) : DOk (plusL a b) ∧ dv (plusL a b) = dv a + dv b ∧ (plusL a b).length = plusN a b := by
 have h := plus_ok ha hb (plusN a b)
 have h0 := plus_more ha hb
 obtain ⟨g1, g2, g3⟩ := plusN_ge a b
 refine ⟨h.ok, ?_, h.len⟩
 have := h.sum
 rw [h0, List.take_of_length_le g1, List.take_of_length_le g2] at this
 unfold plusL
 simpa using this
set_option maxRecDepth 8000 in
theorem plus_c (a b : List Nat) (ha : DOk a) (hb : DOk b) (hla : a.length ≤ 100000000) (hlb : b.length ≤ 100000000) (H : AH) :
  ACall Tryz.prog 137 [.cs (dA a) a.length, .cs (dA b) b.length] H (fun y H' => y = .cs (dA (plusL a b)) (plusL a b).length ∧ H' = H) := by
 refine ACall.back ?_
 have hall := plus_ok ha hb
 have hN : ∀ i, i < plusN a b ↔ i < a.length ∨ i < b.length ∨ (0 < (plusSt a b i).2 ∧ i ≤ plusN a b) := fun i => by
  have hm := plus_more ha hb
  obtain ⟨g1, g2, g3⟩ := plusN_ge a b
  constructor
  ·intro h
   by_cases h1 : i < a.length
   ·exact .inl h1
   ·by_cases h2 : i < b.length
    ·exact .inr (.inl h2)
    ·right; right
     refine ⟨?_, by omega⟩
     unfold plusN at h
     split at h
     ·rename_i hc
      have : i = max a.length b.length := by omega
      rw [this]; exact hc
     ·omega
  ·rintro (h | h | ⟨h, h2⟩)
   ·omega
   ·omega
   ·by_cases e : i = plusN a b
    ·rw [e] at h; omega
    ·omega
 obtain ⟨g1, g2, g3⟩ := plusN_ge a b
 have hat1 := fun i H => at0_c a i H
 have hat2 := fun i H => at0_c b i H
 refine zQ zU (dok _) Tryz.func137 rfl (by decide) rfl ?_
 (repeat' ((conv => whnf); first | left | refine zd ?_ | (refine Both.mk ?_ ?_ <;> intro hc <;> try exact wX hc) | (intro c hc; (try (simp only [AH.zA] at hc; repeat (have hn := hc.1; replace hc := hc.2)))))) <;> (try (conv => whnf))
 refine Then.mk ?_
 (repeat' ((conv => whnf); first | left | refine zd ?_ | (refine Both.mk ?_ ?_ <;> intro hc <;> try exact wX hc) | (intro c hc; (try (simp only [AH.zA] at hc; repeat (have hn := hc.1; replace hc := hc.2)))))) <;> (try (conv => whnf))
 refine Then.mk (AWq.in ?_)
 refine AWp_nilrow1 5 1 rfl rfl fun r hr => ?_
 refine AWp.of zU (dok _) rfl ?_
 (repeat' ((conv => whnf); first | refine Then.mk ?_ | left | refine zd ?_ | (refine Both.mk ?_ ?_ <;> intro hc <;> try exact wX hc) | (intro c hc; (try (simp only [AH.zA] at hc; repeat (have hn := hc.1; replace hc := hc.2)))))) <;> (try (conv => whnf))
 refine zT (σ := Nat) (5 :: 6 :: 7 :: 8 :: 9 :: 10 :: 11 :: 12 :: 13 :: 14 :: 15 :: 16 :: 17 :: 18 :: 19 :: 20 :: 21 :: 22 :: 23 :: 24 :: 25 :: 26 :: 27 :: 28 :: 29 :: 30 :: 31 :: 32 :: 33 :: 34 :: 35 :: 36 :: 37 :: 38 :: 39 :: 40 :: []) (fun i => [(5, .sl r i 1 0 i none), (6, .int .i64 ((plusSt a b i).2 : Nat)), (7, .int .i64 i)]) (fun i => H.set r (.row (dA (plusSt a b i).1) i)) (fun i => i ≤ plusN a b) (fun i => plusN a b - i) 0 rfl (Nat.zero_le _) ⟨rfl, rfl, rfl, trivial⟩ (HLe.refl _) ?_
 intro i hi
 dsimp only at hi ⊢
 refine AWp.of zU (dok _) rfl ?_
 have hok := hall i
 have hal := ha.at i
 have hbl := hb.at i
 have hc1 := hok.c
 have hlen : (dA (plusSt a b i).1).length = i * 1 := by rw [dA_len, hok.len, Nat.mul_one]
 have kr : (H.set r (.row (dA (plusSt a b i).1) i)) r = some (.row (dA (plusSt a b i).1) i) := AH.zC _ _ _
 have hnx : plusSt a b (i + 1) = ((plusSt a b i).1 ++ [(a.getD i 0 + b.getD i 0 + (plusSt a b i).2) % 10000], (a.getD i 0 + b.getD i 0 + (plusSt a b i).2) / 10000) := rfl
 have hNi := hN i
 have ha1 := fun H => hat1 i H
 have ha2 := fun H => hat2 i H
 by_cases hin : i < plusN a b
 ·have hcond := hNi.1 hin
  generalize (plusSt a b i).2 = cy at *
  generalize a.getD i 0 = x at *
  generalize b.getD i 0 = z at *
  have e1 : ((x : Int) + z) = (x + z : Nat) := by omega
  have e2 : IntKind.i64.wrap ((x : Int) + z) = (x + z : Nat) := by rw [IntKind.wrap_i64]; omega
  have e3 : IntKind.i64.wrap (((x + z : Nat) : Int) + cy) = (x + z + cy : Nat) := by rw [IntKind.wrap_i64]; omega
  have e4 : ((x + z + cy : Nat) : Int).tmod 10000 = ((x + z + cy) % 10000 : Nat) := by rw [Int.tmod_eq_emod_of_nonneg (by omega)]; omega
  have e5 : IntKind.i64.wrap (((x + z + cy : Nat) : Int).tdiv 10000) = ((x + z + cy) / 10000 : Nat) := by rw [Int.tdiv_eq_ediv_of_nonneg (by omega), IntKind.wrap_i64]; omega
  have hfin : ∀ G, G = H.set r (.row (dA (plusSt a b i).1) i) → HLe (H.set r (.row (dA (plusSt a b (i + 1)).1) (i + 1))) (G.set r (.row (dA (plusSt a b i).1 ++ [.int .i64 ((x + z + cy) % 10000 : Nat)]) (i + 1))) := fun G hG => by
   rw [hG, AH.zS, dA_snoc, hnx]
   exact HLe.refl _
  have hc2 : (plusSt a b (i + 1)).2 = (x + z + cy) / 10000 := by rw [hnx]
  generalize hG : H.set r (.row (dA (plusSt a b i).1) i) = G at *
  generalize (x + z + cy) / 10000 = c2 at *
  by_cases h1 : i < a.length
  ·(repeat' ((conv => whnf); first | refine Then.mk ?_ | left | refine zg ?_ (ha1 _) | refine zg ?_ (ha2 _) | refine zgg ?_ (ha1 _) | refine zgg ?_ (ha2 _) | refine zd ?_ | (refine Both.mk ?_ ?_ <;> intro hc <;> try exact wX hc) | (intro c hc; (try (simp only [AH.zA] at hc; repeat (have hn := hc.1; replace hc := hc.2)))) | (refine ACall.to (ha1 _) ?_) | (refine ACall.to (ha2 _) ?_))) <;> (try (conv => whnf))
   exact ⟨i + 1, hin, by omega, ⟨rfl, congrArg (AV.int .i64) (by omega), congrArg (AV.int .i64) (by omega), trivial⟩, hfin _ rfl⟩
  ·by_cases h2 : i < b.length
   ·(repeat' ((conv => whnf); first | refine Then.mk ?_ | left | refine zg ?_ (ha1 _) | refine zg ?_ (ha2 _) | refine zgg ?_ (ha1 _) | refine zgg ?_ (ha2 _) | refine zd ?_ | (refine Both.mk ?_ ?_ <;> intro hc <;> try exact wX hc) | (intro c hc; (try (simp only [AH.zA] at hc; repeat (have hn := hc.1; replace hc := hc.2)))) | (refine ACall.to (ha1 _) ?_) | (refine ACall.to (ha2 _) ?_))) <;> (try (conv => whnf))
    exact ⟨i + 1, hin, by omega, ⟨rfl, congrArg (AV.int .i64) (by omega), congrArg (AV.int .i64) (by omega), trivial⟩, hfin _ rfl⟩
   ·have h3 : 0 < cy := by omega
    (repeat' ((conv => whnf); first | refine Then.mk ?_ | left | refine zg ?_ (ha1 _) | refine zg ?_ (ha2 _) | refine zgg ?_ (ha1 _) | refine zgg ?_ (ha2 _) | refine zd ?_ | (refine Both.mk ?_ ?_ <;> intro hc <;> try exact wX hc) | (intro c hc; (try (simp only [AH.zA] at hc; repeat (have hn := hc.1; replace hc := hc.2)))) | (refine ACall.to (ha1 _) ?_) | (refine ACall.to (ha2 _) ?_))) <;> (try (conv => whnf))
    exact ⟨i + 1, hin, by omega, ⟨rfl, congrArg (AV.int .i64) (by omega), congrArg (AV.int .i64) (by omega), trivial⟩, hfin _ rfl⟩
 ·have hie : i = plusN a b := by omega
  have h1 : ¬ i < a.length := by omega
  have h2 : ¬ i < b.length := by omega
  have h3 : (plusSt a b i).2 = 0 := by
   rw [hie]; exact plus_more ha hb
  have hL : dA (plusL a b) = dA (plusSt a b i).1 := by unfold plusL; rw [hie]
  have hLl : (plusL a b).length = i := by rw [(plusL_ok ha hb).2.2, hie]
  rw [hL, hLl]
  generalize (plusSt a b i).2 = cy at *
  subst h3
  (repeat' ((conv => whnf); first | left | refine zd ?_ | (refine Both.mk ?_ ?_ <;> intro hc <;> try exact wX hc) | (intro c hc; (try (simp only [AH.zA] at hc; repeat (have hn := hc.1; replace hc := hc.2)))))) <;> (try (conv => whnf))
  refine Then.mk (AWq.in ?_)
  refine AWp_freeze1 (r := r) (v := i) (es := 1) (n := i) (lim := none) (cells := dA (plusSt a b i).1) 5 rfl rfl kr hlen ?_
  refine AWp.of zU (dok _) rfl ?_
  (repeat' ((conv => whnf); first | refine Then.mk ?_ | left | refine zd ?_ | (refine Both.mk ?_ ?_ <;> intro hc <;> try exact wX hc) | (intro c hc; (try (simp only [AH.zA] at hc; repeat (have hn := hc.1; replace hc := hc.2)))))) <;> (try (conv => whnf))
  exact HLe.del _ (HLe.fresh _ hr) hr
open Go.Fw Go
def minSt (a b : List Nat) : Nat → List Nat × Nat
 | 0 => ([], 0)
 | i + 1 => if a.getD i 0 < b.getD i 0 + (minSt a b i).2 then ((minSt a b i).1 ++ [a.getD i 0 + 10000 - b.getD i 0 - (minSt a b i).2], 1) else ((minSt a b i).1 ++ [a.getD i 0 - b.getD i 0 - (minSt a b i).2], 0)
def minL (a b : List Nat) : List Nat := (minSt a b a.length).1
structure MiOk (a b : List Nat) (i : Nat) : Prop where
 ok : DOk (minSt a b i).1
 len : (minSt a b i).1.length = i
 c : (minSt a b i).2 ≤ 1
 sum : dv (minSt a b i).1 + dv (b.take i) = dv (a.take i) + 10000 ^ i * (minSt a b i).2
theorem min_ok {a b : List Nat} (ha : DOk a) (hb : DOk b) : ∀ i, MiOk a b i
 | 0 => ⟨DOk.nil, rfl, Nat.zero_le _, rfl⟩
 | i + 1 => by
  obtain ⟨h1, h2, h3, h4⟩ := min_ok ha hb i
  have p1 := ha.at i
  have p2 := hb.at i
  have e : minSt a b (i + 1) = if a.getD i 0 < b.getD i 0 + (minSt a b i).2 then ((minSt a b i).1 ++ [a.getD i 0 + 10000 - b.getD i 0 - (minSt a b i).2], 1) else ((minSt a b i).1 ++ [a.getD i 0 - b.getD i 0 - (minSt a b i).2], 0) := rfl
  have t1 := dv_take_succ a i
  have t2 := dv_take_succ b i
  generalize a.getD i 0 = x at *
  generalize b.getD i 0 = y at *
  generalize (minSt a b i).2 = c at *
  generalize (minSt a b i).1 = o at *
  by_cases h : x < y + c
  ·rw [if_pos h] at e
   have e1 : (minSt a b (i + 1)).1 = o ++ [x + 10000 - y - c] := by rw [e]
   have e2 : (minSt a b (i + 1)).2 = 1 := by rw [e]
   refine ⟨?_, ?_, by omega, ?_⟩
   ·rw [e1]; exact h1.app (DOk.one (by omega))
   ·rw [e1, List.length_append, List.length_singleton, h2]
   ·rw [e1, e2, dv_app, h2, t1, t2, Nat.pow_succ]
    have e3 : dv [x + 10000 - y - c] = x + 10000 - y - c := by simp [dv]
    have e4 : 10000 ^ i * (x + 10000 - y - c) + 10000 ^ i * y + 10000 ^ i * c = 10000 ^ i * x + 10000 ^ i * 10000 := by
     rw [← Nat.mul_add, ← Nat.mul_add, ← Nat.mul_add]; congr 1; omega
    rw [e3]; omega
  ·rw [if_neg h] at e
   have e1 : (minSt a b (i + 1)).1 = o ++ [x - y - c] := by rw [e]
   have e2 : (minSt a b (i + 1)).2 = 0 := by rw [e]
   refine ⟨?_, ?_, by omega, ?_⟩
   ·rw [e1]; exact h1.app (DOk.one (by omega))
   ·rw [e1, List.length_append, List.length_singleton, h2]
   ·rw [e1, e2, dv_app, h2, t1, t2]
    have e3 : dv [x - y - c] = x - y - c := by simp [dv]
    have e4 : 10000 ^ i * (x - y - c) + 10000 ^ i * y + 10000 ^ i * c = 10000 ^ i * x := by
     rw [← Nat.mul_add, ← Nat.mul_add]; congr 1; omega
    rw [e3]; omega
theorem minL_ok {a b : List Nat} (ha : DOk a) (hb : DOk b) (hl : b.length ≤ a.length) (hv : dv b ≤ dv a) : DOk (minL a b) ∧ dv (minL a b) = dv a - dv b ∧ (minL a b).length = a.length := by
 have h := min_ok ha hb a.length
 refine ⟨h.ok, ?_, h.len⟩
 have hs := h.sum
 have hc := h.c
 have hlt := dv_lt h.ok
 rw [h.len] at hlt
 rw [List.take_of_length_le (Nat.le_refl _), List.take_of_length_le hl] at hs
 unfold minL
 by_cases h0 : (minSt a b a.length).2 = 0
 ·rw [h0] at hs; omega
 ·have h1 : (minSt a b a.length).2 = 1 := by omega
  rw [h1] at hs; omega
set_option maxRecDepth 8000 in
theorem minus_c (a b : List Nat) (ha : DOk a) (hb : DOk b) (hla : a.length ≤ 100000000) (H : AH) :
  ACall Tryz.prog 135 [.cs (dA a) a.length, .cs (dA b) b.length] H (fun y H' => y = .cs (dA (minL a b)) a.length ∧ H' = H) := by
 refine ACall.back ?_
 have hall := min_ok ha hb
 have hat1 := fun i H => at0_c a i H
 have hat2 := fun i H => at0_c b i H
 have hal1 : (dA a).length = a.length := by simp
 refine zQ zU (dok _) Tryz.func135 rfl (by decide) rfl ?_
 (repeat' ((conv => whnf); first | left | refine zd ?_ | (refine Both.mk ?_ ?_ <;> intro hc <;> try exact wX hc) | (intro c hc; (try (simp only [AH.zA] at hc; repeat (have hn := hc.1; replace hc := hc.2)))))) <;> (try (conv => whnf))
 refine Then.mk ?_
 (repeat' ((conv => whnf); first | left | refine zd ?_ | (refine Both.mk ?_ ?_ <;> intro hc <;> try exact wX hc) | (intro c hc; (try (simp only [AH.zA] at hc; repeat (have hn := hc.1; replace hc := hc.2)))))) <;> (try (conv => whnf))
 refine Then.mk (AWq.in ?_)
 refine AWp_nilrow1 5 1 rfl rfl fun r hr => ?_
 refine AWp.of zU (dok _) rfl ?_
 (repeat' ((conv => whnf); first | refine Then.mk ?_ | left | refine zd ?_ | (refine Both.mk ?_ ?_ <;> intro hc <;> try exact wX hc) | (intro c hc; (try (simp only [AH.zA] at hc; repeat (have hn := hc.1; replace hc := hc.2)))))) <;> (try (conv => whnf))
 refine zT (σ := Nat) (5 :: 6 :: 7 :: 8 :: 9 :: 10 :: 11 :: 12 :: 13 :: 14 :: 15 :: 16 :: 17 :: 18 :: 19 :: 20 :: 21 :: 22 :: 23 :: 24 :: 25 :: 26 :: 27 :: 28 :: 29 :: 30 :: 31 :: []) (fun i => [(5, .sl r i 1 0 i none), (6, .int .i64 ((minSt a b i).2 : Nat)), (7, .int .i64 i)]) (fun i => H.set r (.row (dA (minSt a b i).1) i)) (fun i => i ≤ a.length) (fun i => a.length - i) 0 rfl (Nat.zero_le _) ⟨rfl, rfl, rfl, trivial⟩ (HLe.refl _) ?_
 intro i hi
 dsimp only at hi ⊢
 refine AWp.of zU (dok _) rfl ?_
 have hok := hall i
 have hal := ha.at i
 have hbl := hb.at i
 have hc1 := hok.c
 have hlen : (dA (minSt a b i).1).length = i * 1 := by rw [dA_len, hok.len, Nat.mul_one]
 have kr : (H.set r (.row (dA (minSt a b i).1) i)) r = some (.row (dA (minSt a b i).1) i) := AH.zC _ _ _
 have hnx : minSt a b (i + 1) = if a.getD i 0 < b.getD i 0 + (minSt a b i).2 then ((minSt a b i).1 ++ [a.getD i 0 + 10000 - b.getD i 0 - (minSt a b i).2], 1) else ((minSt a b i).1 ++ [a.getD i 0 - b.getD i 0 - (minSt a b i).2], 0) := rfl
 have ha1 := fun H => hat1 i H
 have ha2 := fun H => hat2 i H
 by_cases hin : i < a.length
 ·generalize (minSt a b i).2 = cy at *
  generalize a.getD i 0 = x at *
  generalize b.getD i 0 = z at *
  have hfin : ∀ G, G = H.set r (.row (dA (minSt a b i).1) i) → ∀ d : Nat, (minSt a b (i + 1)).1 = (minSt a b i).1 ++ [d] → ∀ Z : Int, Z = d → HLe (H.set r (.row (dA (minSt a b (i + 1)).1) (i + 1))) (G.set r (.row (dA (minSt a b i).1 ++ [.int .i64 Z]) (i + 1))) := fun G hG d hd Z hZ => by
   rw [hG, AH.zS, hZ, dA_snoc, hd]
   exact HLe.refl _
  generalize hG : H.set r (.row (dA (minSt a b i).1) i) = G at *
  by_cases hlt : x < z + cy
  ·rw [if_pos hlt] at hnx
   have f1 : (minSt a b (i + 1)).1 = (minSt a b i).1 ++ [x + 10000 - z - cy] := by rw [hnx]
   have f2 : (minSt a b (i + 1)).2 = 1 := by rw [hnx]
   (repeat' ((conv => whnf); first | refine Then.mk ?_ | left | refine zg ?_ (ha1 _) | refine zg ?_ (ha2 _) | refine zgg ?_ (ha1 _) | refine zgg ?_ (ha2 _) | refine zd ?_ | (refine Both.mk ?_ ?_ <;> intro hc <;> try exact wX hc) | (intro c hc; (try (simp only [AH.zA] at hc; repeat (have hn := hc.1; replace hc := hc.2)))) | (refine ACall.to (ha1 _) ?_) | (refine ACall.to (ha2 _) ?_))) <;> (try (conv => whnf))
   exact ⟨i + 1, hin, by omega, ⟨rfl, congrArg (AV.int .i64) (by omega), congrArg (AV.int .i64) (by omega), trivial⟩, hfin _ rfl _ f1 _ (by omega)⟩
  ·rw [if_neg hlt] at hnx
   have f1 : (minSt a b (i + 1)).1 = (minSt a b i).1 ++ [x - z - cy] := by rw [hnx]
   have f2 : (minSt a b (i + 1)).2 = 0 := by rw [hnx]
   (repeat' ((conv => whnf); first | refine Then.mk ?_ | left | refine zg ?_ (ha1 _) | refine zg ?_ (ha2 _) | refine zgg ?_ (ha1 _) | refine zgg ?_ (ha2 _) | refine zd ?_ | (refine Both.mk ?_ ?_ <;> intro hc <;> try exact wX hc) | (intro c hc; (try (simp only [AH.zA] at hc; repeat (have hn := hc.1; replace hc := hc.2)))) | (refine ACall.to (ha1 _) ?_) | (refine ACall.to (ha2 _) ?_))) <;> (try (conv => whnf))
   exact ⟨i + 1, hin, by omega, ⟨rfl, congrArg (AV.int .i64) (by omega), congrArg (AV.int .i64) (by omega), trivial⟩, hfin _ rfl _ f1 _ (by omega)⟩
 ·have hie : i = a.length := by omega
  have hL : dA (minL a b) = dA (minSt a b i).1 := by unfold minL; rw [hie]
  rw [hL, ← hie]
  (repeat' ((conv => whnf); first | left | refine zd ?_ | (refine Both.mk ?_ ?_ <;> intro hc <;> try exact wX hc) | (intro c hc; (try (simp only [AH.zA] at hc; repeat (have hn := hc.1; replace hc := hc.2)))))) <;> (try (conv => whnf))
  refine Then.mk (AWq.in ?_)
  refine AWp_freeze1 (r := r) (v := i) (es := 1) (n := i) (lim := none) (cells := dA (minSt a b i).1) 5 rfl rfl kr hlen ?_
  refine AWp.of zU (dok _) rfl ?_
  (repeat' ((conv => whnf); first | refine Then.mk ?_ | left | refine zd ?_ | (refine Both.mk ?_ ?_ <;> intro hc <;> try exact wX hc) | (intro c hc; (try (simp only [AH.zA] at hc; repeat (have hn := hc.1; replace hc := hc.2)))))) <;> (try (conv => whnf))
  exact HLe.del _ (HLe.fresh _ hr) hr
def cmpV (x y : Nat) : Int := if x < y then -1 else if y < x then 1 else 0
theorem dg_short {x y : Nat} (h : (dg x).length < (dg y).length) : x < y := by
 have h1 := dv_lt (dok_dg x)
 rw [dv_dg] at h1
 by_cases hxy : x < y
 ·exact hxy
 ·have := dg_len (n := y) (k := (dg x).length) (by omega)
  omega
theorem dv_split (a : List Nat) {i : Nat} (h : i < a.length) : dv a = dv (a.take i) + 10000 ^ i * (a.getD i 0 + 10000 * dv (a.drop (i + 1))) := by
 have e : a = a.take i ++ (a.getD i 0 :: a.drop (i + 1)) := by
  have h2 : a.getD i 0 = a[i] := by rw [List.getD_eq_getElem?_getD, List.getElem?_eq_getElem h]; rfl
  rw [h2, ← List.drop_eq_getElem_cons h, List.take_append_drop]
 conv => lhs; rw [e]
 rw [dv_app, List.length_take, Nat.min_eq_left (by omega)]
 rfl
theorem dv_less {a b : List Nat} (ha : DOk a) {i : Nat} (h1 : i < a.length) (h2 : i < b.length) (hd : a.drop (i + 1) = b.drop (i + 1)) (h : a.getD i 0 < b.getD i 0) : dv a < dv b := by
 have ht := dv_lt (ha.take i)
 rw [List.length_take, Nat.min_eq_left (by omega)] at ht
 rw [dv_split a h1, dv_split b h2, hd]
 have : 10000 ^ i * (a.getD i 0 + 10000 * dv (b.drop (i + 1)) + 1) ≤ 10000 ^ i * (b.getD i 0 + 10000 * dv (b.drop (i + 1))) := Nat.mul_le_mul_left _ (by omega)
 rw [Nat.mul_add] at this
 omega
set_option maxRecDepth 8000 in
theorem compared_c (x y : Nat) (hx : (dg x).length ≤ 100000000) (hy : (dg y).length ≤ 100000000) (H : AH) :
  ACall Tryz.prog 138 [.cs (dA (dg x)) (dg x).length, .cs (dA (dg y)) (dg y).length] H (fun v H' => v = .int .i64 (cmpV x y) ∧ H' = H) := by
 unfold cmpV
 by_cases h1 : (dg x).length < (dg y).length
 ·rw [if_pos (dg_short h1)]
  refine zQ zU (dok _) Tryz.func138 rfl (by decide) rfl ?_
  (repeat' ((conv => whnf); first | refine Then.mk ?_ | left | refine zd ?_ | (refine Both.mk ?_ ?_ <;> intro hc <;> try exact wX hc) | (intro c hc; (try (simp only [AH.zA] at hc; repeat (have hn := hc.1; replace hc := hc.2)))))) <;> (try (conv => whnf))
 ·by_cases h2 : (dg y).length < (dg x).length
  ·have := dg_short h2
   rw [if_neg (by omega), if_pos this]
   refine zQ zU (dok _) Tryz.func138 rfl (by decide) rfl ?_
   (repeat' ((conv => whnf); first | refine Then.mk ?_ | left | refine zd ?_ | (refine Both.mk ?_ ?_ <;> intro hc <;> try exact wX hc) | (intro c hc; (try (simp only [AH.zA] at hc; repeat (have hn := hc.1; replace hc := hc.2)))))) <;> (try (conv => whnf))
  ·have hl : (dg x).length = (dg y).length := by omega
   have ea := dv_dg x
   have eb := dv_dg y
   have oa := dok_dg x
   have ob := dok_dg y
   generalize dg x = a at *
   generalize dg y = b at *
   have hal : (dA a).length = a.length := by simp
   have hbl : (dA b).length = b.length := by simp
   refine zQ zU (dok _) Tryz.func138 rfl (by decide) rfl ?_
   (repeat' ((conv => whnf); first | refine Then.mk ?_ | left | refine zd ?_ | (refine Both.mk ?_ ?_ <;> intro hc <;> try exact wX hc) | (intro c hc; (try (simp only [AH.zA] at hc; repeat (have hn := hc.1; replace hc := hc.2)))))) <;> (try (conv => whnf))
   refine zT (σ := Nat) (4 :: 5 :: 19 :: 20 :: 21 :: 22 :: 23 :: 24 :: 25 :: 26 :: 27 :: 28 :: 29 :: 30 :: 31 :: 32 :: 33 :: 34 :: 35 :: 36 :: 37 :: 38 :: 39 :: 40 :: []) (fun k => [(5, .int .i64 ((k : Int) - 1))]) (fun k => H) (fun k => k ≤ a.length ∧ a.drop k = b.drop k) (fun k => k) a.length rfl ⟨Nat.le_refl _, by rw [List.drop_length, hl, List.drop_length]⟩ ⟨rfl, trivial⟩ (HLe.refl _) ?_
   rintro k ⟨hk, hd⟩
   dsimp only at hk hd ⊢
   refine AWp.of zU (dok _) rfl ?_
   by_cases h0 : k = 0
   ·subst h0
    have hab : a = b := by simpa using hd
    have hxy : x = y := by rw [← ea, ← eb, hab]
    rw [if_neg (by omega), if_neg (by omega)]
    (repeat' ((conv => whnf); first | refine Then.mk ?_ | left | refine zd ?_ | (refine Both.mk ?_ ?_ <;> intro hc <;> try exact wX hc) | (intro c hc; (try (simp only [AH.zA] at hc; repeat (have hn := hc.1; replace hc := hc.2)))))) <;> (try (conv => whnf))
   ·obtain ⟨j, rfl⟩ : ∃ j, k = j + 1 := ⟨k - 1, by omega⟩
    have hj : ((j + 1 : Nat) : Int) - 1 = (j : Int) := by omega
    have ga := dA_gi (l := a) (i := j) (by omega)
    have gb := dA_gi (l := b) (i := j) (by omega)
    rw [hj]
    by_cases hlt : a.getD j 0 < b.getD j 0
    ·have hres := dv_less oa (by omega) (by omega) hd hlt
     rw [if_pos (by omega)]
     generalize a.getD j 0 = p at *
     generalize b.getD j 0 = q at *
     (repeat' ((conv => whnf); first | refine Then.mk ?_ | left | refine zd ?_ | (refine Both.mk ?_ ?_ <;> intro hc <;> try exact wX hc) | (intro c hc; (try (simp only [AH.zA] at hc; repeat (have hn := hc.1; replace hc := hc.2)))))) <;> (try (conv => whnf))
    ·by_cases hgt : b.getD j 0 < a.getD j 0
     ·have hres := dv_less ob (by omega) (by omega) hd.symm hgt
      rw [if_neg (by omega), if_pos (by omega)]
      generalize a.getD j 0 = p at *
      generalize b.getD j 0 = q at *
      (repeat' ((conv => whnf); first | refine Then.mk ?_ | left | refine zd ?_ | (refine Both.mk ?_ ?_ <;> intro hc <;> try exact wX hc) | (intro c hc; (try (simp only [AH.zA] at hc; repeat (have hn := hc.1; replace hc := hc.2)))))) <;> (try (conv => whnf))
     ·have hd2 : a.drop j = b.drop j := by
       have hja : j < a.length := by omega
       have hjb : j < b.length := by omega
       rw [List.drop_eq_getElem_cons hja, List.drop_eq_getElem_cons hjb, hd]
       have e1 : a.getD j 0 = a[j] := by rw [List.getD_eq_getElem?_getD, List.getElem?_eq_getElem hja]; rfl
       have e2 : b.getD j 0 = b[j] := by rw [List.getD_eq_getElem?_getD, List.getElem?_eq_getElem hjb]; rfl
       congr 1
       omega
      generalize a.getD j 0 = p at *
      generalize b.getD j 0 = q at *
      (repeat' ((conv => whnf); first | refine Then.mk ?_ | left | refine zd ?_ | (refine Both.mk ?_ ?_ <;> intro hc <;> try exact wX hc) | (intro c hc; (try (simp only [AH.zA] at hc; repeat (have hn := hc.1; replace hc := hc.2)))))) <;> (try (conv => whnf))
      exact ⟨j, ⟨by omega, hd2⟩, Nat.lt_succ_self _, ⟨rfl, trivial⟩, HLe.refl _⟩
open Go.Fw Go
def nR (g : Bool) (n : Nat) : AV := .agg [.bool g, .cs (dA (dg n)) (dg n).length]
theorem nN_R (g : Bool) (n : Nat) : nN g n = nR (g && !decide (n = 0)) n := rfl
theorem nN_false (n : Nat) : nN false n = nR false n := rfl
set_option maxRecDepth 8000 in
theorem neg_c (g : Bool) (x : Nat) (hx : (dg x).length ≤ 100000000) (H : AH) :
  ACall Tryz.prog 121 [nR g x] H (fun y H' => y = nN (!g) x ∧ H' = H) := by
 refine ACall.back ?_
 have hnm := fun H => normal_k (!g) (dg x) (dok_dg x) (by omega) H
 rw [dv_dg] at hnm
 unfold nR
 refine zQ zU (dok _) Tryz.func121 rfl (by decide) rfl ?_
 (repeat' ((conv => whnf); first | refine Then.mk ?_ | left | refine zg ?_ (hnm _) | refine zgg ?_ (hnm _) | refine zd ?_ | (refine Both.mk ?_ ?_ <;> intro hc <;> try exact wX hc) | (intro c hc; (try (simp only [AH.zA] at hc; repeat (have hn := hc.1; replace hc := hc.2)))) | (refine ACall.to (hnm _) ?_))) <;> (try (conv => whnf))
 (first | ((repeat' (first | (with_reducible exact HLe.refl _) | (with_reducible assumption) | apply HLe.push | refine HLe.set_of _ _ ?_ ?_ | refine HLe.del _ ?_ ?_ | rw [AH.zR _ _ (by (first | assumption | omega | exact Ne.symm (by assumption) | exact AH.ne_none (by assumption) (by assumption) | exact AH.none_ne (by assumption) (by assumption) | exact (AH.none_set (by assumption)).1 | exact Ne.symm (AH.none_set (by assumption)).1))])); done) | ((repeat' (first | refine HLe.set_of _ _ ?_ ?_ | refine HLe.del _ ?_ ?_)) <;> (first | assumption | exact HLe.refl _ | exact HLe.none (by assumption) (by assumption) | (simp_all; done))))
set_option maxRecDepth 8000 in
theorem add_c (g k : Bool) (x y : Nat) (hx : (dg x).length ≤ 50000000) (hy : (dg y).length ≤ 50000000) (H : AH) :
  ACall Tryz.prog 124 [nR g x, nR k y] H (fun v H' => v = (if g = k then nN g (x + y) else if x < y then nN k (y - x) else nN g (x - y)) ∧ H' = H) := by
 refine ACall.back ?_
 unfold nR
 have oa := dok_dg x
 have ob := dok_dg y
 by_cases hgk : g = k
 ·subst hgk
  rw [if_pos rfl]
  obtain ⟨o1, o2, o3⟩ := plusL_ok oa ob
  obtain ⟨g1, g2, g3⟩ := plusN_ge (dg x) (dg y)
  have hp := fun H => plus_c (dg x) (dg y) oa ob (by omega) (by omega) H
  have hnm := fun H => normal_k g (plusL (dg x) (dg y)) o1 (by omega) H
  rw [o2, dv_dg, dv_dg] at hnm
  generalize plusL (dg x) (dg y) = s at *
  unfold nN at hnm ⊢
  cases g with
  | true =>
   refine zQ zU (dok _) Tryz.func124 rfl (by decide) rfl ?_
   (repeat' ((conv => whnf); first | refine Then.mk ?_ | left | refine zg ?_ (hp _) | refine zg ?_ (hnm _) | refine zgg ?_ (hp _) | refine zgg ?_ (hnm _) | refine zd ?_ | (refine Both.mk ?_ ?_ <;> intro hc <;> try exact wX hc) | (intro c hc; (try (simp only [AH.zA] at hc; repeat (have hn := hc.1; replace hc := hc.2)))) | (refine ACall.to (hp _) ?_) | (refine ACall.to (hnm _) ?_))) <;> (try (conv => whnf))
   (first | ((repeat' (first | (with_reducible exact HLe.refl _) | (with_reducible assumption) | apply HLe.push | refine HLe.set_of _ _ ?_ ?_ | refine HLe.del _ ?_ ?_ | rw [AH.zR _ _ (by (first | assumption | omega | exact Ne.symm (by assumption) | exact AH.ne_none (by assumption) (by assumption) | exact AH.none_ne (by assumption) (by assumption) | exact (AH.none_set (by assumption)).1 | exact Ne.symm (AH.none_set (by assumption)).1))])); done) | ((repeat' (first | refine HLe.set_of _ _ ?_ ?_ | refine HLe.del _ ?_ ?_)) <;> (first | assumption | exact HLe.refl _ | exact HLe.none (by assumption) (by assumption) | (simp_all; done))))
  | false =>
   refine zQ zU (dok _) Tryz.func124 rfl (by decide) rfl ?_
   (repeat' ((conv => whnf); first | refine Then.mk ?_ | left | refine zg ?_ (hp _) | refine zg ?_ (hnm _) | refine zgg ?_ (hp _) | refine zgg ?_ (hnm _) | refine zd ?_ | (refine Both.mk ?_ ?_ <;> intro hc <;> try exact wX hc) | (intro c hc; (try (simp only [AH.zA] at hc; repeat (have hn := hc.1; replace hc := hc.2)))) | (refine ACall.to (hp _) ?_) | (refine ACall.to (hnm _) ?_))) <;> (try (conv => whnf))
   (first | ((repeat' (first | (with_reducible exact HLe.refl _) | (with_reducible assumption) | apply HLe.push | refine HLe.set_of _ _ ?_ ?_ | refine HLe.del _ ?_ ?_ | rw [AH.zR _ _ (by (first | assumption | omega | exact Ne.symm (by assumption) | exact AH.ne_none (by assumption) (by assumption) | exact AH.none_ne (by assumption) (by assumption) | exact (AH.none_set (by assumption)).1 | exact Ne.symm (AH.none_set (by assumption)).1))])); done) | ((repeat' (first | refine HLe.set_of _ _ ?_ ?_ | refine HLe.del _ ?_ ?_)) <;> (first | assumption | exact HLe.refl _ | exact HLe.none (by assumption) (by assumption) | (simp_all; done))))
 ·rw [if_neg hgk]
  have hcp := fun H => compared_c x y (by omega) (by omega) H
  have hcv : cmpV x y = if x < y then -1 else if y < x then 1 else 0 := rfl
  have hshort : ∀ u v : Nat, u ≤ v → (dg u).length ≤ (dg v).length := fun u v h => by
   by_cases hl : (dg v).length < (dg u).length
   ·have := dg_short hl; omega
   ·omega
  by_cases hlt : x < y
  ·rw [if_pos hlt]
   rw [if_pos hlt] at hcv
   rw [hcv] at hcp
   obtain ⟨o1, o2, o3⟩ := minL_ok ob oa (hshort x y (by omega)) (by rw [dv_dg, dv_dg]; omega)
   have hp := fun H => minus_c (dg y) (dg x) ob oa (by omega) H
   have hnm := fun H => normal_k k (minL (dg y) (dg x)) o1 (by omega) H
   rw [o2, dv_dg, dv_dg, o3] at hnm
   generalize minL (dg y) (dg x) = s at *
   unfold nN at hnm ⊢
   cases g <;> cases k <;> first | exact absurd rfl hgk | skip
   all_goals
    refine zQ zU (dok _) Tryz.func124 rfl (by decide) rfl ?_
    (repeat' ((conv => whnf); first | refine Then.mk ?_ | left | refine zg ?_ (hp _) | refine zg ?_ (hnm _) | refine zg ?_ (hcp _) | refine zgg ?_ (hp _) | refine zgg ?_ (hnm _) | refine zgg ?_ (hcp _) | refine zd ?_ | (refine Both.mk ?_ ?_ <;> intro hc <;> try exact wX hc) | (intro c hc; (try (simp only [AH.zA] at hc; repeat (have hn := hc.1; replace hc := hc.2)))) | (refine ACall.to (hp _) ?_) | (refine ACall.to (hnm _) ?_) | (refine ACall.to (hcp _) ?_))) <;> (try (conv => whnf))
    (first | ((repeat' (first | (with_reducible exact HLe.refl _) | (with_reducible assumption) | apply HLe.push | refine HLe.set_of _ _ ?_ ?_ | refine HLe.del _ ?_ ?_ | rw [AH.zR _ _ (by (first | assumption | omega | exact Ne.symm (by assumption) | exact AH.ne_none (by assumption) (by assumption) | exact AH.none_ne (by assumption) (by assumption) | exact (AH.none_set (by assumption)).1 | exact Ne.symm (AH.none_set (by assumption)).1))])); done) | ((repeat' (first | refine HLe.set_of _ _ ?_ ?_ | refine HLe.del _ ?_ ?_)) <;> (first | assumption | exact HLe.refl _ | exact HLe.none (by assumption) (by assumption) | (simp_all; done))))
  ·rw [if_neg hlt]
   obtain ⟨o1, o2, o3⟩ := minL_ok oa ob (hshort y x (by omega)) (by rw [dv_dg, dv_dg]; omega)
   have hp := fun H => minus_c (dg x) (dg y) oa ob (by omega) H
   have hnm := fun H => normal_k g (minL (dg x) (dg y)) o1 (by omega) H
   rw [o2, dv_dg, dv_dg, o3] at hnm
   have hc0 : 0 ≤ cmpV x y := by rw [hcv, if_neg hlt]; split <;> omega
   generalize cmpV x y = cv at *
   generalize minL (dg x) (dg y) = s at *
   unfold nN at hnm ⊢
   cases g <;> cases k <;> first | exact absurd rfl hgk | skip
   all_goals
    refine zQ zU (dok _) Tryz.func124 rfl (by decide) rfl ?_
    (repeat' ((conv => whnf); first | refine Then.mk ?_ | left | refine zg ?_ (hp _) | refine zg ?_ (hnm _) | refine zg ?_ (hcp _) | refine zgg ?_ (hp _) | refine zgg ?_ (hnm _) | refine zgg ?_ (hcp _) | refine zd ?_ | (refine Both.mk ?_ ?_ <;> intro hc <;> try exact wX hc) | (intro c hc; (try (simp only [AH.zA] at hc; repeat (have hn := hc.1; replace hc := hc.2)))) | (refine ACall.to (hp _) ?_) | (refine ACall.to (hnm _) ?_) | (refine ACall.to (hcp _) ?_))) <;> (try (conv => whnf))
    (first | ((repeat' (first | (with_reducible exact HLe.refl _) | (with_reducible assumption) | apply HLe.push | refine HLe.set_of _ _ ?_ ?_ | refine HLe.del _ ?_ ?_ | rw [AH.zR _ _ (by (first | assumption | omega | exact Ne.symm (by assumption) | exact AH.ne_none (by assumption) (by assumption) | exact AH.none_ne (by assumption) (by assumption) | exact (AH.none_set (by assumption)).1 | exact Ne.symm (AH.none_set (by assumption)).1))])); done) | ((repeat' (first | refine HLe.set_of _ _ ?_ ?_ | refine HLe.del _ ?_ ?_)) <;> (first | assumption | exact HLe.refl _ | exact HLe.none (by assumption) (by assumption) | (simp_all; done))))
set_option maxRecDepth 8000 in
theorem sub_c (g k : Bool) (x y : Nat) (hx : (dg x).length ≤ 50000000) (hy : (dg y).length ≤ 50000000) (H : AH) :
  ACall Tryz.prog 120 [nR g x, nR k y] H (fun v H' => v = (if g = (!k && !decide (y = 0)) then nN g (x + y) else if x < y then nN (!k && !decide (y = 0)) (y - x) else nN g (x - y)) ∧ H' = H) := by
 refine ACall.back ?_
 have h1 := fun H => neg_c k y (by omega) H
 have h2 := fun H => add_c g (!k && !decide (y = 0)) x y hx hy H
 have hsh : ∃ r n, (if g = (!k && !decide (y = 0)) then nN g (x + y) else if x < y then nN (!k && !decide (y = 0)) (y - x) else nN g (x - y)) = nR r n := by
  split
  ·exact ⟨_, _, nN_R _ _⟩
  ·split
   ·exact ⟨_, _, nN_R _ _⟩
   ·exact ⟨_, _, nN_R _ _⟩
 obtain ⟨r, n, hrn⟩ := hsh
 rw [hrn] at h2 ⊢
 simp only [nN_R] at h1
 generalize (!k && !decide (y = 0)) = m at *
 unfold nR at *
 refine zQ zU (dok _) Tryz.func120 rfl (by decide) rfl ?_
 (repeat' ((conv => whnf); first | refine Then.mk ?_ | left | refine zg ?_ (h1 _) | refine zg ?_ (h2 _) | refine zgg ?_ (h1 _) | refine zgg ?_ (h2 _) | refine zd ?_ | (refine Both.mk ?_ ?_ <;> intro hc <;> try exact wX hc) | (intro c hc; (try (simp only [AH.zA] at hc; repeat (have hn := hc.1; replace hc := hc.2)))) | (refine ACall.to (h1 _) ?_) | (refine ACall.to (h2 _) ?_))) <;> (try (conv => whnf))
 (first | ((repeat' (first | (with_reducible exact HLe.refl _) | (with_reducible assumption) | apply HLe.push | refine HLe.set_of _ _ ?_ ?_ | refine HLe.del _ ?_ ?_ | rw [AH.zR _ _ (by (first | assumption | omega | exact Ne.symm (by assumption) | exact AH.ne_none (by assumption) (by assumption) | exact AH.none_ne (by assumption) (by assumption) | exact (AH.none_set (by assumption)).1 | exact Ne.symm (AH.none_set (by assumption)).1))])); done) | ((repeat' (first | refine HLe.set_of _ _ ?_ ?_ | refine HLe.del _ ?_ ?_)) <;> (first | assumption | exact HLe.refl _ | exact HLe.none (by assumption) (by assumption) | (simp_all; done))))
def mulSt (a : List Nat) (y : Nat) : Nat → List Nat × Nat
 | 0 => ([], 0)
 | i + 1 => ((mulSt a y i).1 ++ [((mulSt a y i).2 + a.getD i 0 * y) % 10000], ((mulSt a y i).2 + a.getD i 0 * y) / 10000)
structure MuOk (a : List Nat) (y i : Nat) : Prop where
 ok : DOk (mulSt a y i).1
 len : (mulSt a y i).1.length = i
 c : (mulSt a y i).2 < 10000
 sum : dv (mulSt a y i).1 + 10000 ^ i * (mulSt a y i).2 = dv (a.take i) * y
theorem mul_bd {x y c : Nat} (hx : x < 10000) (hy : y < 10000) (hc : c < 10000) : c + x * y < 100000000 := by
 have h1 : x * y ≤ 9999 * y := Nat.mul_le_mul_right _ (by omega)
 omega
theorem mul_ok {a : List Nat} (ha : DOk a) {y : Nat} (hy : y < 10000) : ∀ i, MuOk a y i
 | 0 => ⟨DOk.nil, rfl, show (0 : Nat) < 10000 by decide, by simp [mulSt, dv]⟩
 | i + 1 => by
  obtain ⟨h1, h2, h3, h4⟩ := mul_ok ha hy i
  have p1 := ha.at i
  have hb := mul_bd p1 hy h3
  refine ⟨h1.app (DOk.one (Nat.mod_lt _ (by decide))), ?_, ?_, ?_⟩
  ·show ((mulSt a y i).1 ++ [_]).length = _
   rw [List.length_append, List.length_singleton, h2]
  ·show ((mulSt a y i).2 + a.getD i 0 * y) / 10000 < 10000
   omega
  ·show dv ((mulSt a y i).1 ++ [((mulSt a y i).2 + a.getD i 0 * y) % 10000]) + 10000 ^ (i + 1) * (((mulSt a y i).2 + a.getD i 0 * y) / 10000) = _
   rw [dv_app, h2, dv_take_succ, Nat.pow_succ, Nat.mul_assoc, Nat.add_mul, Nat.mul_assoc]
   generalize a.getD i 0 * y = x at *
   generalize (mulSt a y i).2 = c at *
   have e : dv [(c + x) % 10000] = (c + x) % 10000 := by simp [dv]
   have e2 : 10000 ^ i * ((c + x) % 10000) + 10000 ^ i * (10000 * ((c + x) / 10000)) = 10000 ^ i * c + 10000 ^ i * x := by
    rw [← Nat.mul_add, ← Nat.mul_add]; congr 1; omega
   rw [e]; omega
theorem dA_wr {l : List Nat} {i : Nat} (h : i < l.length) (d : Nat) : wrA (dA l) i [.int .i64 (d : Nat)] = dA (l.set i d) := by
 unfold wrA dA
 rw [List.set_eq_take_append_cons_drop, if_pos h]
 simp [List.map_take, List.map_drop]
theorem dA_zeros (n : Nat) : (List.replicate n [AV.int .i64 0]).flatten = dA (List.replicate n 0) := by
 induction n with
 | zero => rfl
 | succ n ih => rw [List.replicate_succ, List.flatten_cons, ih, List.replicate_succ]; rfl
theorem dok_zeros (n : Nat) : DOk (List.replicate n 0) := fun d hd => by rw [List.eq_of_mem_replicate hd]; decide
theorem dv_zeros (n : Nat) : dv (List.replicate n 0) = 0 := by
 induction n with
 | zero => rfl
 | succ n ih => rw [List.replicate_succ]; show 0 + 10000 * dv _ = 0; rw [ih]
theorem set_at {α : Type} (a c : List α) (x y : α) : (a ++ x :: c).set a.length y = a ++ y :: c := by
 rw [List.set_append_right _ _ (Nat.le_refl _), Nat.sub_self]; rfl
set_option maxRecDepth 8000 in
set_option maxHeartbeats 4000000 in
theorem mul_c (g k : Bool) (x y : Nat) (hx : (dg x).length ≤ 50000000) (hy0 : y ≠ 0) (hy : y < 10000) (H : AH) :
  ACall Tryz.prog 119 [nR g x, nR k y] H (fun v H' => v = nN (g != k) (x * y) ∧ H' = H) := by
 refine ACall.back ?_
 unfold nR
 rw [dg_one hy hy0]
 have hv := dv_dg x
 have oa := dok_dg x
 have hall := mul_ok oa hy
 obtain ⟨a, ha⟩ : ∃ a, a = dg x := ⟨_, rfl⟩
 rw [← ha] at hx hv oa hall ⊢
 have hal : (dA a).length = a.length := by simp
 have hres : DOk ((mulSt a y a.length).1 ++ [(mulSt a y a.length).2]) ∧ dv ((mulSt a y a.length).1 ++ [(mulSt a y a.length).2]) = x * y := by
  have h := hall a.length
  refine ⟨h.ok.app (DOk.one h.c), ?_⟩
  have hs := h.sum
  rw [List.take_length, hv] at hs
  rw [dv_app, h.len, ← hs]
  simp [dv]
 have hnm := fun H => normal_k (g != k) ((mulSt a y a.length).1 ++ [(mulSt a y a.length).2]) hres.1 (by rw [List.length_append, (hall a.length).len]; simp; omega) H
 rw [hres.2] at hnm
 have e0 : IntKind.i64.wrap ((a.length : Int) + ([y] : List Nat).length) = (a.length + 1 : Nat) := by
  rw [show (([y] : List Nat).length : Int) = 1 from rfl, IntKind.wrap_i64]; omega
 refine zQ zU (dok _) Tryz.func119 rfl (by decide) rfl ?_
 (repeat' ((conv => whnf); first | left | refine zd ?_ | (refine Both.mk ?_ ?_ <;> intro hc <;> try exact wX hc) | (intro c hc; (try (simp only [AH.zA] at hc; repeat (have hn := hc.1; replace hc := hc.2)))))) <;> (try (conv => whnf))
 refine Then.mk (AWq.in ?_)
 rename_i p2 hp2 p3 n32 hp3 n43
 obtain ⟨p4, rfl⟩ : ∃ p4, p4 = c := ⟨c, rfl⟩
 have hp4 : H p4 = none := by assumption
 have m32 : p3 ≠ p2 := by assumption
 have m43 : p4 ≠ p3 := by assumption
 have m42 : p4 ≠ p2 := by assumption
 show AWp _ _ _ _ _ _ _ _ _ (((AH.set H p2 (.row [.bool g, .cs (dA a) a.length] 0)).set p3 (.row [.bool k, .cs (dA [y]) 1] 0)).set p4 (.row [.bool false, .nils] 0))
 have b2 : (((AH.set H p2 (.row [.bool g, .cs (dA a) a.length] 0)).set p3 (.row [.bool k, .cs (dA [y]) 1] 0)).set p4 (.row [.bool false, .nils] 0)) p2 = some (.row [.bool g, .cs (dA a) a.length] 0) := by rw [AH.zR _ _ (Ne.symm m42), AH.zR _ _ (Ne.symm m32), AH.zC]
 have b3 : (((AH.set H p2 (.row [.bool g, .cs (dA a) a.length] 0)).set p3 (.row [.bool k, .cs (dA [y]) 1] 0)).set p4 (.row [.bool false, .nils] 0)) p3 = some (.row [.bool k, .cs (dA [y]) 1] 0) := by rw [AH.zR _ _ (Ne.symm m43), AH.zC]
 have b4 : (((AH.set H p2 (.row [.bool g, .cs (dA a) a.length] 0)).set p3 (.row [.bool k, .cs (dA [y]) 1] 0)).set p4 (.row [.bool false, .nils] 0)) p4 = some (.row [.bool false, .nils] 0) := AH.zC _ _ _
 have bl : HLe H (((AH.set H p2 (.row [.bool g, .cs (dA a) a.length] 0)).set p3 (.row [.bool k, .cs (dA [y]) 1] 0)).set p4 (.row [.bool false, .nils] 0)) := HLe.set_of _ _ (HLe.set_of _ _ (HLe.fresh _ hp2) hp3) hp4
 generalize (((AH.set H p2 (.row [.bool g, .cs (dA a) a.length] 0)).set p3 (.row [.bool k, .cs (dA [y]) 1] 0)).set p4 (.row [.bool false, .nils] 0)) = HB at *
 refine AWp.of zU (dok _) rfl ?_
 have e1 : IntKind.i64.wrap ((a.length : Int) + 1) = (a.length + 1 : Nat) := by rw [IntKind.wrap_i64]; omega
 (repeat' ((conv => whnf); first | left | refine zd ?_ | (refine Both.mk ?_ ?_ <;> intro hc <;> try exact wX hc) | (intro c hc; (try (simp only [AH.zA] at hc; repeat (have hn := hc.1; replace hc := hc.2)))))) <;> (try (conv => whnf))
 refine Then.mk ?_
 (repeat' ((conv => whnf); first | left | refine zd ?_ | (refine Both.mk ?_ ?_ <;> intro hc <;> try exact wX hc) | (intro c hc; (try (simp only [AH.zA] at hc; repeat (have hn := hc.1; replace hc := hc.2)))))) <;> (try (conv => whnf))
 refine Then.mk (AWq.in ?_)
 have hpc2 : p2 ≠ c := AH.ne_none hc b2
 have hpc3 : p3 ≠ c := AH.ne_none hc b3
 have hpc4 : p4 ≠ c := AH.ne_none hc b4
 have hcH : HB c = none := hc
 have hL1 : ((a.length : Int) + 1).toNat = a.length + 1 := by omega
 refine AWp_cut (H2 := HB.set c (.row (dA (List.replicate (a.length + 1) 0)) 0)) [(2, .ptr p2 0 0), (3, .ptr p3 0 0), (4, .ptr p4 0 0), (5, .sl c 0 1 0 (a.length + 1) none), (6, .int .i64 0)] ⟨rfl, rfl, rfl, congrArg (fun n => AV.sl c 0 1 0 n none) hL1, rfl, trivial⟩ (fun _ => rfl) (HLe.of_eq ?_) ?_
 ·rw [← dA_zeros, ← hL1]
  rfl
 refine AWp.of zU (dok _) rfl ?_
 (repeat' ((conv => whnf); first | refine Then.mk ?_ | left | refine zd ?_ | (refine Both.mk ?_ ?_ <;> intro hc <;> try exact wX hc) | (intro c hc; (try (simp only [AH.zA] at hc; repeat (have hn := hc.1; replace hc := hc.2)))))) <;> (try (conv => whnf))
 refine zT (σ := Nat) (6 :: 7 :: 8 :: 9 :: 18 :: 19 :: 20 :: 21 :: 22 :: 23 :: 24 :: 25 :: 26 :: 27 :: 28 :: 29 :: 30 :: 31 :: 32 :: 33 :: 34 :: 35 :: 36 :: 37 :: 38 :: 39 :: 40 :: 41 :: 42 :: 43 :: 44 :: 45 :: 46 :: 47 :: 48 :: 49 :: 50 :: 51 :: 52 :: 53 :: 54 :: 55 :: 56 :: 57 :: 58 :: 59 :: 60 :: 61 :: 62 :: 63 :: 64 :: 65 :: 66 :: 67 :: 68 :: []) (fun i => [(6, .int .i64 i)]) (fun i => HB.set c (.row (dA ((mulSt a y i).1 ++ (mulSt a y i).2 :: List.replicate (a.length - i) 0)) 0)) (fun i => i ≤ a.length) (fun i => a.length - i) 0 rfl (Nat.zero_le _) ⟨rfl, trivial⟩ ?_ ?_
 ·exact HLe.refl _
 ·intro i hi
  dsimp only at hi ⊢
  refine AWp.of zU (dok _) rfl ?_
  have hok := hall i
  have hbd := mul_bd (oa.at i) hy hok.c
  have k2 : (HB.set c (.row (dA ((mulSt a y i).1 ++ (mulSt a y i).2 :: List.replicate (a.length - i) 0)) 0)) p2 = some (.row [.bool g, .cs (dA a) a.length] 0) := by rw [AH.zR _ _ hpc2]; exact b2
  have k3 : (HB.set c (.row (dA ((mulSt a y i).1 ++ (mulSt a y i).2 :: List.replicate (a.length - i) 0)) 0)) p3 = some (.row [.bool k, .cs (dA [y]) 1] 0) := by rw [AH.zR _ _ hpc3]; exact b3
  have k4 : (HB.set c (.row (dA ((mulSt a y i).1 ++ (mulSt a y i).2 :: List.replicate (a.length - i) 0)) 0)) p4 = some (.row [.bool false, .nils] 0) := by rw [AH.zR _ _ hpc4]; exact b4
  by_cases hil : i < a.length
  ·have hnx : mulSt a y (i + 1) = ((mulSt a y i).1 ++ [((mulSt a y i).2 + a.getD i 0 * y) % 10000], ((mulSt a y i).2 + a.getD i 0 * y) / 10000) := rfl
   have hga := dA_gi hil
   have hl1 := hok.len
   have hc0 := hok.c
   have hxb := oa.at i
   generalize a.getD i 0 = x0 at *
   generalize (mulSt a y i).1 = lo at *
   generalize (mulSt a y i).2 = hi0 at *
   obtain ⟨v, hv2⟩ : ∃ v, v = hi0 + x0 * y := ⟨_, rfl⟩
   rw [← hv2] at hnx hbd
   obtain ⟨m, hm⟩ : ∃ m, a.length - i = m + 1 := ⟨a.length - i - 1, by omega⟩
   rw [hm] at k2 k3 k4 ⊢
   have hxy : x0 * y ≤ 99999999 := by omega
   have hxyi : (x0 : Int) * y = (x0 * y : Nat) := (Int.natCast_mul _ _).symm
   have e2 : IntKind.i64.wrap ((x0 : Int) * y) = (x0 * y : Nat) := by rw [hxyi, IntKind.wrap_i64]; omega
   have e3 : IntKind.i64.wrap ((hi0 : Int) + (x0 * y : Nat)) = v := by rw [IntKind.wrap_i64]; omega
   have e4 : IntKind.i64.wrap ((v : Int) + 0) = v := by rw [IntKind.wrap_i64]; omega
   have e7 : IntKind.i64.wrap ((i : Int) + ((0 : Nat) : Int)) = i := by rw [IntKind.wrap_i64]; omega
   have e5 : (v : Int).tmod 10000 = (v % 10000 : Nat) := by rw [Int.tmod_eq_emod_of_nonneg (by omega)]; omega
   have e6 : IntKind.i64.wrap ((v : Int).tdiv 10000) = (v / 10000 : Nat) := by rw [Int.tdiv_eq_ediv_of_nonneg (by omega), IntKind.wrap_i64]; omega
   have f1 : ∀ z : Nat, (dA (lo ++ z :: List.replicate (m + 1) 0))[(i : Int).toNat]? = some (.int .i64 z) := fun z => by
    rw [Int.toNat_natCast, dA_get (by simp; omega), ← hl1]
    simp
   have f2 : ∀ (z : Nat) (w : Nat), wrA (dA (lo ++ z :: List.replicate (m + 1) 0)) (0 + (i : Int).toNat * 1) [.int .i64 w] = dA (lo ++ w :: List.replicate (m + 1) 0) := fun z w => by
    rw [Nat.zero_add, Nat.mul_one, Int.toNat_natCast, dA_wr (by simp; omega), ← hl1, set_at]
   have f3 : ∀ (z : Nat) (w : Nat), wrA (dA (lo ++ z :: List.replicate (m + 1) 0)) (0 + ((i : Int) + 1).toNat * 1) [.int .i64 w] = dA ((lo ++ [z]) ++ w :: List.replicate m 0) := fun z w => by
    have e : lo ++ z :: List.replicate (m + 1) 0 = (lo ++ [z]) ++ 0 :: List.replicate m 0 := by rw [List.replicate_succ]; simp
    rw [Nat.zero_add, Nat.mul_one, show ((i : Int) + 1).toNat = i + 1 by omega, e, dA_wr (by simp; omega)]
    have e2 : i + 1 = (lo ++ [z]).length := by simp [hl1]
    rw [e2, set_at]
   have hgy : (dA [y])[Int.toNat 0]? = some (.int .i64 y) := rfl
   have hyl : (dA [y]).length = 1 := rfl
   have hrl : ∀ z : Nat, (dA (lo ++ z :: List.replicate (m + 1) 0)).length = a.length + 1 := fun z => by simp; omega
   have hset : ∀ l l', (HB.set c (.row l 0)).set c (.row l' 0) = HB.set c (.row l' 0) := fun l l' => AH.zS _ _ _ _
   (repeat' ((conv => whnf); first | refine Then.mk ?_ | left | refine zd ?_ | (refine Both.mk ?_ ?_ <;> intro hc <;> try exact wX hc) | (intro c hc; (try (simp only [AH.zA] at hc; repeat (have hn := hc.1; replace hc := hc.2)))))) <;> (try (conv => whnf))
   refine zT (σ := Nat) (7 :: 8 :: 9 :: 25 :: 26 :: 27 :: 28 :: 29 :: 30 :: 31 :: 32 :: 33 :: 34 :: 35 :: 36 :: 37 :: 38 :: 39 :: 40 :: 41 :: 42 :: 43 :: 44 :: 45 :: 46 :: 47 :: 48 :: 49 :: 50 :: 51 :: 52 :: 53 :: 54 :: 55 :: 56 :: 57 :: 58 :: 59 :: 60 :: []) (fun j => [(7, .int .i64 (if j = 0 then 0 else (v / 10000 : Nat))), (8, .int .i64 j)]) (fun j => HB.set c (.row (dA (lo ++ (if j = 0 then hi0 else v % 10000) :: List.replicate (m + 1) 0)) 0)) (fun j => j ≤ 1) (fun j => 1 - j) 0 rfl (Nat.zero_le _) ⟨rfl, rfl, trivial⟩ (HLe.refl _) ?_
   intro j hj
   refine AWp.of zU (dok _) rfl ?_
   dsimp only at hj ⊢
   by_cases hj0 : j = 0
   ·subst hj0
    rw [if_pos rfl, if_pos rfl]
    have g1 := f1 hi0
    have g2 := f2 hi0 (v % 10000)
    have g3 := hrl hi0
    have kc : (HB.set c (.row (dA (lo ++ hi0 :: List.replicate (m + 1) 0)) 0)) c = some (.row (dA (lo ++ hi0 :: List.replicate (m + 1) 0)) 0) := AH.zC _ _ _
    have hfin : (HB.set c (.row (dA (lo ++ hi0 :: List.replicate (m + 1) 0)) 0)).set c (.row (wrA (dA (lo ++ hi0 :: List.replicate (m + 1) 0)) (0 + (i : Int).toNat * 1) [.int .i64 (v % 10000 : Nat)]) 0) = HB.set c (.row (dA (lo ++ (if 1 = 0 then hi0 else v % 10000) :: List.replicate (m + 1) 0)) 0) := by
     rw [hset, g2, if_neg (by decide)]
    generalize (HB.set c (.row (dA (lo ++ hi0 :: List.replicate (m + 1) 0)) 0)) = G at *
    generalize dA (lo ++ hi0 :: List.replicate (m + 1) 0) = R at *
    (repeat' ((conv => whnf); first | refine Then.mk ?_ | left | refine zd ?_ | (refine Both.mk ?_ ?_ <;> intro hc <;> try exact wX hc) | (intro c hc; (try (simp only [AH.zA] at hc; repeat (have hn := hc.1; replace hc := hc.2)))))) <;> (try (conv => whnf))
    exact ⟨1, Nat.le_refl _, by decide, ⟨rfl, rfl, trivial⟩, HLe.of_eq hfin.symm⟩
   ·have hj1 : j = 1 := by omega
    subst hj1
    rw [if_neg hj0, if_neg hj0]
    have g2 := f3 (v % 10000) (v / 10000)
    have g3 := hrl (v % 10000)
    have kc : (HB.set c (.row (dA (lo ++ v % 10000 :: List.replicate (m + 1) 0)) 0)) c = some (.row (dA (lo ++ v % 10000 :: List.replicate (m + 1) 0)) 0) := AH.zC _ _ _
    have k2 : (HB.set c (.row (dA (lo ++ v % 10000 :: List.replicate (m + 1) 0)) 0)) p2 = some (.row [.bool g, .cs (dA a) a.length] 0) := by rw [AH.zR _ _ hpc2]; exact b2
    have k3 : (HB.set c (.row (dA (lo ++ v % 10000 :: List.replicate (m + 1) 0)) 0)) p3 = some (.row [.bool k, .cs (dA [y]) 1] 0) := by rw [AH.zR _ _ hpc3]; exact b3
    have hfin : (HB.set c (.row (dA (lo ++ v % 10000 :: List.replicate (m + 1) 0)) 0)).set c (.row (wrA (dA (lo ++ v % 10000 :: List.replicate (m + 1) 0)) (0 + ((i : Int) + 1).toNat * 1) [.int .i64 (v / 10000 : Nat)]) 0) = HB.set c (.row (dA ((mulSt a y (i + 1)).1 ++ (mulSt a y (i + 1)).2 :: List.replicate (a.length - (i + 1)) 0)) 0) := by
     rw [hset, g2, hnx, show a.length - (i + 1) = m by omega]
    generalize (HB.set c (.row (dA (lo ++ v % 10000 :: List.replicate (m + 1) 0)) 0)) = G at *
    generalize dA (lo ++ v % 10000 :: List.replicate (m + 1) 0) = R at *
    (repeat' ((conv => whnf); first | refine Then.mk ?_ | left | refine zd ?_ | (refine Both.mk ?_ ?_ <;> intro hc <;> try exact wX hc) | (intro c hc; (try (simp only [AH.zA] at hc; repeat (have hn := hc.1; replace hc := hc.2)))))) <;> (try (conv => whnf))
    exact ⟨i + 1, hil, by omega, ⟨congrArg (AV.int .i64) (by omega), trivial⟩, HLe.of_eq hfin.symm⟩
  ·have hie : i = a.length := by omega
   rw [hie, Nat.sub_self] at k2 k3 k4 ⊢
   have hlen : (dA ((mulSt a y a.length).1 ++ [(mulSt a y a.length).2])).length = (a.length + 1) * 1 := by
    rw [dA_len, List.length_append, (hall a.length).len]; simp
   have hll2 : ((mulSt a y a.length).1 ++ [(mulSt a y a.length).2]).length = a.length + 1 := by
    rw [List.length_append, (hall a.length).len]; simp
   rw [hll2] at hnm
   have e3 : (mulSt a y a.length).1 ++ (mulSt a y a.length).2 :: List.replicate 0 0 = (mulSt a y a.length).1 ++ [(mulSt a y a.length).2] := rfl
   rw [e3] at k2 k3 k4 ⊢
   generalize (mulSt a y a.length).1 ++ [(mulSt a y a.length).2] = R at *
   unfold nN at hnm ⊢
   cases g <;> cases k
   all_goals
    (repeat' ((conv => whnf); first | refine Then.mk ?_ | left | refine zd ?_ | (refine Both.mk ?_ ?_ <;> intro hc <;> try exact wX hc) | (intro c hc; (try (simp only [AH.zA] at hc; repeat (have hn := hc.1; replace hc := hc.2)))))) <;> (try (conv => whnf))
    refine ACall.frz (pre := [_]) (post := []) (r := c) (v := 0) (es := 1) (n := a.length + 1) (cells := dA R) (AH.zC _ _ _) hlen ?_
    rw [AH.del_set _ _ _ hcH]
    refine ACall.to (hnm _) ?_
    (repeat' ((conv => whnf); first | refine Then.mk ?_ | left | refine zd ?_ | (refine Both.mk ?_ ?_ <;> intro hc <;> try exact wX hc) | (intro c hc; (try (simp only [AH.zA] at hc; repeat (have hn := hc.1; replace hc := hc.2)))))) <;> (try (conv => whnf))
    exact HLe.set_of _ _ bl hp4
open Go.Fw Go
set_option maxRecDepth 8000 in
theorem mul0_c (g k : Bool) (x : Nat) (hx : (dg x).length ≤ 50000000) (H : AH) :
  ACall Tryz.prog 119 [nR g x, nR k 0] H (fun v H' => v = nN (g != k) 0 ∧ H' = H) := by
 refine ACall.back ?_
 unfold nR
 rw [dg_zero]
 obtain ⟨a, ha⟩ : ∃ a, a = dg x := ⟨_, rfl⟩
 rw [← ha] at hx ⊢
 have hal : (dA a).length = a.length := by simp
 have hnm := fun H => normal_k (g != k) (List.replicate a.length 0) (dok_zeros _) (by simp; omega) H
 rw [dv_zeros, List.length_replicate] at hnm
 have hz0 : (dA (List.replicate a.length 0)).length = a.length * 1 := by simp
 refine zQ zU (dok _) Tryz.func119 rfl (by decide) rfl ?_
 (repeat' ((conv => whnf); first | left | refine zd ?_ | (refine Both.mk ?_ ?_ <;> intro hc <;> try exact wX hc) | (intro c hc; (try (simp only [AH.zA] at hc; repeat (have hn := hc.1; replace hc := hc.2)))))) <;> (try (conv => whnf))
 refine Then.mk (AWq.in ?_)
 rename_i p2 hp2 p3 n32 hp3 n43
 obtain ⟨p4, rfl⟩ : ∃ p4, p4 = c := ⟨c, rfl⟩
 have hp4 : H p4 = none := by assumption
 have m32 : p3 ≠ p2 := by assumption
 have m43 : p4 ≠ p3 := by assumption
 have m42 : p4 ≠ p2 := by assumption
 show AWp _ _ _ _ _ _ _ _ _ (((AH.set H p2 (.row [.bool g, .cs (dA a) a.length] 0)).set p3 (.row [.bool k, .cs [] 0] 0)).set p4 (.row [.bool false, .nils] 0))
 have b2 : (((AH.set H p2 (.row [.bool g, .cs (dA a) a.length] 0)).set p3 (.row [.bool k, .cs [] 0] 0)).set p4 (.row [.bool false, .nils] 0)) p2 = some (.row [.bool g, .cs (dA a) a.length] 0) := by rw [AH.zR _ _ (Ne.symm m42), AH.zR _ _ (Ne.symm m32), AH.zC]
 have b3 : (((AH.set H p2 (.row [.bool g, .cs (dA a) a.length] 0)).set p3 (.row [.bool k, .cs [] 0] 0)).set p4 (.row [.bool false, .nils] 0)) p3 = some (.row [.bool k, .cs [] 0] 0) := by rw [AH.zR _ _ (Ne.symm m43), AH.zC]
 have b4 : (((AH.set H p2 (.row [.bool g, .cs (dA a) a.length] 0)).set p3 (.row [.bool k, .cs [] 0] 0)).set p4 (.row [.bool false, .nils] 0)) p4 = some (.row [.bool false, .nils] 0) := AH.zC _ _ _
 have bl : HLe H (((AH.set H p2 (.row [.bool g, .cs (dA a) a.length] 0)).set p3 (.row [.bool k, .cs [] 0] 0)).set p4 (.row [.bool false, .nils] 0)) := HLe.set_of _ _ (HLe.set_of _ _ (HLe.fresh _ hp2) hp3) hp4
 generalize (((AH.set H p2 (.row [.bool g, .cs (dA a) a.length] 0)).set p3 (.row [.bool k, .cs [] 0] 0)).set p4 (.row [.bool false, .nils] 0)) = HB at *
 refine AWp.of zU (dok _) rfl ?_
 have e1 : IntKind.i64.wrap ((a.length : Int) + ((0 : Nat) : Int)) = (a.length : Nat) := by rw [IntKind.wrap_i64]; omega
 (repeat' ((conv => whnf); first | left | refine zd ?_ | (refine Both.mk ?_ ?_ <;> intro hc <;> try exact wX hc) | (intro c hc; (try (simp only [AH.zA] at hc; repeat (have hn := hc.1; replace hc := hc.2)))))) <;> (try (conv => whnf))
 refine Then.mk ?_
 (repeat' ((conv => whnf); first | left | refine zd ?_ | (refine Both.mk ?_ ?_ <;> intro hc <;> try exact wX hc) | (intro c hc; (try (simp only [AH.zA] at hc; repeat (have hn := hc.1; replace hc := hc.2)))))) <;> (try (conv => whnf))
 refine Then.mk (AWq.in ?_)
 have hpc2 : p2 ≠ c := AH.ne_none hc b2
 have hpc3 : p3 ≠ c := AH.ne_none hc b3
 have hpc4 : p4 ≠ c := AH.ne_none hc b4
 have hcH : HB c = none := hc
 refine AWp_cut (H2 := HB.set c (.row (dA (List.replicate a.length 0)) 0)) [(2, .ptr p2 0 0), (3, .ptr p3 0 0), (4, .ptr p4 0 0), (5, .sl c 0 1 0 a.length none), (6, .int .i64 0)] ⟨rfl, rfl, rfl, rfl, rfl, trivial⟩ (fun _ => rfl) (HLe.of_eq ?_) ?_
 ·rw [← dA_zeros]
  rfl
 refine AWp.of zU (dok _) rfl ?_
 (repeat' ((conv => whnf); first | refine Then.mk ?_ | left | refine zd ?_ | (refine Both.mk ?_ ?_ <;> intro hc <;> try exact wX hc) | (intro c hc; (try (simp only [AH.zA] at hc; repeat (have hn := hc.1; replace hc := hc.2)))))) <;> (try (conv => whnf))
 have k2 : (HB.set c (.row (dA (List.replicate a.length 0)) 0)) p2 = some (.row [.bool g, .cs (dA a) a.length] 0) := by rw [AH.zR _ _ hpc2]; exact b2
 have k3 : (HB.set c (.row (dA (List.replicate a.length 0)) 0)) p3 = some (.row [.bool k, .cs [] 0] 0) := by rw [AH.zR _ _ hpc3]; exact b3
 have k4 : (HB.set c (.row (dA (List.replicate a.length 0)) 0)) p4 = some (.row [.bool false, .nils] 0) := by rw [AH.zR _ _ hpc4]; exact b4
 have kc : (HB.set c (.row (dA (List.replicate a.length 0)) 0)) c = some (.row (dA (List.replicate a.length 0)) 0) := AH.zC _ _ _
 refine zT (σ := Nat) (6 :: 7 :: 8 :: 9 :: 18 :: 19 :: 20 :: 21 :: 22 :: 23 :: 24 :: 25 :: 26 :: 27 :: 28 :: 29 :: 30 :: 31 :: 32 :: 33 :: 34 :: 35 :: 36 :: 37 :: 38 :: 39 :: 40 :: 41 :: 42 :: 43 :: 44 :: 45 :: 46 :: 47 :: 48 :: 49 :: 50 :: 51 :: 52 :: 53 :: 54 :: 55 :: 56 :: 57 :: 58 :: 59 :: 60 :: 61 :: 62 :: 63 :: 64 :: 65 :: 66 :: 67 :: 68 :: []) (fun i => [(6, .int .i64 i)]) (fun i => HB.set c (.row (dA (List.replicate a.length 0)) 0)) (fun i => i ≤ a.length) (fun i => a.length - i) 0 rfl (Nat.zero_le _) ⟨rfl, trivial⟩ (HLe.refl _) ?_
 intro i hi
 dsimp only at hi ⊢
 refine AWp.of zU (dok _) rfl ?_
 by_cases hil : i < a.length
 ·have hw : (HB.set c (.row (dA (List.replicate a.length 0)) 0)).set c (.row (wrA (dA (List.replicate a.length 0)) (0 + ((i : Int) + 0).toNat * 1) [.int .i64 0]) 0) = HB.set c (.row (dA (List.replicate a.length 0)) 0) := by
   have e : wrA (dA (List.replicate a.length 0)) (0 + ((i : Int) + 0).toNat * 1) [.int .i64 0] = dA (List.replicate a.length 0) := by
    rw [show 0 + ((i : Int) + 0).toNat * 1 = i by omega]
    refine (dA_wr (by simp; omega) 0).trans ?_
    congr 1
    apply List.ext_getElem?
    intro j
    rw [List.getElem?_set]
    split
    ·rename_i hij
     subst hij
     rw [if_pos (by simpa using hil)]
     simp [hil]
    ·rfl
   rw [e, AH.zS]
  generalize (HB.set c (.row (dA (List.replicate a.length 0)) 0)) = G at *
  generalize dA (List.replicate a.length 0) = R at *
  (repeat' ((conv => whnf); first | refine Then.mk ?_ | left | refine zd ?_ | (refine Both.mk ?_ ?_ <;> intro hc <;> try exact wX hc) | (intro c hc; (try (simp only [AH.zA] at hc; repeat (have hn := hc.1; replace hc := hc.2)))))) <;> (try (conv => whnf))
  refine zT (σ := Unit) (7 :: 8 :: 9 :: 25 :: 26 :: 27 :: 28 :: 29 :: 30 :: 31 :: 32 :: 33 :: 34 :: 35 :: 36 :: 37 :: 38 :: 39 :: 40 :: 41 :: 42 :: 43 :: 44 :: 45 :: 46 :: 47 :: 48 :: 49 :: 50 :: 51 :: 52 :: 53 :: 54 :: 55 :: 56 :: 57 :: 58 :: 59 :: 60 :: []) (fun j => [(7, .int .i64 0), (8, .int .i64 0)]) (fun j => G) (fun j => True) (fun j => 0) () rfl trivial ⟨rfl, rfl, trivial⟩ (HLe.refl _) ?_
  rintro _ _
  refine AWp.of zU (dok _) rfl ?_
  dsimp only
  (repeat' ((conv => whnf); first | refine Then.mk ?_ | left | refine zd ?_ | (refine Both.mk ?_ ?_ <;> intro hc <;> try exact wX hc) | (intro c hc; (try (simp only [AH.zA] at hc; repeat (have hn := hc.1; replace hc := hc.2)))))) <;> (try (conv => whnf))
  exact ⟨i + 1, hil, by omega, ⟨congrArg (AV.int .i64) (by omega), trivial⟩, HLe.of_eq hw.symm⟩
 ·unfold nN at hnm ⊢
  cases g <;> cases k
  all_goals
   (repeat' ((conv => whnf); first | refine Then.mk ?_ | left | refine zd ?_ | (refine Both.mk ?_ ?_ <;> intro hc <;> try exact wX hc) | (intro c hc; (try (simp only [AH.zA] at hc; repeat (have hn := hc.1; replace hc := hc.2)))))) <;> (try (conv => whnf))
   refine ACall.frz (pre := [_]) (post := []) (r := c) (v := 0) (es := 1) (n := a.length) (cells := dA (List.replicate a.length 0)) (AH.zC _ _ _) hz0 ?_
   rw [AH.del_set _ _ _ hcH]
   refine ACall.to (hnm _) ?_
   (repeat' ((conv => whnf); first | refine Then.mk ?_ | left | refine zd ?_ | (refine Both.mk ?_ ?_ <;> intro hc <;> try exact wX hc) | (intro c hc; (try (simp only [AH.zA] at hc; repeat (have hn := hc.1; replace hc := hc.2)))))) <;> (try (conv => whnf))
   exact HLe.set_of _ _ bl hp4
set_option maxRecDepth 8000 in
theorem small_c (d k : Nat) (hd0 : d ≠ 0) (hd : d < 10000) (hk : k < 10000) (H : AH) :
  ACall Tryz.prog 141 [.cs (dA [d]) 1, .int .i64 k] H (fun y H' => y = .cs (dA (dg (d * k))) (dg (d * k)).length ∧ H' = H) := by
 refine ACall.back ?_
 have h1 : ∀ H, ACall Tryz.prog 117 [.int .i64 k] H (fun y H' => y = nR false k ∧ H' = H) := fun H => by
  have := of_c (k : Int) (by omega) H
  rw [decide_eq_false (by omega), show ab (k : Int) = k from rfl] at this
  exact this
 have hl1 : (dg d).length ≤ 50000000 := by rw [dg_one hd hd0]; simp
 have h2 : ∀ H, ACall Tryz.prog 119 [nR false d, nR false k] H (fun v H' => v = nN false (d * k) ∧ H' = H) := fun H => by
  by_cases h0 : k = 0
  ·subst h0
   exact mul0_c false false d hl1 H
  ·exact mul_c false false d k hl1 h0 hk H
 unfold nN nR at *
 rw [dg_one hd hd0] at h2
 have h2 : ∀ H, ACall Tryz.prog 119 [.agg [.bool false, .cs (dA [d]) 1], .agg [.bool false, .cs (dA (dg k)) (dg k).length]] H (fun v H' => v = .agg [.bool false, .cs (dA (dg (d * k))) (dg (d * k)).length] ∧ H' = H) := h2
 refine zQ zU (dok _) Tryz.func141 rfl (by decide) rfl ?_
 (repeat' ((conv => whnf); first | refine Then.mk ?_ | left | refine zg ?_ (h1 _) | refine zg ?_ (h2 _) | refine zgg ?_ (h1 _) | refine zgg ?_ (h2 _) | refine zd ?_ | (refine Both.mk ?_ ?_ <;> intro hc <;> try exact wX hc) | (intro c hc; (try (simp only [AH.zA] at hc; repeat (have hn := hc.1; replace hc := hc.2)))) | (refine ACall.to (h1 _) ?_) | (refine ACall.to (h2 _) ?_))) <;> (try (conv => whnf))
 (first | ((repeat' (first | (with_reducible exact HLe.refl _) | (with_reducible assumption) | apply HLe.push | refine HLe.set_of _ _ ?_ ?_ | refine HLe.del _ ?_ ?_ | rw [AH.zR _ _ (by (first | assumption | omega | exact Ne.symm (by assumption) | exact AH.ne_none (by assumption) (by assumption) | exact AH.none_ne (by assumption) (by assumption) | exact (AH.none_set (by assumption)).1 | exact Ne.symm (AH.none_set (by assumption)).1))])); done) | ((repeat' (first | refine HLe.set_of _ _ ?_ ?_ | refine HLe.del _ ?_ ?_)) <;> (first | assumption | exact HLe.refl _ | exact HLe.none (by assumption) (by assumption) | (simp_all; done))))
set_option maxRecDepth 8000 in
theorem digits_c (a : List Nat) (i : Int) (hi : -9223372036854775808 ≤ i ∧ i ≤ 9223372036854775807) (H : AH) :
  ACall Tryz.prog 143 [.cs (dA a) a.length, .int .i64 i] H (fun y H' => y = .int .i64 (if 0 ≤ i then (a.getD i.toNat 0 : Nat) else 0) ∧ H' = H) := by
 by_cases h0 : i < 0
 ·rw [if_neg (by omega)]
  refine zQ zU (dok _) Tryz.func143 rfl (by decide) rfl ?_
  (repeat' ((conv => whnf); first | refine Then.mk ?_ | left | refine zd ?_ | (refine Both.mk ?_ ?_ <;> intro hc <;> try exact wX hc) | (intro c hc; (try (simp only [AH.zA] at hc; repeat (have hn := hc.1; replace hc := hc.2)))))) <;> (try (conv => whnf))
 ·rw [if_pos (by omega)]
  by_cases h1 : i < a.length
  ·have hg : (dA a)[i.toNat]? = some (.int .i64 (a.getD i.toNat 0 : Nat)) := dA_get (by omega)
   have hal : (dA a).length = a.length := by simp
   generalize a.getD i.toNat 0 = z at *
   refine zQ zU (dok _) Tryz.func143 rfl (by decide) rfl ?_
   (repeat' ((conv => whnf); first | refine Then.mk ?_ | left | refine zd ?_ | (refine Both.mk ?_ ?_ <;> intro hc <;> try exact wX hc) | (intro c hc; (try (simp only [AH.zA] at hc; repeat (have hn := hc.1; replace hc := hc.2)))))) <;> (try (conv => whnf))
  ·have hz : a.getD i.toNat 0 = 0 := by rw [List.getD_eq_getElem?_getD, List.getElem?_eq_none (by omega)]; rfl
   rw [hz]
   refine zQ zU (dok _) Tryz.func143 rfl (by decide) rfl ?_
   (repeat' ((conv => whnf); first | refine Then.mk ?_ | left | refine zd ?_ | (refine Both.mk ?_ ?_ <;> intro hc <;> try exact wX hc) | (intro c hc; (try (simp only [AH.zA] at hc; repeat (have hn := hc.1; replace hc := hc.2)))))) <;> (try (conv => whnf))
open Go.Fw Go
theorem dg_two {R : Nat} (h : R < 100000000) : (dg R).getD 0 0 = R % 10000 ∧ (dg R).getD 1 0 = R / 10000 := by
 by_cases h0 : R = 0
 ·subst h0; rw [dg_zero]; exact ⟨rfl, rfl⟩
 ·rw [dg_pos h0]
  refine ⟨rfl, ?_⟩
  show (dg (R / 10000)).getD 0 0 = _
  by_cases h1 : R / 10000 = 0
  ·rw [h1, dg_zero]; rfl
  ·rw [dg_one (by omega) h1]; rfl
def loV (R d : Nat) : Nat := min 9999 (10000 * R / (10000 * d + 1))
def hiV (R d : Nat) : Nat := min 9999 (10000 * R / (10000 * d))
set_option maxRecDepth 8000 in
theorem digit_c (R d : Nat) (hR : R < 100000000) (hd0 : d ≠ 0) (hd : d < 10000) (H : AH) :
  ACall Tryz.prog 140 [.cs (dA (dg R)) (dg R).length, .cs (dA [d]) 1] H (fun y H' => y = .tup [.int .i64 (loV R d), .int .i64 (hiV R d)] ∧ H' = H) := by
 by_cases h0 : R = 0
 ·subst h0
  have e1 : loV 0 d = 0 := by simp [loV]
  have e2 : hiV 0 d = 0 := by simp [hiV]
  rw [e1, e2, dg_zero]
  refine zQ zU (dok _) Tryz.func140 rfl (by decide) rfl ?_
  (repeat' ((conv => whnf); first | refine Then.mk ?_ | left | refine zd ?_ | (refine Both.mk ?_ ?_ <;> intro hc <;> try exact wX hc) | (intro c hc; (try (simp only [AH.zA] at hc; repeat (have hn := hc.1; replace hc := hc.2)))))) <;> (try (conv => whnf))
 ·have hlen : 1 ≤ (dg R).length := by rw [dg_pos h0, List.length_cons]; omega
  obtain ⟨t1, t2⟩ := dg_two hR
  have q1 : ∀ H, ACall Tryz.prog 143 [.cs (dA (dg R)) (dg R).length, .int .i64 1] H (fun y H' => y = .int .i64 (R / 10000 : Nat) ∧ H' = H) := fun H => by
   have := digits_c (dg R) 1 (by decide) H
   rw [if_pos (by decide), show (1 : Int).toNat = 1 from rfl, t2] at this
   exact this
  have q0 : ∀ H, ACall Tryz.prog 143 [.cs (dA (dg R)) (dg R).length, .int .i64 0] H (fun y H' => y = .int .i64 (R % 10000 : Nat) ∧ H' = H) := fun H => by
   have := digits_c (dg R) 0 (by decide) H
   rw [if_pos (by decide), show (0 : Int).toNat = 0 from rfl, t1] at this
   exact this
  have qm : ∀ H, ACall Tryz.prog 143 [.cs (dA (dg R)) (dg R).length, .int .i64 (-1)] H (fun y H' => y = .int .i64 0 ∧ H' = H) := fun H => digits_c (dg R) (-1) (by decide) H
  have p0 : ∀ H, ACall Tryz.prog 143 [.cs (dA [d]) 1, .int .i64 0] H (fun y H' => y = .int .i64 d ∧ H' = H) := fun H => digits_c [d] 0 (by decide) H
  have pm : ∀ H, ACall Tryz.prog 143 [.cs (dA [d]) 1, .int .i64 (-1)] H (fun y H' => y = .int .i64 0 ∧ H' = H) := fun H => digits_c [d] (-1) (by decide) H
  generalize hLL : (dg R).length = LL at *
  generalize dA (dg R) = a at *
  have hsum : R = R % 10000 + 10000 * (R / 10000) := by omega
  generalize R / 10000 = r1 at *
  have hr0 : R % 10000 < 10000 := Nat.mod_lt _ (by decide)
  generalize R % 10000 = r0 at *
  refine zQ zU (dok _) Tryz.func140 rfl (by decide) rfl ?_
  (repeat' ((conv => whnf); first | refine Then.mk ?_ | left | refine zg ?_ (q1 _) | refine zg ?_ (q0 _) | refine zg ?_ (qm _) | refine zg ?_ (p0 _) | refine zg ?_ (pm _) | refine zgg ?_ (q1 _) | refine zgg ?_ (q0 _) | refine zgg ?_ (qm _) | refine zgg ?_ (p0 _) | refine zgg ?_ (pm _) | refine zd ?_ | (refine Both.mk ?_ ?_ <;> intro hc <;> try exact wX hc) | (intro c hc; (try (simp only [AH.zA] at hc; repeat (have hn := hc.1; replace hc := hc.2)))) | (refine ACall.to (q1 _) ?_) | (refine ACall.to (q0 _) ?_) | (refine ACall.to (qm _) ?_) | (refine ACall.to (p0 _) ?_) | (refine ACall.to (pm _) ?_))) <;> (try (conv => whnf))
  have u1 : (10000 * (10000 * (r1 : Int) + r0) + 0) = ((10000 * R : Nat) : Int) := by omega
  have u2 : (10000 * (d : Int) + 0 + 1) = ((10000 * d + 1 : Nat) : Int) := by omega
  have u3 : (10000 * (d : Int) + 0) = ((10000 * d : Nat) : Int) := by omega
  have v1 : 10000 * R / (10000 * d + 1) ≤ 1000000000000 := Nat.le_trans (Nat.div_le_self _ _) (by omega)
  have v2 : 10000 * R / (10000 * d) ≤ 1000000000000 := Nat.le_trans (Nat.div_le_self _ _) (by omega)
  have hmin : ∀ z : Nat, z ≤ 1000000000000 → min 9999 (IntKind.i64.wrap (z : Int)) = ((min 9999 z : Nat) : Int) := fun z hz => by
   have hw : IntKind.i64.wrap (z : Int) = z := by rw [IntKind.wrap_i64]; omega
   rw [hw]
   rcases Nat.le_total 9999 z with h | h
   ·rw [Nat.min_eq_left h, Int.min_eq_left (by omega)]; rfl
   ·rw [Nat.min_eq_right h, Int.min_eq_right (by omega)]
  have e1 : min 9999 (IntKind.i64.wrap ((10000 * (10000 * (r1 : Int) + r0) + 0).tdiv (10000 * (d : Int) + 0 + 1))) = (loV R d : Int) := by
   rw [u1, u2, ← Int.ofNat_tdiv, hmin _ (by assumption)]; rfl
  have e2 : min 9999 (IntKind.i64.wrap ((10000 * (10000 * (r1 : Int) + r0) + 0).tdiv (10000 * (d : Int) + 0))) = (hiV R d : Int) := by
   rw [u1, u3, ← Int.ofNat_tdiv, hmin _ (by assumption)]; rfl
  rw [e1, e2]
  exact ⟨rfl, rfl⟩
theorem lo_le {R d : Nat} (hd0 : d ≠ 0) : loV R d ≤ R / d := by
 unfold loV
 have h : 10000 * R / (10000 * d + 1) ≤ R / d := by
  rw [Nat.le_div_iff_mul_le (by omega)]
  have h1 := Nat.div_mul_le_self (10000 * R) (10000 * d + 1)
  generalize 10000 * R / (10000 * d + 1) = z at *
  have h2 : z * (10000 * d) ≤ z * (10000 * d + 1) := Nat.mul_le_mul_left _ (by omega)
  have h3 : z * (10000 * d) = 10000 * (z * d) := by rw [← Nat.mul_assoc, Nat.mul_comm z 10000, Nat.mul_assoc]
  omega
 omega
theorem le_hi {R d : Nat} (hd0 : d ≠ 0) (h : R < 10000 * d) : R / d ≤ hiV R d := by
 unfold hiV
 have e : 10000 * R / (10000 * d) = R / d := Nat.mul_div_mul_left _ _ (by decide)
 rw [e]
 have : R / d < 10000 := (Nat.div_lt_iff_lt_mul (by omega)).2 h
 omega
def dq (d : Nat) : List Nat → List Nat × Nat
 | [] => ([], 0)
 | x :: r => ((x + 10000 * (dq d r).2) / d :: (dq d r).1, (x + 10000 * (dq d r).2) % d)
theorem dq_ok {d : Nat} (hd0 : d ≠ 0) : ∀ {l : List Nat}, DOk l → DOk (dq d l).1 ∧ (dq d l).1.length = l.length ∧ dv (dq d l).1 = dv l / d ∧ (dq d l).2 = dv l % d
 | [], _ => ⟨DOk.nil, rfl, by simp [dq, dv], by simp [dq, dv]⟩
 | x :: r, h => by
  have hr : DOk r := fun y hy => h y (by simp [hy])
  have hx := h x (by simp)
  obtain ⟨h1, h2, h3, h4⟩ := dq_ok hd0 hr
  have hs : (dq d r).2 < d := by rw [h4]; exact Nat.mod_lt _ (by omega)
  have e : dq d (x :: r) = ((x + 10000 * (dq d r).2) / d :: (dq d r).1, (x + 10000 * (dq d r).2) % d) := rfl
  have hq : (x + 10000 * (dq d r).2) / d < 10000 := (Nat.div_lt_iff_lt_mul (by omega)).2 (by omega)
  have hv : dv (x :: r) = x + 10000 * dv r := rfl
  have hrep : dv r = d * (dv r / d) + dv r % d := (Nat.div_add_mod _ _).symm
  have hall : dv (x :: r) = (x + 10000 * (dq d r).2) + d * (10000 * (dv r / d)) := by
   rw [hv, h4]
   generalize dv r % d = s at *
   generalize dv r / d = q at *
   rw [hrep, Nat.mul_add, ← Nat.mul_assoc, ← Nat.mul_assoc, Nat.mul_comm 10000 d]; omega
  rw [e]
  refine ⟨?_, by simp [h2], ?_, ?_⟩
  ·intro y hy
   rcases List.mem_cons.1 hy with rfl | hy
   ·exact hq
   ·exact h1 y hy
  ·show (x + 10000 * (dq d r).2) / d + 10000 * dv (dq d r).1 = _
   rw [hall, Nat.add_mul_div_left _ _ (by omega), h3]
  ·show (x + 10000 * (dq d r).2) % d = _
   rw [hall, Nat.add_mul_mod_self_left]
theorem dq_step (d : Nat) (a : List Nat) {j : Nat} (h : j < a.length) : dq d (a.drop j) = ((a.getD j 0 + 10000 * (dq d (a.drop (j + 1))).2) / d :: (dq d (a.drop (j + 1))).1, (a.getD j 0 + 10000 * (dq d (a.drop (j + 1))).2) % d) := by
 rw [List.drop_eq_getElem_cons h]
 have : a.getD j 0 = a[j] := by rw [List.getD_eq_getElem?_getD, List.getElem?_eq_getElem h]; rfl
 rw [this]
 rfl
theorem dA_one (l : List Nat) : (dA l).all one = true := by simp [dA, one]
set_option maxRecDepth 8000 in
set_option maxHeartbeats 4000000 in
theorem divided_c (x d : Nat) (hx : (dg x).length ≤ 50000000) (hd0 : d ≠ 0) (hd : d < 10000) (H : AH) :
  ACall Tryz.prog 133 [.cs (dA (dg x)) (dg x).length, .cs (dA [d]) 1] H (fun y H' => ∃ c, y = .tup [.sl c 0 1 0 (dg x).length none, .cs (dA (dg (x % d))) (dg (x % d)).length] ∧ H c = none ∧ HLe (H.set c (.row (dA (dq d (dg x)).1) 0)) H') := by
 have hv := dv_dg x
 have oa := dok_dg x
 obtain ⟨a, ha⟩ : ∃ a, a = dg x := ⟨_, rfl⟩
 rw [← ha] at hx hv oa ⊢
 have hal : (dA a).length = a.length * 1 := by simp
 have n0 : ∀ H, ACall Tryz.prog 134 [.bool false, .cs (List.drop ((a.length : Int).toNat * 1) (dA a)) (a.length - (a.length : Int).toNat)] H (fun y H' => y = .agg [.bool false, .cs (dA (dg 0)) (dg 0).length] ∧ H' = H) := fun H => by
  have e : List.drop ((a.length : Int).toNat * 1) (dA a) = dA [] := by
   rw [Int.toNat_natCast, Nat.mul_one]; exact List.drop_of_length_le (by simp)
  have e2 : a.length - (a.length : Int).toNat = ([] : List Nat).length := by simp
  rw [e, e2]
  exact normal_k false [] DOk.nil (by decide) H
 have m1 : min (a.length : Int) ((a.length : Int) - ((1 : Nat) : Int) + 1) = a.length := by omega
 have m2 : max 0 (a.length : Int) = a.length := by omega
 refine zQ zU (dok _) Tryz.func133 rfl (by decide) rfl ?_
 (repeat' ((conv => whnf); first | left | refine zd ?_ | (refine Both.mk ?_ ?_ <;> intro hc <;> try exact wX hc) | (intro c hc; (try (simp only [AH.zA] at hc; repeat (have hn := hc.1; replace hc := hc.2)))))) <;> (try (conv => whnf))
 refine Then.mk ?_
 (repeat' ((conv => whnf); first | left | refine zd ?_ | (refine Both.mk ?_ ?_ <;> intro hc <;> try exact wX hc) | (intro c hc; (try (simp only [AH.zA] at hc; repeat (have hn := hc.1; replace hc := hc.2)))))) <;> (try (conv => whnf))
 refine Then.mk ?_
 (repeat' ((conv => whnf); first | left | refine zd ?_ | (refine Both.mk ?_ ?_ <;> intro hc <;> try exact wX hc) | (intro c hc; (try (simp only [AH.zA] at hc; repeat (have hn := hc.1; replace hc := hc.2)))))) <;> (try (conv => whnf))
 obtain ⟨r, rfl⟩ : ∃ r, r = c := ⟨c, rfl⟩
 have hrH : H r = none := by assumption
 refine Then.mk ?_
 (repeat' ((conv => whnf); first | left | refine zg ?_ (n0 _) | refine zgg ?_ (n0 _) | refine zd ?_ | (refine Both.mk ?_ ?_ <;> intro hc <;> try exact wX hc) | (intro c hc; (try (simp only [AH.zA] at hc; repeat (have hn := hc.1; replace hc := hc.2)))) | (refine ACall.to (n0 _) ?_))) <;> (try (conv => whnf))
 refine Then.mk ?_
 (repeat' ((conv => whnf); first | left | refine zd ?_ | (refine Both.mk ?_ ?_ <;> intro hc <;> try exact wX hc) | (intro c hc; (try (simp only [AH.zA] at hc; repeat (have hn := hc.1; replace hc := hc.2)))))) <;> (try (conv => whnf))
 refine Then.mk ?_
 (repeat' ((conv => whnf); first | left | refine zd ?_ | (refine Both.mk ?_ ?_ <;> intro hc <;> try exact wX hc) | (intro c hc; (try (simp only [AH.zA] at hc; repeat (have hn := hc.1; replace hc := hc.2)))))) <;> (try (conv => whnf))
 refine Then.mk (AWq.in ?_)
 have hcr : c ≠ r := by assumption
 have hcH : H c = none := by assumption
 refine AWp_cut (H2 := H.set r (.row (dA (List.replicate a.length 0)) 0)) [(0, .cs (dA a) a.length), (1, .cs (dA [d]) 1), (6, .sl r 0 1 0 a.length none), (9, .cs (dA (dg 0)) (dg 0).length), (10, .int .i64 ((a.length : Int) - 1))] ⟨rfl, rfl, rfl, rfl, rfl, trivial⟩ (fun _ => rfl) ?_ ?_
 ·rw [← dA_zeros]
  exact HLe.set_of _ _ (HLe.set_of _ _ (HLe.refl _) (AH.zA.2 ⟨hcr, hcH⟩)) (AH.zA.2 ⟨hcr, hcH⟩)
 refine AWp.of zU (dok _) rfl ?_
 clear hcr hcH n0 m1 m2
 (repeat' ((conv => whnf); first | refine Then.mk ?_ | left | refine zd ?_ | (refine Both.mk ?_ ?_ <;> intro hc <;> try exact wX hc) | (intro c hc; (try (simp only [AH.zA] at hc; repeat (have hn := hc.1; replace hc := hc.2)))))) <;> (try (conv => whnf))
 refine zT (σ := Nat) (9 :: 10 :: 11 :: 12 :: 13 :: 14 :: 15 :: 37 :: 38 :: 39 :: 40 :: 41 :: 42 :: 43 :: 44 :: 45 :: 46 :: 47 :: 48 :: 49 :: 50 :: 51 :: 52 :: 53 :: 54 :: 55 :: 56 :: 57 :: 58 :: 59 :: 60 :: 61 :: 62 :: 63 :: 64 :: 65 :: 66 :: 67 :: 68 :: 69 :: 70 :: 71 :: 72 :: 73 :: 74 :: 75 :: 76 :: 77 :: 78 :: 79 :: 80 :: 81 :: 82 :: 83 :: 84 :: 85 :: []) (fun k => [(9, .cs (dA (dg (dq d (a.drop k)).2)) (dg (dq d (a.drop k)).2).length), (10, .int .i64 ((k : Int) - 1))]) (fun k => H.set r (.row (dA (List.replicate k 0 ++ (dq d (a.drop k)).1)) 0)) (fun k => k ≤ a.length) (fun k => k) a.length rfl (Nat.le_refl _) ?_ ?_ ?_
 ·rw [List.drop_length]; exact ⟨rfl, rfl, trivial⟩
 ·rw [List.drop_length]
  refine HLe.of_eq ?_
  show H.set r (.row (dA (List.replicate a.length 0 ++ [])) 0) = _
  rw [List.append_nil]
 ·intro k hk
  dsimp only at hk ⊢
  refine AWp.of zU (dok _) rfl ?_
  by_cases h0 : k = 0
  ·subst h0
   rw [List.drop_zero]
   obtain ⟨o1, o2, o3, o4⟩ := dq_ok hd0 oa
   rw [o4, hv]
   (repeat' ((conv => whnf); first | refine Then.mk ?_ | left | refine zd ?_ | (refine Both.mk ?_ ?_ <;> intro hc <;> try exact wX hc) | (intro c hc; (try (simp only [AH.zA] at hc; repeat (have hn := hc.1; replace hc := hc.2)))))) <;> (try (conv => whnf))
   exact HLe.refl _
  ·obtain ⟨j, rfl⟩ : ∃ j, k = j + 1 := ⟨k - 1, by omega⟩
   have hst := dq_step d a (j := j) (by omega)
   have hod := dq_ok hd0 (oa.drop (j + 1))
   have hgj := dA_gi (l := a) (i := j) (by omega)
   have haj := oa.at j
   have hkj : ((j + 1 : Nat) : Int) - 1 = j := by omega
   have hsd : (dq d (a.drop (j + 1))).2 < d := by rw [hod.2.2.2]; exact Nat.mod_lt _ (by omega)
   rw [hkj]
   generalize (dq d (a.drop (j + 1))).2 = s at *
   generalize (dq d (a.drop (j + 1))).1 = qs at *
   generalize a.getD j 0 = x0 at *
   obtain ⟨R, hR⟩ : ∃ R, R = x0 + 10000 * s := ⟨_, rfl⟩
   rw [← hR] at hst
   have hRd : R < 10000 * d := by omega
   have hR8 : R < 100000000 := by omega
   have hnm := fun H => normal_k false (x0 :: dg s) (fun y hy => (List.mem_cons.1 hy).elim (fun e => by rw [e]; exact haj) (dok_dg s y)) (by
    rw [List.length_cons]
    have := dg_len (n := s) (k := 1) (by omega)
    omega) H
   have hdR : dv (x0 :: dg s) = R := by show x0 + 10000 * dv (dg s) = R; rw [dv_dg, hR]
   rw [hdR] at hnm
   unfold nN at hnm
   have hone := dA_one (dg s)
   have hone2 := dA_one (x0 :: dg s)
   have hsl : (dg s).length ≤ 1 := dg_len (n := s) (k := 1) (by omega)
   have hdal : (dA (dg s)).length = (dg s).length := by simp
   have hlx : (x0 :: dg s).length = 1 + (dg s).length := by rw [List.length_cons]; omega
   rw [hlx] at hnm
   have kr : (H.set r (.row (dA (List.replicate (j + 1) 0 ++ qs)) 0)) r = some (.row (dA (List.replicate (j + 1) 0 ++ qs)) 0) := AH.zC _ _ _
   have hbase : HLe H (H.set r (.row (dA (List.replicate (j + 1) 0 ++ qs)) 0)) := HLe.fresh _ hrH
   have hnone : ∀ c, (H.set r (.row (dA (List.replicate (j + 1) 0 ++ qs)) 0)) c = none → H c = none := fun c hc => (AH.none_set hc).2
   generalize (H.set r (.row (dA (List.replicate (j + 1) 0 ++ qs)) 0)) = G at *
   (repeat' ((conv => whnf); first | refine Then.mk ?_ | refine Or.inr (Or.inl ?_) | refine zd ?_ | (refine Both.mk ?_ ?_ <;> intro hc <;> try exact wX hc) | (intro c hc; (try (simp only [AH.zA] at hc; repeat (have hn := hc.1; replace hc := hc.2)))))) <;> (try (conv => whnf))
   have hcG : G c = none := by assumption
   refine ACall.frz (pre := [.bool false]) (post := []) (r := c) (v := 0 + 1) (es := 1) (n := 1 + (dg s).length) (cells := dA (x0 :: dg s)) (AH.zC _ _ _) (by rw [dA_len, hlx]; omega) ?_
   rw [AH.zS, AH.del_set _ _ _ hcG]
   refine ACall.to (hnm _) ?_
   have q1 := fun H => digit_c R d hR8 hd0 hd H
   (repeat' ((conv => whnf); first | refine Then.mk ?_ | left | refine zg ?_ (q1 _) | refine zgg ?_ (q1 _) | refine zd ?_ | (refine Both.mk ?_ ?_ <;> intro hc <;> try exact wX hc) | (intro c hc; (try (simp only [AH.zA] at hc; repeat (have hn := hc.1; replace hc := hc.2)))) | (refine ACall.to (q1 _) ?_))) <;> (try (conv => whnf))
   have q2 := fun m (hm : m < 10000) H => small_c d m hd0 hd hm H
   have hR2 : (dg R).length ≤ 2 := dg_len (n := R) (k := 2) (by omega)
   have hq9 : R / d ≤ 9999 := by
    have : R / d < 10000 := (Nat.div_lt_iff_lt_mul (by omega)).2 hRd
    omega
   have hdm : ∀ m, m < 10000 → (dg (d * m)).length ≤ 2 := fun m hm => dg_len (n := d * m) (k := 2) (Nat.lt_of_lt_of_le (Nat.mul_lt_mul_of_lt_of_le hd (Nat.le_of_lt hm) (by decide)) (by decide))
   have hcmp : ∀ m, m < 10000 → ∀ H, ACall Tryz.prog 138 [.cs (dA (dg (d * m))) (dg (d * m)).length, .cs (dA (dg R)) (dg R).length] H (fun v H' => v = .int .i64 (cmpV (d * m) R) ∧ H' = H) := fun m hm H => compared_c (d * m) R (by have := hdm m hm; omega) (by omega) H
   have hqd : R / d * d ≤ R := Nat.div_mul_le_self _ _
   have hqd2 : d * (R / d) + R % d = R := Nat.div_add_mod _ _
   have hlo := lo_le (R := R) hd0
   have hhi := le_hi hd0 hRd
   have hhi9 : hiV R d ≤ 9999 := by unfold hiV; omega
   have hmq : ∀ m, d * m ≤ R ↔ m ≤ R / d := fun m => by
    rw [Nat.le_div_iff_mul_le (by omega), Nat.mul_comm]
   have hmo := minL_ok (dok_dg R) (dok_dg (d * (R / d))) (by
    by_cases hl : (dg R).length < (dg (d * (R / d))).length
    ·have := dg_short hl; omega
    ·omega) (by rw [dv_dg, dv_dg]; omega)
   obtain ⟨w1, w2, w3⟩ := hmo
   rw [dv_dg, dv_dg, show R - d * (R / d) = R % d by omega] at w2
   have hmin := fun H => minus_c (dg R) (dg (d * (R / d))) (dok_dg R) (dok_dg (d * (R / d))) (by omega) H
   have hnm2 := fun H => normal_k false (minL (dg R) (dg (d * (R / d)))) w1 (by omega) H
   rw [w2, w3] at hnm2
   unfold nN at hnm2
   have hsm := q2 (R / d) (by omega)
   have hrow : wrA (dA (List.replicate (j + 1) 0 ++ qs)) (0 + (j : Int).toNat * 1) [.int .i64 (R / d : Nat)] = dA (List.replicate j 0 ++ (R / d :: qs)) := by
    have e : List.replicate (j + 1) 0 ++ qs = List.replicate j 0 ++ 0 :: qs := by rw [List.replicate_succ']; simp
    rw [Nat.zero_add, Nat.mul_one, Int.toNat_natCast, e, dA_wr (by simp)]
    congr 1
    have := set_at (List.replicate j 0) qs 0 (R / d)
    rwa [List.length_replicate] at this
   have hrl : (dA (List.replicate (j + 1) 0 ++ qs)).length = a.length := by
    have := hod.2.1
    rw [List.length_drop] at this
    simp; omega
   refine zT (σ := Nat × Nat) (12 :: 13 :: 14 :: 57 :: 58 :: 59 :: 60 :: 61 :: 62 :: 63 :: 64 :: 65 :: 66 :: 67 :: 68 :: 69 :: 70 :: 71 :: 72 :: 73 :: []) (fun (lo, hi) => [(12, .int .i64 lo), (13, .int .i64 hi)]) (fun _ => G) (fun (lo, hi) => lo ≤ R / d ∧ R / d ≤ hi ∧ hi ≤ 9999) (fun (lo, hi) => hi - lo) (loV R d, hiV R d) rfl ⟨hlo, hhi, hhi9⟩ ⟨rfl, rfl, trivial⟩ (by (first | ((repeat' (first | (with_reducible exact HLe.refl _) | (with_reducible assumption) | apply HLe.push | refine HLe.set_of _ _ ?_ ?_ | refine HLe.del _ ?_ ?_ | rw [AH.zR _ _ (by (first | assumption | omega | exact Ne.symm (by assumption) | exact AH.ne_none (by assumption) (by assumption) | exact AH.none_ne (by assumption) (by assumption) | exact (AH.none_set (by assumption)).1 | exact Ne.symm (AH.none_set (by assumption)).1))])); done) | ((repeat' (first | refine HLe.set_of _ _ ?_ ?_ | refine HLe.del _ ?_ ?_)) <;> (first | assumption | exact HLe.refl _ | exact HLe.none (by assumption) (by assumption) | (simp_all; done))))) ?_
   rintro ⟨lo, hi⟩ ⟨i1, i2, i3⟩
   dsimp only at i1 i2 i3 ⊢
   refine AWp.of zU (dok _) rfl ?_
   by_cases hlh : lo < hi
   ·obtain ⟨m, hm⟩ : ∃ m, m = (lo + hi + 1) / 2 := ⟨_, rfl⟩
    have em : IntKind.i64.wrap (((lo : Int) + hi + 1).tdiv 2) = m := by rw [Int.tdiv_eq_ediv_of_nonneg (by omega), IntKind.wrap_i64]; omega
    have hsm := q2 m (by omega)
    have hcm := hcmp m (by omega)
    have hcv : cmpV (d * m) R = if d * m < R then -1 else if R < d * m then 1 else 0 := rfl
    have hmm := hmq m
    by_cases hle : d * m ≤ R
    ·have hc0 : cmpV (d * m) R ≤ 0 := by rw [hcv]; split <;> (try split) <;> omega
     generalize cmpV (d * m) R = cv at *
     (repeat' ((conv => whnf); first | refine Then.mk ?_ | left | refine zg ?_ (hsm _) | refine zg ?_ (hcm _) | refine zgg ?_ (hsm _) | refine zgg ?_ (hcm _) | refine zd ?_ | (refine Both.mk ?_ ?_ <;> intro hc <;> try exact wX hc) | (intro c hc; (try (simp only [AH.zA] at hc; repeat (have hn := hc.1; replace hc := hc.2)))) | (refine ACall.to (hsm _) ?_) | (refine ACall.to (hcm _) ?_))) <;> (try (conv => whnf))
     exact ⟨(m, hi), ⟨hmm.1 hle, i2, i3⟩, by show hi - m < hi - lo; omega, ⟨rfl, rfl, trivial⟩, HLe.refl _⟩
    ·have hc0 : 0 < cmpV (d * m) R := by rw [hcv, if_neg (by omega), if_pos (by omega)]; decide
     have hm1 : R / d < m := by
      by_cases h : m ≤ R / d
      ·exact absurd (hmm.2 h) hle
      ·omega
     generalize cmpV (d * m) R = cv at *
     (repeat' ((conv => whnf); first | refine Then.mk ?_ | left | refine zg ?_ (hsm _) | refine zg ?_ (hcm _) | refine zgg ?_ (hsm _) | refine zgg ?_ (hcm _) | refine zd ?_ | (refine Both.mk ?_ ?_ <;> intro hc <;> try exact wX hc) | (intro c hc; (try (simp only [AH.zA] at hc; repeat (have hn := hc.1; replace hc := hc.2)))) | (refine ACall.to (hsm _) ?_) | (refine ACall.to (hcm _) ?_))) <;> (try (conv => whnf))
     exact ⟨(lo, m - 1), ⟨i1, by omega, by omega⟩, by show m - 1 - lo < hi - lo; omega, ⟨rfl, congrArg (AV.int .i64) (by omega), trivial⟩, HLe.refl _⟩
   ·have hlq : lo = R / d := by omega
    subst hlq
    generalize hQ : R / d = Q at *
    generalize hM : R % d = M at *
    generalize minL (dg R) (dg (d * Q)) = mn at *
    (repeat' ((conv => whnf); first | refine Then.mk ?_ | left | refine zg ?_ (hsm _) | refine zg ?_ (hmin _) | refine zg ?_ (hnm2 _) | refine zgg ?_ (hsm _) | refine zgg ?_ (hmin _) | refine zgg ?_ (hnm2 _) | refine zd ?_ | (refine Both.mk ?_ ?_ <;> intro hc <;> try exact wX hc) | (intro c hc; (try (simp only [AH.zA] at hc; repeat (have hn := hc.1; replace hc := hc.2)))) | (refine ACall.to (hsm _) ?_) | (refine ACall.to (hmin _) ?_) | (refine ACall.to (hnm2 _) ?_))) <;> (try (conv => whnf))
    have hcG3 : G c = none := by assumption
    refine ⟨j, by omega, Nat.lt_succ_self _, ⟨?_, rfl, trivial⟩, ?_⟩
    ·rw [hst]; rfl
    ·rw [hst]
     dsimp only
     rw [← hrow]
     exact HLe.set (HLe.set_of _ _ (HLe.set_of _ _ hbase (hnone _ hcG3)) (hnone _ hcG3)) _ _
open Go.Fw Go
set_option maxRecDepth 8000 in
theorem cmpI_c (g k : Bool) (x y : Nat) (hx : (dg x).length ≤ 100000000) (hy : (dg y).length ≤ 100000000) (H : AH) :
  ACall Tryz.prog 136 [nR g x, nR k y] H (fun v H' => v = .int .i64 (if g = k then (if g = true then cmpV y x else cmpV x y) else if g = true then -1 else 1) ∧ H' = H) := by
 refine ACall.back ?_
 have h1 := fun H => compared_c x y hx hy H
 have h2 := fun H => compared_c y x hy hx H
 unfold nR
 generalize cmpV x y = c1 at *
 generalize cmpV y x = c2 at *
 cases g <;> cases k
 all_goals
  simp only [if_true, if_false, reduceCtorEq]
  refine zQ zU (dok _) Tryz.func136 rfl (by decide) rfl ?_
  (repeat' ((conv => whnf); first | refine Then.mk ?_ | left | refine zg ?_ (h1 _) | refine zg ?_ (h2 _) | refine zgg ?_ (h1 _) | refine zgg ?_ (h2 _) | refine zd ?_ | (refine Both.mk ?_ ?_ <;> intro hc <;> try exact wX hc) | (intro c hc; (try (simp only [AH.zA] at hc; repeat (have hn := hc.1; replace hc := hc.2)))) | (refine ACall.to (h1 _) ?_) | (refine ACall.to (h2 _) ?_))) <;> (try (conv => whnf))
  (first | ((repeat' (first | (with_reducible exact HLe.refl _) | (with_reducible assumption) | apply HLe.push | refine HLe.set_of _ _ ?_ ?_ | refine HLe.del _ ?_ ?_ | rw [AH.zR _ _ (by (first | assumption | omega | exact Ne.symm (by assumption) | exact AH.ne_none (by assumption) (by assumption) | exact AH.none_ne (by assumption) (by assumption) | exact (AH.none_set (by assumption)).1 | exact Ne.symm (AH.none_set (by assumption)).1))])); done) | ((repeat' (first | refine HLe.set_of _ _ ?_ ?_ | refine HLe.del _ ?_ ?_)) <;> (first | assumption | exact HLe.refl _ | exact HLe.none (by assumption) (by assumption) | (simp_all; done))))
set_option maxRecDepth 8000 in
theorem smallI_c (r : Nat) (hr : r < 10000) (H : AH) :
  ACall Tryz.prog 118 [nR false r] H (fun v H' => v = .tup [.int .i64 (r : Nat), .bool true] ∧ H' = H) := by
 refine ACall.back ?_
 have hl : (dg r).length ≤ 1 := dg_len (n := r) (k := 1) (by omega)
 have o1 := fun H => of_c 9223372036854775807 (by decide) H
 have o2 := fun H => of_c (-9223372036854775808) (by decide) H
 rw [show (decide ((9223372036854775807 : Int) < 0)) = false from rfl, show ab 9223372036854775807 = 9223372036854775807 from rfl, nN_false] at o1
 rw [show (decide ((-9223372036854775808 : Int) < 0)) = true from rfl, show ab (-9223372036854775808) = 9223372036854775808 from rfl] at o2
 rw [nN_R, show (true && !decide (9223372036854775808 = 0)) = true from rfl] at o2
 have c1 := fun H => cmpI_c false false r 9223372036854775807 (by omega) (Nat.le_trans (dg_len (k := 5) (by decide)) (by decide)) H
 have c2 := fun H => cmpI_c false true r 9223372036854775808 (by omega) (Nat.le_trans (dg_len (k := 5) (by decide)) (by decide)) H
 rw [if_pos rfl, if_neg (by decide), show cmpV r 9223372036854775807 = -1 from by unfold cmpV; rw [if_pos (by omega)]] at c1
 rw [if_neg (by decide), if_neg (by decide)] at c2
 have hd : (dg r).length = 0 ∧ r = 0 ∨ (dg r).length = 1 ∧ (dA (dg r))[(0 : Int).toNat]? = some (.int .i64 (r : Nat)) := by
  by_cases h0 : r = 0
  ·subst h0; rw [dg_zero]; exact .inl ⟨rfl, rfl⟩
  ·rw [dg_one hr h0]; exact .inr ⟨rfl, rfl⟩
 unfold nR at *
 generalize dA (dg 9223372036854775807) = A1 at *
 generalize (dg 9223372036854775807).length = L1 at *
 generalize dA (dg 9223372036854775808) = A2 at *
 generalize (dg 9223372036854775808).length = L2 at *
 generalize dA (dg r) = a at *
 generalize (dg r).length = L at *
 refine zQ zU (dok _) Tryz.func118 rfl (by decide) rfl ?_
 (repeat' ((conv => whnf); first | left | refine zg ?_ (o1 _) | refine zg ?_ (o2 _) | refine zg ?_ (c1 _) | refine zg ?_ (c2 _) | refine zgg ?_ (o1 _) | refine zgg ?_ (o2 _) | refine zgg ?_ (c1 _) | refine zgg ?_ (c2 _) | refine zd ?_ | (refine Both.mk ?_ ?_ <;> intro hc <;> try exact wX hc) | (intro c hc; (try (simp only [AH.zA] at hc; repeat (have hn := hc.1; replace hc := hc.2)))) | (refine ACall.to (o1 _) ?_) | (refine ACall.to (o2 _) ?_) | (refine ACall.to (c1 _) ?_) | (refine ACall.to (c2 _) ?_))) <;> (try (conv => whnf))
 repeat (refine Then.mk ?_; (repeat' ((conv => whnf); first | left | refine zg ?_ (o1 _) | refine zg ?_ (o2 _) | refine zg ?_ (c1 _) | refine zg ?_ (c2 _) | refine zgg ?_ (o1 _) | refine zgg ?_ (o2 _) | refine zgg ?_ (c1 _) | refine zgg ?_ (c2 _) | refine zd ?_ | (refine Both.mk ?_ ?_ <;> intro hc <;> try exact wX hc) | (intro c hc; (try (simp only [AH.zA] at hc; repeat (have hn := hc.1; replace hc := hc.2)))) | (refine ACall.to (o1 _) ?_) | (refine ACall.to (o2 _) ?_) | (refine ACall.to (c1 _) ?_) | (refine ACall.to (c2 _) ?_))) <;> (try (conv => whnf)))
 all_goals
  obtain ⟨b, hb⟩ : ∃ b, b = c := ⟨c, rfl⟩
  have hbH : H c = none := by assumption
  have kb : (H.set c (.row [.bool false, .cs a L] 0)) c = some (.row [.bool false, .cs a L] 0) := AH.zC _ _ _
  have hle : HLe H (H.set c (.row [.bool false, .cs a L] 0)) := HLe.fresh _ hbH
  generalize (H.set c (.row [.bool false, .cs a L] 0)) = G at *
  refine zT (σ := Nat × Nat) (4 :: 5 :: 20 :: 21 :: 22 :: 23 :: 24 :: 25 :: 26 :: 27 :: 28 :: 29 :: 30 :: 31 :: 32 :: 33 :: 34 :: 35 :: 36 :: 37 :: 38 :: 39 :: 40 :: 41 :: []) (fun (k, n) => [(4, .int .i64 n), (5, .int .i64 ((k : Int) - 1))]) (fun _ => G) (fun (k, n) => (k = 0 ∧ n = r) ∨ (k = 1 ∧ L = 1 ∧ n = 0)) (fun (k, n) => k) (L, 0) rfl ?_ ⟨rfl, rfl, trivial⟩ (HLe.refl _) ?_
  ·rcases hd with ⟨h1, h2⟩ | ⟨h1, h2⟩
   ·exact .inl ⟨h1, h2.symm⟩
   ·exact .inr ⟨h1, h1, rfl⟩
  ·rintro ⟨k, n⟩ hi
   dsimp only at hi ⊢
   refine AWp.of zU (dok _) rfl ?_
   rcases hi with ⟨rfl, rfl⟩ | ⟨rfl, h2, rfl⟩
   ·(repeat' ((conv => whnf); first | refine Then.mk ?_ | left | refine zd ?_ | (refine Both.mk ?_ ?_ <;> intro hc <;> try exact wX hc) | (intro c hc; (try (simp only [AH.zA] at hc; repeat (have hn := hc.1; replace hc := hc.2)))))) <;> (try (conv => whnf))
    assumption
   ·subst h2
    have ha : a[Int.toNat 0]? = some (.int .i64 (r : Nat)) := by
     rcases hd with h | h
     ·exact absurd h.1 (by decide)
     ·exact h.2
    (repeat' ((conv => whnf); first | refine Then.mk ?_ | left | refine zd ?_ | (refine Both.mk ?_ ?_ <;> intro hc <;> try exact wX hc) | (intro c hc; (try (simp only [AH.zA] at hc; repeat (have hn := hc.1; replace hc := hc.2)))))) <;> (try (conv => whnf))
    exact ⟨(0, r), .inl ⟨rfl, rfl⟩, Nat.zero_lt_one, ⟨congrArg (AV.int .i64) (by omega), rfl, trivial⟩, HLe.refl _⟩
set_option maxRecDepth 8000 in
set_option maxHeartbeats 4000000 in
theorem div_c (x d : Nat) (hx : (dg x).length ≤ 50000000) (hd0 : d ≠ 0) (hd : d < 10000) (H : AH) :
  ACall Tryz.prog 116 [nR false x, nR false d] H (fun y H' => y = .tup [nN false (x / d), nN false (x % d)] ∧ H' = H) := by
 refine ACall.back ?_
 obtain ⟨o1, o2, o3, o4⟩ := dq_ok hd0 (dok_dg x)
 rw [dv_dg] at o3
 have hdv := fun H => divided_c x d hx hd0 hd H
 have hnm := fun H => normal_k false (dq d (dg x)).1 o1 (by omega) H
 rw [o3, o2] at hnm
 have hm2 : x % d < 10000 := Nat.lt_trans (Nat.mod_lt _ (by omega)) hd
 have hnr := fun H => normal_k false (dg (x % d)) (dok_dg _) (Nat.le_trans (dg_len (k := 1) (by omega)) (by decide)) H
 rw [dv_dg] at hnr
 have hql : (dA (dq d (dg x)).1).length = (dg x).length * 1 := by simp [o2]
 generalize dA (dq d (dg x)).1 = qs at *
 generalize x / d = q at *
 generalize x % d = m at *
 simp only [nN_false] at hnm hnr ⊢
 unfold nR at *
 rw [dg_one hd hd0]
 generalize dA (dg q) = Q at *
 generalize (dg q).length = QL at *
 generalize dA (dg m) = M at *
 generalize (dg m).length = ML at *
 generalize dA (dg x) = X at *
 generalize (dg x).length = XL at *
 have hdk : ∀ H, ACall Tryz.prog 133 [.cs X XL, .cs (dA [d]) 1] H (fun y H' => ∃ c, y = .tup [.sl c 0 1 0 XL none, .cs M ML] ∧ H c = none ∧ H' = H.set c (.row qs 0)) := fun H =>
  ACall.told ((hdv H).mono fun y H' ⟨c, h1, h2, h3⟩ => ⟨y, _, AVle.refl _, h3, c, h1, h2, rfl⟩)
 generalize hD : dA [d] = D at *
 have hD1 : [d].length = 1 := rfl
 rw [hD1]
 clear hdv hD hD1
 refine zQ zU (dok _) Tryz.func116 rfl (by decide) rfl ?_
 (repeat' ((conv => whnf); first | left | refine zd ?_ | (refine Both.mk ?_ ?_ <;> intro hc <;> try exact wX hc) | (intro c hc; (try (simp only [AH.zA] at hc; repeat (have hn := hc.1; replace hc := hc.2)))))) <;> (try (conv => whnf))
 rename_i r2 z2 r3 n32 z3 r4 n43 n42 z4 n54 n53
 obtain ⟨r5, h5⟩ : ∃ r, r = c := ⟨c, rfl⟩
 rw [← h5] at hn n54 n53 ⊢
 have z5 : H r5 = none := h5 ▸ hc
 clear h5 hc
 clear c
 obtain ⟨nm, k0, k1⟩ : ∃ nm : Nat → Nat, nm 0 = r4 ∧ nm 1 = r5 := ⟨fun k => if k = 0 then r4 else r5, rfl, rfl⟩
 subst k0 k1
 refine Then.mk ?_
 (repeat' ((conv => whnf); first | left | refine zd ?_ | (refine Both.mk ?_ ?_ <;> intro hc <;> try exact wX hc) | (intro c hc; (try (simp only [AH.zA] at hc; repeat (have hn := hc.1; replace hc := hc.2)))))) <;> (try (conv => whnf))
 refine (hdk _).mono ?_
 rintro y H' ⟨c9, rfl, h9, rfl⟩
 have h9' := h9
 simp only [AH.zA] at h9'
 obtain ⟨m1, m2, m3, m4, m5⟩ := h9'
 (repeat' ((conv => whnf); first | left | refine zd ?_ | (refine Both.mk ?_ ?_ <;> intro hc <;> try exact wX hc) | (intro c hc; (try (simp only [AH.zA] at hc; repeat (have hn := hc.1; replace hc := hc.2)))))) <;> (try (conv => whnf))
 refine Then.mk ?_
 (repeat' ((conv => whnf); first | left | refine zd ?_ | (refine Both.mk ?_ ?_ <;> intro hc <;> try exact wX hc) | (intro c hc; (try (simp only [AH.zA] at hc; repeat (have hn := hc.1; replace hc := hc.2)))))) <;> (try (conv => whnf))
 refine ACall.frz (pre := [_]) (post := []) (AH.zC _ _ _) hql ?_
 rw [AH.del_set _ _ _ h9]
 (repeat' ((conv => whnf); first | left | refine zg ?_ (hnm _) | refine zgg ?_ (hnm _) | refine zd ?_ | (refine Both.mk ?_ ?_ <;> intro hc <;> try exact wX hc) | (intro c hc; (try (simp only [AH.zA] at hc; repeat (have hn := hc.1; replace hc := hc.2)))) | (refine ACall.to (hnm _) ?_))) <;> (try (conv => whnf))
 refine Then.mk ?_
 (repeat' ((conv => whnf); first | left | refine zg ?_ (hnr _) | refine zgg ?_ (hnr _) | refine zd ?_ | (refine Both.mk ?_ ?_ <;> intro hc <;> try exact wX hc) | (intro c hc; (try (simp only [AH.zA] at hc; repeat (have hn := hc.1; replace hc := hc.2)))) | (refine ACall.to (hnr _) ?_))) <;> (try (conv => whnf))
 refine Then.mk ?_
 (repeat' ((conv => whnf); first | left | refine zd ?_ | (refine Both.mk ?_ ?_ <;> intro hc <;> try exact wX hc) | (intro c hc; (try (simp only [AH.zA] at hc; repeat (have hn := hc.1; replace hc := hc.2)))))) <;> (try (conv => whnf))
 refine Then.mk ?_
 (repeat' ((conv => whnf); first | left | refine zd ?_ | (refine Both.mk ?_ ?_ <;> intro hc <;> try exact wX hc) | (intro c hc; (try (simp only [AH.zA] at hc; repeat (have hn := hc.1; replace hc := hc.2)))))) <;> (try (conv => whnf))
 refine Then.mk ?_
 refine AWq.zI ?_
 refine AWq.drawK mo [(4, 0), (5, 1)] nm ?_ (by decide +kernel) ?_
 ·intro a b ha hb hab
  simp at ha hb
  rcases ha with rfl | rfl <;> rcases hb with rfl | rfl <;> first | rfl | exact absurd hab n54 | exact absurd hab (Ne.symm n54)
 (repeat' ((conv => whnf); first | refine DrawK.consD ?_ | refine DrawK.nil ?_ | (apply And.intro; (focus (repeat (first | exact trivial | (refine And.intro (a := _ ≠ _) (b := offR _ _ _) ?_ ?_; (first | assumption | omega | exact Ne.symm (by assumption) | exact AH.ne_none (by assumption) (by assumption) | exact AH.none_ne (by assumption) (by assumption) | exact (AH.none_set (by assumption)).1 | exact Ne.symm (AH.none_set (by assumption)).1)))); done)) | refine Then.mk ?_ | left | refine zd ?_ | (refine Both.mk ?_ ?_ <;> intro hc <;> try exact wX hc) | (intro c hc; (try (simp only [AH.zA] at hc; repeat (have hn := hc.1; replace hc := hc.2)))))) <;> (try (conv => whnf))
 (first | ((repeat' (first | (with_reducible exact HLe.refl _) | (with_reducible assumption) | apply HLe.push | refine HLe.set_of _ _ ?_ ?_ | refine HLe.del _ ?_ ?_ | rw [AH.zR _ _ (by (first | assumption | omega | exact Ne.symm (by assumption) | exact AH.ne_none (by assumption) (by assumption) | exact AH.none_ne (by assumption) (by assumption) | exact (AH.none_set (by assumption)).1 | exact Ne.symm (AH.none_set (by assumption)).1))])); done) | ((repeat' (first | refine HLe.set_of _ _ ?_ ?_ | refine HLe.del _ ?_ ?_)) <;> (first | assumption | exact HLe.refl _ | exact HLe.none (by assumption) (by assumption) | (simp_all; done))))
open Go.Fw Go
def bvs (ls : List (List UInt8)) : List AV := ls.map fun x => .cs (u8s x) x.length
@[simp] theorem bvs_len (ls : List (List UInt8)) : (bvs ls).length = ls.length := by simp [bvs]
open Go.Fw Go
theorem plc_bd {c : Nat → Nat} {B : Nat} : ∀ {n : Nat}, (∀ k, k < n → c k ≤ B) → plc c n ≤ n * B
 | 0, _ => by simp [plc]
 | n + 1, h => by
  have h1 := plc_bd (n := n) (fun k hk => h k (by omega))
  have h2 := h n (by omega)
  show plc c n + c n ≤ (n + 1) * B
  rw [Nat.add_mul]; omega
set_option maxRecDepth 8000 in
theorem rplace_c {H : AH} {p q n v : Nat} {c : Nat → Nat} (hp : H p = some (.row [.sl q v 1 0 n none] 0)) (hq : H q = some (.row (iL n fun k => (c k : Int)) v)) (hn : n ≤ 1024) (hb : ∀ k, k < n → c k ≤ 40000) (s : Nat) (hs : s ≤ n) :
  ACall Tryz.prog 122 [.ptr p 0 0, .int .i64 s] H (fun y H' => y = .int .i64 (plc c s : Nat) ∧ H' = H) := by
 have hcell := fun i (hi : i < n) => iL_gi (fun k => (c k : Int)) hi
 have hlen : (iL n fun k => (c k : Int)).length = n := iL_len _ _
 have hbd : ∀ i, i ≤ n → plc c i ≤ 50000000 := fun i hi => by
  have h1 := plc_bd (B := 40000) (c := c) (n := i) (fun k hk => hb k (by omega))
  have h2 : i * 40000 ≤ 1024 * 40000 := Nat.mul_le_mul_right _ (by omega)
  omega
 generalize (iL n fun k => (c k : Int)) = cells at *
 refine zQ zU (dok _) Tryz.func122 rfl (by decide) rfl ?_
 (repeat' ((conv => whnf); first | refine Then.mk ?_ | left | refine zd ?_ | (refine Both.mk ?_ ?_ <;> intro hc <;> try exact wX hc) | (intro c hc; (try (simp only [AH.zA] at hc; repeat (have hn := hc.1; replace hc := hc.2)))))) <;> (try (conv => whnf))
 refine zT (σ := Nat) (5 :: 6 :: 7 :: 8 :: 9 :: 10 :: 11 :: 12 :: 13 :: 14 :: 15 :: 16 :: 17 :: 18 :: 19 :: 20 :: []) (fun i => [(6, .int .i64 i), (5, .int .i64 (plc c i : Nat))]) (fun _ => H) (fun i => i ≤ s) (fun i => s - i) 0 rfl (Nat.zero_le _) ⟨rfl, rfl, trivial⟩ (HLe.refl _) ?_
 intro i hi
 dsimp only at hi ⊢
 refine AWp.of zU (dok _) rfl ?_
 have hpl := hbd i (by omega)
 by_cases his : i < s
 ·have hg := hcell i (by omega)
  have hci := hb i (by omega)
  have hps : plc c (i + 1) = plc c i + c i := rfl
  (repeat' ((conv => whnf); first | refine Then.mk ?_ | left | refine zd ?_ | (refine Both.mk ?_ ?_ <;> intro hc <;> try exact wX hc) | (intro c hc; (try (simp only [AH.zA] at hc; repeat (have hn := hc.1; replace hc := hc.2)))))) <;> (try (conv => whnf))
  exact ⟨i + 1, by omega, by omega, ⟨congrArg (AV.int .i64) (by omega), congrArg (AV.int .i64) (by rw [hps]; omega), trivial⟩, HLe.refl _⟩
 ·have hie : i = s := by omega
  subst hie
  (repeat' ((conv => whnf); first | refine Then.mk ?_ | left | refine zd ?_ | (refine Both.mk ?_ ?_ <;> intro hc <;> try exact wX hc) | (intro c hc; (try (simp only [AH.zA] at hc; repeat (have hn := hc.1; replace hc := hc.2)))))) <;> (try (conv => whnf))
structure RmAt (G : AH) (p q n : Nat) (c : Nat → Nat) : Prop where
 hp : G p = some (.row [.sl q n 1 0 n none] 0)
 hq : G q = some (.row (iL n fun k => (c k : Int)) n)
 ne : p ≠ q
 ok : MdOk n c
def rmG (G : AH) (q n : Nat) (c : Nat → Nat) : AH := G.set q (.row (iL n fun k => (c k : Int)) n)
theorem RmAt.set {G : AH} {p q n : Nat} {c d : Nat → Nat} (h : RmAt G p q n c) (hd : MdOk n d) : RmAt (rmG G q n d) p q n d :=
 ⟨by unfold rmG; rw [AH.zR _ _ h.ne]; exact h.hp, AH.zC _ _ _, h.ne, hd⟩
theorem RmAt.same {G G' : AH} {p q n : Nat} {c : Nat → Nat} (h : RmAt G p q n c) (h1 : G' p = G p) (h2 : G' q = G q) : RmAt G' p q n c :=
 ⟨by rw [h1]; exact h.hp, by rw [h2]; exact h.hq, h.ne, h.ok⟩
set_option maxRecDepth 8000 in
set_option maxHeartbeats 4000000 in
theorem rsee_c {H : AH} {p q n : Nat} {c : Nat → Nat} (h : RmAt H p q n c) (s : Nat) (hs : s < n) :
  ACall Tryz.prog 123 [.ptr p 0 0, .int .i64 s] H (fun y H' => y = .int .i64 0 ∧ H' = rmG H q n (seeM n c s)) := by
 obtain ⟨hp, hq, hne, hok⟩ := h
 have hn := hok.hn
 have hqp := Ne.symm hne
 have hcs := hok.le hs
 have hpu : ∀ k, k < n → upM c s k ≤ 32800 := fun k hk => by
  have := hok.le hk
  unfold upM; split <;> omega
 have hu : plc (upM c s) n ≤ 32800 := by
  have := plc_add (c := c) (s := s) (a := 32) (n := n)
  rw [if_pos hs] at this
  have h2 := hok.sum
  have : plc (upM c s) n = plc c n + 32 := this
  omega
 have hpl := rplace_c (H := rmG H q n (upM c s)) (p := p) (q := q) (n := n) (v := n) (c := upM c s) (by unfold rmG; rw [AH.zR _ _ hne]; exact hp) (AH.zC _ _ _) hn (fun k hk => by have := hpu k hk; omega) n (Nat.le_refl _)
 obtain ⟨cells, hce⟩ : ∃ cells, cells = iL n fun k => (c k : Int) := ⟨_, rfl⟩
 have hg : cells[(s : Int).toNat]? = some (.int .i64 (c s)) := by rw [hce]; exact iL_gi (fun k => (c k : Int)) hs
 have hlen : cells.length = n := by rw [hce]; exact iL_len _ _
 have hw : H.set q (.row (wrA cells (0 + (s : Int).toNat * 1) [.int .i64 ((c s : Int) + 32)]) n) = rmG H q n (upM c s) := by
  unfold rmG
  refine congrArg (fun l => H.set q (.row l n)) ?_
  rw [Nat.zero_add, Nat.mul_one, Int.toNat_natCast, hce, iL_wr _ hs]
  refine iL_congr fun k hk => ?_
  unfold upM
  split
  ·rename_i e; rw [e]; omega
  ·rfl
 rw [← hce] at hq
 refine zQ zU (dok _) Tryz.func123 rfl (by decide) rfl ?_
 (repeat' ((conv => whnf); first | refine Then.mk ?_ | left | refine zd ?_ | (refine Both.mk ?_ ?_ <;> intro hc <;> try exact wX hc) | (intro c hc; (try (simp only [AH.zA] at hc; repeat (have hn := hc.1; replace hc := hc.2)))))) <;> (try (conv => whnf))
 have hpl : ACall Tryz.prog 122 [.ptr p 0 0, .int .i64 n] (H.set q (.row (wrA cells (0 + (s : Int).toNat * 1) [.int .i64 ((c s : Int) + 32)]) n)) (fun y H' => y = .int .i64 (plc (upM c s) n : Nat) ∧ H' = rmG H q n (upM c s)) := by rw [hw]; exact hpl
 refine ACall.to hpl ?_
 generalize hT : plc (upM c s) n = T at *
 by_cases hbig : 32768 < T
 ·(repeat' ((conv => whnf); first | refine Then.mk ?_ | left | refine zd ?_ | (refine Both.mk ?_ ?_ <;> intro hc <;> try exact wX hc) | (intro c hc; (try (simp only [AH.zA] at hc; repeat (have hn := hc.1; replace hc := hc.2)))))) <;> (try (conv => whnf))
  refine zT (σ := Nat) (5 :: 39 :: 40 :: 41 :: 42 :: 43 :: 44 :: 45 :: 46 :: 47 :: 48 :: 49 :: 50 :: 51 :: 52 :: 53 :: 54 :: 55 :: 56 :: 57 :: 58 :: 59 :: 60 :: 61 :: 62 :: []) (fun i => [(5, .int .i64 i)]) (fun i => rmG H q n fun k => if k < i then (upM c s k + 1) / 2 else upM c s k) (fun i => i ≤ n) (fun i => n - i) 0 rfl (Nat.zero_le _) ⟨rfl, trivial⟩ ?_ ?_
  ·refine HLe.of_eq ?_
   unfold rmG
   exact congrArg (fun l => H.set q (.row l n)) (iL_congr fun k hk => by dsimp only; rw [if_neg (by omega)])
  ·intro i hi
   dsimp only at hi ⊢
   refine AWp.of zU (dok _) rfl ?_
   have kp : (rmG H q n fun k => if k < i then (upM c s k + 1) / 2 else upM c s k) p = some (.row [.sl q n 1 0 n none] 0) := by unfold rmG; rw [AH.zR _ _ hne]; exact hp
   have kq : (rmG H q n fun k => if k < i then (upM c s k + 1) / 2 else upM c s k) q = some (.row (iL n fun k => ((if k < i then (upM c s k + 1) / 2 else upM c s k : Nat) : Int)) n) := AH.zC _ _ _
   by_cases hin : i < n
   ·obtain ⟨z, hz⟩ : ∃ z, z = iL n fun k => ((if k < i then (upM c s k + 1) / 2 else upM c s k : Nat) : Int) := ⟨_, rfl⟩
    have g1 : z[(i : Int).toNat]? = some (.int .i64 (upM c s i)) := by
     rw [hz]; refine (iL_gi _ hin).trans ?_
     rw [if_neg (by omega)]
    have hzl : z.length = n := by rw [hz]; exact iL_len _ _
    have hui := hpu i hin
    have ht : (((upM c s i : Int) + 1)).tdiv 2 = ((upM c s i + 1) / 2 : Nat) := by
     rw [Int.tdiv_eq_ediv_of_nonneg (by omega)]; omega
    have hx : (upM c s i + 1) / 2 ≤ 16400 := by omega
    have hnew : ((rmG H q n fun k => if k < i then (upM c s k + 1) / 2 else upM c s k).set q (.row (wrA z (0 + (i : Int).toNat * 1) [.int .i64 ((upM c s i + 1) / 2 : Nat)]) n)) = rmG H q n fun k => if k < i + 1 then (upM c s k + 1) / 2 else upM c s k := by
     unfold rmG
     rw [AH.zS]
     refine congrArg (fun l => H.set q (.row l n)) ?_
     rw [Nat.zero_add, Nat.mul_one, Int.toNat_natCast, hz, iL_wr _ hin]
     refine iL_congr fun k hk => ?_
     dsimp only
     by_cases e : k = i
     ·subst e; rw [if_pos rfl, if_pos (by omega)]
     ·rw [if_neg e]
      by_cases e2 : k < i
      ·rw [if_pos e2, if_pos (by omega)]
      ·rw [if_neg e2, if_neg (by omega)]
    rw [← hz] at kq
    have hdv : IntKind.i64.wrap (((upM c s i : Int) + 1).tdiv 2) = ((upM c s i + 1) / 2 : Nat) := by rw [ht, IntKind.wrap_i64]; omega
    generalize (rmG H q n fun k => if k < i then (upM c s k + 1) / 2 else upM c s k) = G at *
    generalize upM c s i = u at *
    (repeat' ((conv => whnf); first | refine Then.mk ?_ | left | refine zd ?_ | (refine Both.mk ?_ ?_ <;> intro hc <;> try exact wX hc) | (intro c hc; (try (simp only [AH.zA] at hc; repeat (have hn := hc.1; replace hc := hc.2)))))) <;> (try (conv => whnf))
    refine ⟨i + 1, hin, by omega, ⟨congrArg (AV.int .i64) (by omega), trivial⟩, HLe.of_eq ?_⟩
    dsimp only
    rw [← hnew]
    rfl
   ·have hie : i = n := by omega
    have hfin : (rmG H q n fun k => if k < i then (upM c s k + 1) / 2 else upM c s k) = rmG H q n (seeM n c s) := by
     have e : seeM n c s = fun k => (upM c s k + 1) / 2 := if_pos (by omega)
     rw [e]
     unfold rmG
     exact congrArg (fun l => H.set q (.row l n)) (iL_congr fun k hk => by dsimp only; rw [if_pos (by omega)])
    generalize (rmG H q n fun k => if k < i then (upM c s k + 1) / 2 else upM c s k) = G at *
    have hcl : (iL n fun k => ((if k < i then (upM c s k + 1) / 2 else upM c s k : Nat) : Int)).length = n := iL_len _ _
    (repeat' ((conv => whnf); first | refine Then.mk ?_ | left | refine zd ?_ | (refine Both.mk ?_ ?_ <;> intro hc <;> try exact wX hc) | (intro c hc; (try (simp only [AH.zA] at hc; repeat (have hn := hc.1; replace hc := hc.2)))))) <;> (try (conv => whnf))
    exact hfin
 ·have hfin : rmG H q n (upM c s) = rmG H q n (seeM n c s) := by
   have e : seeM n c s = upM c s := if_neg (by omega)
   rw [e]
  rw [← hfin]
  generalize rmG H q n (upM c s) = G at *
  (repeat' ((conv => whnf); first | refine Then.mk ?_ | left | refine zd ?_ | (refine Both.mk ?_ ?_ <;> intro hc <;> try exact wX hc) | (intro c hc; (try (simp only [AH.zA] at hc; repeat (have hn := hc.1; replace hc := hc.2)))))) <;> (try (conv => whnf))
theorem iL_snoc1 (n : Nat) : iL n (fun _ => 1) ++ [.int .i64 1] = iL (n + 1) fun _ => 1 := by
 have h := k_iL_app (n := n) (m := 1) (fun _ => 1) (fun _ => 1)
 have e : iL 1 (fun _ => (1 : Int)) = [.int .i64 1] := rfl
 rw [e] at h
 rw [h]
 exact iL_congr fun k hk => by split <;> rfl
set_option maxRecDepth 8000 in
theorem rnew_c (n : Nat) (hn : n ≤ 1024) (H : AH) :
  ACall Tryz.prog 115 [.int .i64 n] H (fun y H' => ∃ p q, H p = none ∧ H q = none ∧ p ≠ q ∧ y = .ptr p 0 0 ∧ H' = (rmG H q n fun _ => 1).set p (.row [.sl q n 1 0 n none] 0)) := by
 refine zQ zU (dok _) Tryz.func115 rfl (by decide) rfl ?_
 (repeat' ((conv => whnf); first | left | refine zd ?_ | (refine Both.mk ?_ ?_ <;> intro hc <;> try exact wX hc) | (intro c hc; (try (simp only [AH.zA] at hc; repeat (have hn := hc.1; replace hc := hc.2)))))) <;> (try (conv => whnf))
 refine Then.mk ?_
 (repeat' ((conv => whnf); first | left | refine zd ?_ | (refine Both.mk ?_ ?_ <;> intro hc <;> try exact wX hc) | (intro c hc; (try (simp only [AH.zA] at hc; repeat (have hn := hc.1; replace hc := hc.2)))))) <;> (try (conv => whnf))
 refine Then.mk (AWq.in ?_)
 refine AWp_nilC 1 [] [] (p := c) (u := 0) (AH.zC _ _ _) fun q hq hqc => ?_
 have hqH := (AH.none_set hq).2
 have hcq := Ne.symm hqc
 refine AWp.of zU (dok _) rfl ?_
 (repeat' ((conv => whnf); first | refine Then.mk ?_ | left | refine zd ?_ | (refine Both.mk ?_ ?_ <;> intro hc <;> try exact wX hc) | (intro c hc; (try (simp only [AH.zA] at hc; repeat (have hn := hc.1; replace hc := hc.2)))))) <;> (try (conv => whnf))
 refine zT (σ := Nat) (4 :: 7 :: 8 :: 9 :: 10 :: 11 :: 12 :: 13 :: 14 :: 15 :: 16 :: 17 :: 18 :: 19 :: 20 :: []) (fun i => [(4, .int .i64 i)]) (fun i => (AH.set H q (.row (iL i fun _ => 1) i)).set c (.row [.sl q i 1 0 i none] 0)) (fun i => i ≤ n) (fun i => n - i) 0 rfl (Nat.zero_le _) ⟨rfl, trivial⟩ ?_ ?_
 ·exact HLe.of_eq ((AH.set_back H hcq _ _ _).trans (AH.set_comm _ _ _ hcq)).symm
 ·intro i hi
  dsimp only at hi ⊢
  refine AWp.of zU (dok _) rfl ?_
  have kc : ((AH.set H q (.row (iL i fun _ => 1) i)).set c (.row [.sl q i 1 0 i none] 0)) c = some (.row [.sl q i 1 0 i none] 0) := AH.zC _ _ _
  have kq : ((AH.set H q (.row (iL i fun _ => 1) i)).set c (.row [.sl q i 1 0 i none] 0)) q = some (.row (iL i fun _ => 1) i) := by rw [AH.zR _ _ hqc, AH.zC]
  have hil : (iL i fun _ => 1).length = i := iL_len _ _
  have hrm : ((AH.set H q (.row (iL i fun _ => 1) i)).set c (.row [.sl q i 1 0 i none] 0)) = (rmG H q i fun _ => 1).set c (.row [.sl q i 1 0 i none] 0) := rfl
  have hs : ∀ A B, (((AH.set H q (.row (iL i fun _ => 1) i)).set c (.row [.sl q i 1 0 i none] 0)).set q A).set c B = (AH.set H q A).set c B := fun A B => by
   rw [AH.set_back _ hqc, AH.zS]
  have hsn := iL_snoc1 i
  generalize ((AH.set H q (.row (iL i fun _ => 1) i)).set c (.row [.sl q i 1 0 i none] 0)) = G at *
  by_cases hin : i < n
  ·(repeat' ((conv => whnf); first | refine Then.mk ?_ | left | refine zd ?_ | (refine Both.mk ?_ ?_ <;> intro hc <;> try exact wX hc) | (intro c hc; (try (simp only [AH.zA] at hc; repeat (have hn := hc.1; replace hc := hc.2)))))) <;> (try (conv => whnf))
   refine ⟨i + 1, hin, by omega, ⟨congrArg (AV.int .i64) (by omega), trivial⟩, HLe.of_eq ?_⟩
   dsimp only
   rw [← hs, ← hsn]
   rfl
  ·have hie : i = n := by omega
   subst hie
   (repeat' ((conv => whnf); first | refine Then.mk ?_ | left | refine zd ?_ | (refine Both.mk ?_ ?_ <;> intro hc <;> try exact wX hc) | (intro c hc; (try (simp only [AH.zA] at hc; repeat (have hn := hc.1; replace hc := hc.2)))))) <;> (try (conv => whnf))
   exact ⟨c, q, by assumption, hqH, hcq, rfl, hrm⟩
end Go.Proofs.YtgpfmojlgejnhaaGreat
