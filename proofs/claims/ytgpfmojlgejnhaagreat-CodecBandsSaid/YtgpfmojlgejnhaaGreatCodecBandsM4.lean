/- For the law CodecBands, part 4 of 7: the frame of the walk, the walks of the functions, the plain law, the row. No conditions. -/
import Derived.Test.YtgpfmojlgejnhaaGreatCodecBandsM3
/- The walks of the coder's writer: steps. -/
namespace Go.Proofs.YtgpfmojlgejnhaaGreat
open Go.Fw Go
set_option linter.unusedVariables false
set_option linter.unusedSimpArgs false
theorem wr64 {r : Nat} (h : r < 18446744073709551616) : IntKind.u64.wrap (r : Int) = r := by rw [wrap_u64']; omega
theorem wrap_u8' (x : Int) : IntKind.u8.wrap x = x % 256 := by show x.emod (2 ^ 8) = _; rfl
set_option maxRecDepth 8000 in
theorem narrow_c {H : AH} {w : Nat} {x : AV} {low W p c t : Nat} (hw : H w = some (.row [.int .u64 low, .int .u64 W, x] 0)) (hs : StOk p c t) (hW : W ≤ 4294967296) :
  ACall Tryz.prog 87 [.ptr w 0 0, .int .i64 c, .int .i64 t, .int .i64 p] H (fun y H' => y = .int .u64 (W / t * p : Nat) ∧ H' = H.set w (.row [.int .u64 low, .int .u64 (W / t * c : Nat), x] 0)) := by
 obtain ⟨h1, h2, h3⟩ := hs
 have hd : (W : Int).tdiv (t : Int) = (W / t : Nat) := (Int.ofNat_tdiv W t).symm
 have a1 : W / t * p ≤ W := Nat.le_trans (Nat.mul_le_mul_left _ (show p ≤ t by omega)) (Nat.div_mul_le_self _ _)
 have a2 : W / t * c ≤ W := Nat.le_trans (Nat.mul_le_mul_left _ (show c ≤ t by omega)) (Nat.div_mul_le_self _ _)
 have a3 : W / t ≤ W := Nat.div_le_self _ _
 have b1 := Int.natCast_mul (W / t) p
 have b2 := Int.natCast_mul (W / t) c
 have e1 : IntKind.u64.wrap ((W : Int).tdiv (t : Int)) = (W / t : Nat) := by rw [hd]; exact wr64 (by omega)
 have e2 : IntKind.u64.wrap (((W / t : Nat) : Int) * p) = (W / t * p : Nat) := by rw [← b1]; exact wr64 (by omega)
 have e3 : IntKind.u64.wrap (((W / t : Nat) : Int) * c) = (W / t * c : Nat) := by rw [← b2]; exact wr64 (by omega)
 refine zQ zU (dok _) Tryz.func87 rfl (by decide) rfl ?_
 (repeat' ((conv => whnf); first | refine Then.mk ?_ | left | refine zd ?_ | (refine Both.mk ?_ ?_ <;> intro hc <;> try exact wX hc) | (intro c hc; (try (simp only [AH.zA] at hc; repeat (have hn := hc.1; replace hc := hc.2)))))) <;> (try (conv => whnf))
 rfl
def wtH (H : AH) (w r v : Nat) (bs : List UInt8) (low W : Nat) : AH := (H.set r (.row (u8s bs) v)).set w (.row [.int .u64 low, .int .u64 W, .sl r v 1 0 bs.length none] 0)
def wcH (H : AH) (w r : Nat) (σ : Cs) : AH := wtH H w r σ.L (dig σ.L (σ.V / 4294967296)) (σ.V % 4294967296) σ.W
def car (L top k : Nat) : List UInt8 := dig (L - k) (top / 256 ^ k) ++ List.replicate k 0
theorem car_len {L top k : Nat} (h : k ≤ L) : (car L top k).length = L := by simp [car]; omega
theorem car_zero (L top : Nat) : car L top 0 = dig L top := by simp [car]
theorem dig_succ (m y : Nat) : dig (m + 1) y = dig m (y / 256) ++ [UInt8.ofNat (y % 256)] := rfl
theorem car_get {L top k : Nat} (h : k < L) : (u8s (car L top k))[L - 1 - k]? = some (.int .u8 ((top / 256 ^ k % 256 : Nat) : Int)) := by
 have e : L - k = (L - 1 - k) + 1 := by omega
 have hd : (UInt8.ofNat (top / 256 ^ k % 256)).toNat = top / 256 ^ k % 256 := by simp
 unfold car u8s
 rw [e, dig_succ, List.append_assoc, List.getElem?_map, List.getElem?_append_right (by simp), dig_len, Nat.sub_self]
 show some (AV.int .u8 ((UInt8.ofNat (top / 256 ^ k % 256)).toNat : Int)) = _
 rw [hd]
theorem set_mid {α : Type} (a c : List α) (x y : α) : (a ++ [x] ++ c).set a.length y = a ++ [y] ++ c := by
 rw [List.append_assoc, List.set_append_right _ _ (Nat.le_refl _), Nat.sub_self, List.append_assoc]; rfl
theorem car_wr {L top k : Nat} (h : k < L) (y : UInt8) : wrA (u8s (car L top k)) (L - 1 - k) [.int .u8 y.toNat] = u8s (dig (L - 1 - k) (top / 256 ^ (k + 1)) ++ [y] ++ List.replicate k 0) := by
 have e : L - k = (L - 1 - k) + 1 := by omega
 have hl : (dig (L - 1 - k) (top / 256 ^ k / 256)).length = L - 1 - k := dig_len _ _
 rw [wr_u8s (by rw [car_len (by omega)]; omega)]
 congr 1
 unfold car
 rw [e, dig_succ, Nat.pow_succ, ← Nat.div_div_eq_div_mul]
 have := set_mid (dig (L - 1 - k) (top / 256 ^ k / 256)) (List.replicate k 0) (UInt8.ofNat (top / 256 ^ k % 256)) y
 rw [hl] at this
 exact this
theorem car_next {L top k : Nat} (h : k < L) : dig (L - 1 - k) (top / 256 ^ (k + 1)) ++ [0] ++ List.replicate k 0 = car L top (k + 1) := by
 unfold car
 rw [List.append_assoc, show L - (k + 1) = L - 1 - k by omega]
 congr 1
theorem car_end {L top k : Nat} (h : k < L) (h1 : top + 1 = (top / 256 ^ k + 1) * 256 ^ k) (h2 : top / 256 ^ k % 256 ≠ 255) :
  dig (L - 1 - k) (top / 256 ^ (k + 1)) ++ [UInt8.ofNat (top / 256 ^ k % 256 + 1)] ++ List.replicate k 0 = dig L (top + 1) := by
 rw [h1]
 have e : L = (L - 1 - k + 1) + k := by omega
 have := dig_zeros (L - 1 - k + 1) (top / 256 ^ k + 1) k
 rw [← e] at this
 rw [this, Nat.pow_succ, ← Nat.div_div_eq_div_mul, dig_succ]
 have hb : top / 256 ^ k % 256 < 256 := Nat.mod_lt _ (by decide)
 rw [show (top / 256 ^ k + 1) / 256 = top / 256 ^ k / 256 by omega, show (top / 256 ^ k + 1) % 256 = top / 256 ^ k % 256 + 1 by omega]
theorem car_inv {top k : Nat} (h1 : top + 1 = (top / 256 ^ k + 1) * 256 ^ k) (h2 : top / 256 ^ k % 256 = 255) : top + 1 = (top / 256 ^ (k + 1) + 1) * 256 ^ (k + 1) := by
 have e : top / 256 ^ (k + 1) = top / 256 ^ k / 256 := by rw [Nat.pow_succ, Nat.div_div_eq_div_mul]
 have e2 : top / 256 ^ k + 1 = (top / 256 ^ k / 256 + 1) * 256 := by omega
 rw [e, Nat.pow_succ, Nat.mul_comm (256 ^ k) 256, ← Nat.mul_assoc, ← e2]
 exact h1
set_option maxRecDepth 8000 in
set_option maxHeartbeats 4000000 in
theorem wstep_c {H : AH} {w r : Nat} {σ : Cs} {p c t : Nat} (hwr : w ≠ r) (hc : CsOk σ) (hs : StOk p c t) (hL : σ.L ≤ 1000000000000) :
  ACall Tryz.prog 54 [.ptr w 0 0, .int .i64 p, .int .i64 c, .int .i64 t] (wcH H w r σ) (fun y H' => y = .tup [] ∧ H' = wcH H w r (stp σ p c t)) := by
 obtain ⟨v, hv⟩ : ∃ v, v = σ.L := ⟨_, rfl⟩
 obtain ⟨low, hlow⟩ : ∃ low, low = σ.V % 4294967296 := ⟨_, rfl⟩
 obtain ⟨top, htop⟩ : ∃ top, top = σ.V / 4294967296 := ⟨_, rfl⟩
 have hw : wcH H w r σ w = some (.row [.int .u64 low, .int .u64 σ.W, .sl r v 1 0 (dig σ.L top).length none] 0) := by
  rw [hlow, htop, hv]; exact AH.zC _ _ _
 have hn := narrow_c hw hs hc.hi
 obtain ⟨k1, k2, k3, k4⟩ := nrw_ok hc hs
 have hi := hc.hi
 have hroom := hc.room
 have k3 : σ.V + σ.W / t * p + σ.W / t * c ≤ σ.V + σ.W := k3
 have k1 : 512 ≤ σ.W / t * c := k1
 have k2 : σ.W / t * c ≤ σ.W := k2
 have hst : stp σ p c t = shf 3 ⟨σ.V + σ.W / t * p, σ.W / t * c, σ.L⟩ := rfl
 rw [hst]
 have hrw : r ≠ w := Ne.symm hwr
 obtain ⟨X, hX⟩ : ∃ X, X = σ.W / t * p := ⟨_, rfl⟩
 obtain ⟨Y, hY⟩ : ∃ Y, Y = σ.W / t * c := ⟨_, rfl⟩
 rw [← hX, ← hY] at k3 ⊢
 rw [← hX] at k4 hn
 rw [← hY] at k1 k2 hn
 have hH : wcH H w r σ = wtH H w r v (dig σ.L top) low σ.W := by rw [hlow, htop, hv]; rfl
 rw [hH] at hw hn ⊢
 clear hst hH
 refine zQ zU (dok _) Tryz.func54 rfl (by decide) rfl ?_
 refine AWq.zI ?_
 refine AWq.drawF mo ([20], [13]) (fun G => ∃ W' x, G w = some (.row [.int .u64 low, W', x] 0)) ⟨_, _, hw⟩ (by decide +kernel) ?_
 (repeat' ((conv => whnf); first | refine Then.mk ?_ | left | refine zg ?_ (hn) | refine zgg ?_ (hn) | refine zd ?_ | (refine Both.mk ?_ ?_ <;> intro hc <;> try exact wX hc) | (intro c hc; (try (simp only [AH.zA] at hc; repeat (have hn := hc.1; replace hc := hc.2)))) | (refine ACall.to (hn) ?_))) <;> (try (conv => whnf))
 refine ⟨.int .u64 low, ?_, ?_, ?_⟩
 ·(repeat' ((conv => whnf); first | refine Then.mk ?_ | left | refine zd ?_ | (refine Both.mk ?_ ?_ <;> intro hc <;> try exact wX hc) | (intro c hc; (try (simp only [AH.zA] at hc; repeat (have hn := hc.1; replace hc := hc.2)))))) <;> (try (conv => whnf))
 ·intro G hG
  obtain ⟨W', x, hG⟩ : ∃ W' x, G w = some (.row [.int .u64 low, W', x] 0) := hG
  (repeat' ((conv => whnf); first | refine Then.mk ?_ | left | refine zd ?_ | (refine Both.mk ?_ ?_ <;> intro hc <;> try exact wX hc) | (intro c hc; (try (simp only [AH.zA] at hc; repeat (have hn := hc.1; replace hc := hc.2)))))) <;> (try (conv => whnf))
 (repeat' ((conv => whnf); first | refine Then.mk ?_ | left | refine zg ?_ (hn) | refine zgg ?_ (hn) | refine zd ?_ | (refine Both.mk ?_ ?_ <;> intro hc <;> try exact wX hc) | (intro c hc; (try (simp only [AH.zA] at hc; repeat (have hn := hc.1; replace hc := hc.2)))) | (refine ACall.to (hn) ?_))) <;> (try (conv => whnf))
 refine And.intro (show ∃ W' x, _ = _ from ⟨_, _, AH.zC _ _ _⟩) ?_
 (repeat' ((conv => whnf); first | left | refine zd ?_ | (refine Both.mk ?_ ?_ <;> intro hc <;> try exact wX hc) | (intro c hc; (try (simp only [AH.zA] at hc; repeat (have hn := hc.1; replace hc := hc.2)))))) <;> (try (conv => whnf))
 refine Then.mk (AWq.in ?_)
 refine AWp_cutd (H2 := wtH H w r v (dig σ.L top) (low + X) Y) [(0, .ptr w 0 0)] rfl ⟨rfl, trivial⟩ (fun _ => rfl) (HLe.of_eq ?_) ?_
 ·refine Eq.trans ?_ (Eq.symm ((congrArg (fun G => AH.set G w _) (AH.zS _ _ _ _)).trans (AH.zS _ _ _ _)))
  exact congrArg (fun z => AH.set _ w (.row [.int .u64 z, .int .u64 Y, .sl r v 1 0 (dig σ.L top).length none] 0)) (Int.natCast_add low X)
 have hlb : low < 4294967296 := by omega
 have htl : 4294967296 ≤ low + X → top + 1 < 256 ^ σ.L := fun h => by
  generalize 256 ^ σ.L = P at hroom ⊢
  omega
 refine AWp.of zU (dok _) rfl ?_
 apply Kept_split
 case main =>
  intro tail
  by_cases hca : 4294967296 ≤ low + X
  ·have htl := htl hca
   have hdl := dig_len σ.L top
   (repeat' ((conv => whnf); first | refine Then.mk ?_ | left | refine zd ?_ | (refine Both.mk ?_ ?_ <;> intro hc <;> try exact wX hc) | (intro c hc; (try (simp only [AH.zA] at hc; repeat (have hn := hc.1; replace hc := hc.2)))))) <;> (try (conv => whnf))
   refine zT (σ := Nat) (8 :: 46 :: 47 :: 48 :: 49 :: 50 :: 51 :: 52 :: 53 :: 54 :: 55 :: 56 :: 57 :: 58 :: 59 :: 60 :: 61 :: []) (fun k => [(8, .int .i64 ((σ.L : Int) - 1 - k))]) (fun k => wtH H w r v (car σ.L top k) (low + X - 4294967296) Y) (fun k => k < σ.L ∧ top + 1 = (top / 256 ^ k + 1) * 256 ^ k) (fun k => σ.L - k) 0 rfl ?_ ?_ ?_ ?_
   ·refine ⟨?_, by simp⟩
    by_cases h : σ.L = 0
    ·rw [h] at htl; simp at htl
    ·omega
   ·refine ⟨congrArg (AV.int .i64) ?_, trivial⟩
    omega
   ·refine HLe.of_eq ?_
    rw [car_zero]
    refine Eq.trans ?_ (Eq.symm (AH.zS _ _ _ _))
    exact congrArg (fun z => AH.set _ w (.row [.int .u64 z, .int .u64 Y, .sl r v 1 0 (dig σ.L top).length none] 0)) (by omega)
   ·rintro k ⟨hk1, hk2⟩
    refine AWp.of zU (dok _) rfl ?_
    have hll : (car σ.L top k).length = σ.L := car_len (by omega)
    obtain ⟨z, hz⟩ : ∃ z, z = u8s (car σ.L top k) := ⟨_, rfl⟩
    have hzl : z.length = σ.L := by rw [hz]; simp [u8s, hll]
    have hix : ((σ.L : Int) - 1 - k).toNat = σ.L - 1 - k := by omega
    have hg : z[((σ.L : Int) - 1 - k).toNat]? = some (.int .u8 ((top / 256 ^ k % 256 : Nat) : Int)) := by rw [hix, hz]; exact car_get hk1
    have hw1 : wtH H w r v (car σ.L top k) (low + X - 4294967296) Y w = some (.row [.int .u64 ((low + X - 4294967296 : Nat) : Int), .int .u64 Y, .sl r v 1 0 σ.L none] 0) := by
     unfold wtH; rw [hll]; exact AH.zC _ _ _
    have hr1 : wtH H w r v (car σ.L top k) (low + X - 4294967296) Y r = some (.row z v) := by
     unfold wtH; rw [AH.zR _ _ hrw, AH.zC, hz]
    have hdm : top / 256 ^ k % 256 < 256 := Nat.mod_lt _ (by decide)
    have hset : ∀ bs : List UInt8, bs.length = σ.L → (wtH H w r v (car σ.L top k) (low + X - 4294967296) Y).set r (.row (u8s bs) v) = wtH H w r v bs (low + X - 4294967296) Y := fun bs hb => by
     unfold wtH
     rw [hll, hb, AH.set_comm _ _ _ hwr, AH.zS]
    by_cases h255 : top / 256 ^ k % 256 = 255
    ·rw [h255] at hg
     have hk3 := car_inv hk2 h255
     have hkl : k + 1 < σ.L := by
      by_cases e : k + 1 = σ.L
      ·exfalso
       rw [← e] at htl
       exact absurd htl (Nat.not_lt.2 (by rw [hk3]; exact Nat.le_mul_of_pos_left _ (Nat.succ_pos _)))
      ·omega
     (repeat' ((conv => whnf); first | refine Then.mk ?_ | left | refine zd ?_ | (refine Both.mk ?_ ?_ <;> intro hc <;> try exact wX hc) | (intro c hc; (try (simp only [AH.zA] at hc; repeat (have hn := hc.1; replace hc := hc.2)))))) <;> (try (conv => whnf))
     refine ⟨k + 1, ⟨hkl, hk3⟩, by show σ.L - (k + 1) < σ.L - k; omega, ⟨congrArg (AV.int .i64) (by omega), trivial⟩, HLe.of_eq ?_⟩
     rw [← hset _ (car_len (by omega)), ← car_next hk1, ← car_wr hk1 0]
     show _ = (wtH H w r v (car σ.L top k) (low + X - 4294967296) Y).set r (.row (wrA z (0 + ((σ.L : Int) - 1 - k).toNat * 1) [.int .u8 0]) v)
     rw [Nat.zero_add, Nat.mul_one, hix, hz]
     rfl
    ·have hne : ¬ ((top / 256 ^ k % 256 : Nat) : Int) = 255 := by omega
     (repeat' ((conv => whnf); first | left | refine zd ?_ | (refine Both.mk ?_ ?_ <;> intro hc <;> try exact wX hc) | (intro c hc; (try (simp only [AH.zA] at hc; repeat (have hn := hc.1; replace hc := hc.2)))))) <;> (try (conv => whnf))
     refine Then.mk ?_
     (repeat' ((conv => whnf); first | left | refine zd ?_ | (refine Both.mk ?_ ?_ <;> intro hc <;> try exact wX hc) | (intro c hc; (try (simp only [AH.zA] at hc; repeat (have hn := hc.1; replace hc := hc.2)))))) <;> (try (conv => whnf))
     refine Then.mk ?_
     (repeat' ((conv => whnf); first | left | refine zd ?_ | (refine Both.mk ?_ ?_ <;> intro hc <;> try exact wX hc) | (intro c hc; (try (simp only [AH.zA] at hc; repeat (have hn := hc.1; replace hc := hc.2)))))) <;> (try (conv => whnf))
     refine Then.mk (AWq.in ?_)
     refine AWp_cutd (H2 := wcH H w r ⟨σ.V + X, Y, σ.L⟩) [(0, .ptr w 0 0)] rfl ⟨rfl, trivial⟩ (fun _ => rfl) (HLe.of_eq ?_) ?_
     ·have hd8 : (UInt8.ofNat (top / 256 ^ k % 256 + 1)).toNat = top / 256 ^ k % 256 + 1 := by simp; omega
      have e : wcH H w r ⟨σ.V + X, Y, σ.L⟩ = wtH H w r v (dig σ.L (top + 1)) (low + X - 4294967296) Y := by
       unfold wcH
       dsimp only
       rw [hv, show (σ.V + X) / 4294967296 = top + 1 by omega, show (σ.V + X) % 4294967296 = low + X - 4294967296 by omega]
      rw [e, ← hset _ (dig_len _ _), ← car_end hk1 hk2 h255, ← car_wr hk1, hd8]
      show _ = (wtH H w r v (car σ.L top k) (low + X - 4294967296) Y).set r (.row (wrA z (0 + ((σ.L : Int) - 1 - k).toNat * 1) [.int .u8 (((top / 256 ^ k % 256 : Nat) : Int) + 1)]) v)
      rw [Nat.zero_add, Nat.mul_one, hix, hz]
      rfl
     exact tail.out
  ·(repeat' ((conv => whnf); first | left | refine zd ?_ | (refine Both.mk ?_ ?_ <;> intro hc <;> try exact wX hc) | (intro c hc; (try (simp only [AH.zA] at hc; repeat (have hn := hc.1; replace hc := hc.2)))))) <;> (try (conv => whnf))
   refine Then.mk ?_
   (repeat' ((conv => whnf); first | left | refine zd ?_ | (refine Both.mk ?_ ?_ <;> intro hc <;> try exact wX hc) | (intro c hc; (try (simp only [AH.zA] at hc; repeat (have hn := hc.1; replace hc := hc.2)))))) <;> (try (conv => whnf))
   refine Then.mk (AWq.in ?_)
   refine AWp_cutd (H2 := wcH H w r ⟨σ.V + X, Y, σ.L⟩) [(0, .ptr w 0 0)] rfl ⟨rfl, trivial⟩ (fun _ => rfl) (HLe.of_eq ?_) ?_
   ·unfold wcH
    dsimp only
    rw [hv, show (σ.V + X) / 4294967296 = top by omega, show (σ.V + X) % 4294967296 = low + X by omega]
   exact tail.out
 case tl =>
 have hP : 4294967296 * 256 ^ σ.L = 4294967296 * 256 ^ σ.L := rfl
 refine AWp.of zU (dok _) rfl ?_
 clear hn hw htl hlb hlow htop
 (repeat' ((conv => whnf); first | refine Then.mk ?_ | left | refine zd ?_ | (refine Both.mk ?_ ?_ <;> intro hc <;> try exact wX hc) | (intro c hc; (try (simp only [AH.zA] at hc; repeat (have hn := hc.1; replace hc := hc.2)))))) <;> (try (conv => whnf))
 refine zT (σ := Nat × Cs) (71 :: 72 :: 73 :: 74 :: 75 :: 76 :: 77 :: 78 :: 79 :: 80 :: 81 :: 82 :: 83 :: 84 :: 85 :: 86 :: 87 :: 88 :: 89 :: 90 :: 91 :: 92 :: 93 :: 94 :: 95 :: 96 :: 97 :: 98 :: 99 :: 100 :: 101 :: 102 :: 103 :: 104 :: 105 :: 106 :: 107 :: 108 :: 109 :: 110 :: 111 :: 112 :: []) (fun (f, τ) => []) (fun (f, τ) => wcH H w r τ) (fun (f, τ) => shf f τ = shf 3 ⟨σ.V + X, Y, σ.L⟩ ∧ 16777216 ≤ τ.W * 256 ^ f ∧ τ.W ≤ 4294967296 ∧ τ.L + f ≤ σ.L + 3) (fun (f, τ) => f) (3, ⟨σ.V + X, Y, σ.L⟩) rfl ?_ ?_ ?_ ?_
 ·refine ⟨rfl, ?_, by show Y ≤ _; omega, Nat.le_refl _⟩
  show 16777216 ≤ Y * 256 ^ 3
  rw [show (256 : Nat) ^ 3 = 16777216 by decide]; omega
 ·exact trivial
 ·exact HLe.refl _
 ·rintro ⟨f, τ⟩ ⟨h1, h2, h3, h4⟩
  dsimp only at h1 h2 h3 h4 ⊢
  refine AWp.of zU (dok _) rfl ?_
  obtain ⟨lo, hlo⟩ : ∃ lo, lo = τ.V % 4294967296 := ⟨_, rfl⟩
  obtain ⟨tp, htp⟩ : ∃ tp, tp = τ.V / 4294967296 := ⟨_, rfl⟩
  obtain ⟨v', hv'⟩ : ∃ v', v' = τ.L := ⟨_, rfl⟩
  have hH : wcH H w r τ = wtH H w r v' (dig τ.L tp) lo τ.W := by rw [hlo, htp, hv']; rfl
  rw [hH]
  have hw1 : wtH H w r v' (dig τ.L tp) lo τ.W w = some (.row [.int .u64 lo, .int .u64 τ.W, .sl r v' 1 0 τ.L none] 0) := by
   unfold wtH; rw [dig_len]; exact AH.zC _ _ _
  have hr1 : wtH H w r v' (dig τ.L tp) lo τ.W r = some (.row (u8s (dig τ.L tp)) v') := by
   unfold wtH; rw [AH.zR _ _ hrw, AH.zC]
  have hll : (u8s (dig τ.L tp)).length = τ.L := by simp [u8s]
  have hlb : lo < 4294967296 := by omega
  by_cases hsm : τ.W < 16777216
  ·have hf : f ≠ 0 := fun e => by subst e; simp at h2; omega
   obtain ⟨z, hz⟩ : ∃ z, z = u8s (dig τ.L tp) := ⟨_, rfl⟩
   rw [← hz] at hr1 hll
   obtain ⟨G, hG⟩ : ∃ G, G = wtH H w r v' (dig τ.L tp) lo τ.W := ⟨_, rfl⟩
   rw [← hG] at hw1 hr1 ⊢
   obtain ⟨L, hLe⟩ : ∃ L, L = τ.L := ⟨_, rfl⟩
   rw [← hLe] at hw1 hll h4
   have hLb : L ≤ 2000000000000 := by omega
   have s1 : (lo : Int).fdiv (2 ^ min (Int.toNat 24) IntKind.u64.bits) = (lo / 16777216 : Nat) := by
    rw [show (2 : Int) ^ min (Int.toNat 24) IntKind.u64.bits = 16777216 by decide, Int.fdiv_eq_ediv_of_nonneg _ (by omega)]; omega
   have s2 : IntKind.u8.wrap (lo / 16777216 : Nat) = (lo / 16777216 : Nat) := by rw [wrap_u8']; omega
   have s3 : IntKind.u64.wrap ((lo : Int) * 2 ^ min (Int.toNat 8) IntKind.u64.bits) = (lo * 256 : Nat) := by
    rw [show (2 : Int) ^ min (Int.toNat 8) IntKind.u64.bits = 256 by decide, wrap_u64']; omega
   have s4 : ((lo * 256 : Nat) : Int).tmod 4294967296 = (lo * 256 % 4294967296 : Nat) := by
    rw [Int.tmod_eq_emod_of_nonneg (by omega)]; omega
   have s5 : IntKind.u64.wrap ((τ.W : Int) * 2 ^ min (Int.toNat 8) IntKind.u64.bits) = (τ.W * 256 : Nat) := by
    rw [show (2 : Int) ^ min (Int.toNat 8) IntKind.u64.bits = 256 by decide, wrap_u64']; omega
   have kk := Kept.mk (And.intro h1 (And.intro h2 (And.intro h4 (And.intro hlo (And.intro htp (And.intro hz (And.intro hG (And.intro hLe hv'))))))))
   clear h1 h2 h4 hlo htp hz hG hLe hv' hv hX hY k1 k2 k3 k4 hi hL hP hroom
   (repeat' ((conv => whnf); first | refine Then.mk ?_ | left | refine zd ?_ | (refine Both.mk ?_ ?_ <;> intro hc <;> try exact wX hc) | (intro c hc; (try (simp only [AH.zA] at hc; repeat (have hn := hc.1; replace hc := hc.2)))))) <;> (try (conv => whnf))
   obtain ⟨h1, h2, h4, hlo, htp, hz, hG, hLe, hv'⟩ := kk.out
   have hsf : shf f τ = shf (f - 1) ⟨τ.V * 256, τ.W * 256, τ.L + 1⟩ := by
    obtain ⟨g, rfl⟩ : ∃ g, f = g + 1 := ⟨f - 1, by omega⟩
    exact if_pos hsm
   refine ⟨(f - 1, ⟨τ.V * 256, τ.W * 256, τ.L + 1⟩), ⟨?_, ?_, ?_, ?_⟩, ?_, trivial, HLe.of_eq ?_⟩
   ·dsimp only; rw [← hsf]; exact h1
   ·show 16777216 ≤ τ.W * 256 * 256 ^ (f - 1)
    rw [Nat.mul_assoc, ← Nat.pow_succ', show (f - 1).succ = f by omega]; exact h2
   ·show τ.W * 256 ≤ 4294967296
    omega
   ·show τ.L + 1 + (f - 1) ≤ _
    omega
   ·show f - 1 < f
    omega
   ·have b1 : z ++ [AV.int .u8 ((lo / 16777216 : Nat) : Int)] = u8s (dig (τ.L + 1) (τ.V * 256 / 4294967296)) := by
     rw [show τ.V * 256 / 4294967296 = tp * 256 + lo / 16777216 by omega, dig_snoc _ _ _ (by omega), hz, ← u8s_append]
     have : (UInt8.ofNat (lo / 16777216)).toNat = lo / 16777216 := by simp; omega
     show _ = _ ++ [AV.int .u8 ((UInt8.ofNat (lo / 16777216)).toNat : Int)]
     rw [this]
    show wcH H w r ⟨τ.V * 256, τ.W * 256, τ.L + 1⟩ = (((G.set r (.row (z ++ [AV.int .u8 ((lo / 16777216 : Nat) : Int)]) (v' + 1))).set w (.row [.int .u64 lo, .int .u64 τ.W, .sl r (v' + 1) 1 0 (L + 1) none] 0)).set w (.row [.int .u64 (lo * 256 % 4294967296 : Nat), .int .u64 τ.W, .sl r (v' + 1) 1 0 (L + 1) none] 0)).set w (.row [.int .u64 (lo * 256 % 4294967296 : Nat), .int .u64 (τ.W * 256 : Nat), .sl r (v' + 1) 1 0 (L + 1) none] 0)
    rw [b1, AH.zS, AH.zS, hG, hLe, hv']
    unfold wcH wtH
    dsimp only
    rw [AH.set_back _ hrw, AH.zS, dig_len, show τ.V * 256 % 4294967296 = lo * 256 % 4294967296 by omega]
  ·(repeat' ((conv => whnf); first | refine Then.mk ?_ | left | refine zd ?_ | (refine Both.mk ?_ ?_ <;> intro hc <;> try exact wX hc) | (intro c hc; (try (simp only [AH.zA] at hc; repeat (have hn := hc.1; replace hc := hc.2)))))) <;> (try (conv => whnf))
   rw [← hH, ← h1, shf_done (by omega)]
open Go.Fw Go
set_option maxRecDepth 8000 in
theorem writer_c (H : AH) : ACall Tryz.prog 50 [] H (fun y H' => ∃ w r, H w = none ∧ H r = none ∧ w ≠ r ∧ y = .ptr w 0 0 ∧ H' = wcH H w r cs0) := by
 refine zQ zU (dok _) Tryz.func50 rfl (by decide) rfl ?_
 (repeat' ((conv => whnf); first | left | refine zd ?_ | (refine Both.mk ?_ ?_ <;> intro hc <;> try exact wX hc) | (intro c hc; (try (simp only [AH.zA] at hc; repeat (have hn := hc.1; replace hc := hc.2)))))) <;> (try (conv => whnf))
 refine Then.mk ?_
 (repeat' ((conv => whnf); first | left | refine zd ?_ | (refine Both.mk ?_ ?_ <;> intro hc <;> try exact wX hc) | (intro c hc; (try (simp only [AH.zA] at hc; repeat (have hn := hc.1; replace hc := hc.2)))))) <;> (try (conv => whnf))
 refine Then.mk (AWq.in ?_)
 refine AWp_nilC 1 [.int .u64 0, .int .u64 4294967296] [] (p := c) (u := 0) (AH.zC _ _ _) fun r hr hrw => ?_
 have hrH := (AH.none_set hr).2
 refine AWp.of zU (dok _) rfl ?_
 (repeat' ((conv => whnf); first | refine Then.mk ?_ | left | refine zd ?_ | (refine Both.mk ?_ ?_ <;> intro hc <;> try exact wX hc) | (intro c hc; (try (simp only [AH.zA] at hc; repeat (have hn := hc.1; replace hc := hc.2)))))) <;> (try (conv => whnf))
 refine ⟨c, r, hc, hrH, Ne.symm hrw, rfl, ?_⟩
 exact (AH.set_back H (Ne.symm hrw) _ _ _).trans (AH.set_comm _ _ _ (Ne.symm hrw))
structure WrAt (H : AH) (w r : Nat) (σ : Cs) : Prop where
 hw : H w = some (.row [.int .u64 (σ.V % 4294967296 : Nat), .int .u64 σ.W, .sl r σ.L 1 0 σ.L none] 0)
 hr : H r = some (.row (u8s (dig σ.L (σ.V / 4294967296))) σ.L)
 ne : w ≠ r
theorem WrAt.eq {H : AH} {w r : Nat} {σ : Cs} (h : WrAt H w r σ) : wcH H w r σ = H := by
 unfold wcH wtH
 rw [AH.set_id h.hr, dig_len]
 exact AH.set_id h.hw
theorem WrAt.set {H : AH} {w r : Nat} {σ : Cs} (h : w ≠ r) : WrAt (wcH H w r σ) w r σ := by
 refine ⟨?_, ?_, h⟩
 ·unfold wcH wtH; rw [AH.zC, dig_len]
 ·unfold wcH wtH; rw [AH.zR _ _ (Ne.symm h), AH.zC]
theorem wcH_ne {H : AH} {w r a : Nat} {σ : Cs} (h1 : a ≠ w) (h2 : a ≠ r) : wcH H w r σ a = H a := by
 unfold wcH wtH
 rw [AH.zR _ _ h1, AH.zR _ _ h2]
theorem mdH_ne {H : AH} {p q n a : Nat} {c : Nat → Nat} (h1 : a ≠ p) (h2 : a ≠ q) : mdH H p q n c a = H a := by
 unfold mdH
 rw [AH.zR _ _ h1, AH.zR _ _ h2]
theorem MdAt.same {H G : AH} {p q n : Nat} {c : Nat → Nat} (h : MdAt H p q n c) (h1 : G p = H p) (h2 : G q = H q) : MdAt G p q n c :=
 ⟨by rw [h1]; exact h.hp, by rw [h2]; exact h.hq, h.ne, h.ok⟩
theorem WrAt.same {H G : AH} {w r : Nat} {σ : Cs} (h : WrAt H w r σ) (h1 : G w = H w) (h2 : G r = H r) : WrAt G w r σ :=
 ⟨by rw [h1]; exact h.hw, by rw [h2]; exact h.hr, h.ne⟩
theorem k_step_c {G : AH} {w r : Nat} {σ : Cs} {p c t : Nat} (hw : WrAt G w r σ) (hc : CsOk σ) (hs : StOk p c t) (hL : σ.L ≤ 1000000000000) :
  ACall Tryz.prog 54 [.ptr w 0 0, .int .i64 p, .int .i64 c, .int .i64 t] G (fun y H' => y = .tup [] ∧ H' = wcH G w r (stp σ p c t)) := by
 have := wstep_c (H := G) hw.ne hc hs hL
 rwa [hw.eq] at this
set_option maxRecDepth 8000 in
theorem symbol_c {G : AH} {w r p q n : Nat} {σ : Cs} {c : Nat → Nat} {s : Nat} (hw : WrAt G w r σ) (hm : MdAt G p q n c) (h1 : p ≠ w) (h2 : p ≠ r) (h3 : q ≠ w) (h4 : q ≠ r) (hs : s < n) (hc : CsOk σ) (hL : σ.L ≤ 1000000000000) :
  ACall Tryz.prog 53 [.ptr w 0 0, .ptr p 0 0, .int .i64 s] G (fun y H' => y = .tup [] ∧ H' = mdH (wcH G w r (stp σ (plc c s) (c s) (plc c n))) p q n (seeM n c s)) := by
 have hp := place_c hm s (by omega)
 have hst : StOk (plc c s) (c s) (plc c n) := ⟨hm.ok.pos s hs, plc_one hs, hm.ok.sum⟩
 have hstep := k_step_c hw hc hst hL
 have hsee := see_c (hm.same (G := wcH G w r (stp σ (plc c s) (c s) (plc c n))) (wcH_ne h1 h2) (wcH_ne h3 h4)) s hs
 have hmp := hm.hp
 have hmq := hm.hq
 have hcell := iL_gi (fun k => (c k : Int)) hs
 have hlen : (iL n fun k => (c k : Int)).length = n := iL_len _ _
 generalize (iL n fun k => (c k : Int)) = cells at *
 have hts := hm.ok.sum
 obtain ⟨T, hT⟩ : ∃ T, T = plc c n := ⟨_, rfl⟩
 obtain ⟨A, hA⟩ : ∃ A, A = plc c s := ⟨_, rfl⟩
 rw [← hT] at hmp hstep hsee hts ⊢
 rw [← hA] at hp hstep hsee ⊢
 refine zQ zU (dok _) Tryz.func53 rfl (by decide) rfl ?_
 (repeat' ((conv => whnf); first | refine AWq.drawM ([21], []) (by decide +kernel) ?_ | refine Then.mk ?_ | left | refine zg ?_ (hp) | refine zg ?_ (hstep) | refine zg ?_ (hsee) | refine zgg ?_ (hp) | refine zgg ?_ (hstep) | refine zgg ?_ (hsee) | refine zd ?_ | (refine Both.mk ?_ ?_ <;> intro hc <;> try exact wX hc) | (intro c hc; (try (simp only [AH.zA] at hc; repeat (have hn := hc.1; replace hc := hc.2)))) | (refine ACall.to (hp) ?_) | (refine ACall.to (hstep) ?_) | (refine ACall.to (hsee) ?_))) <;> (try (conv => whnf))
set_option maxRecDepth 8000 in
theorem code_c {H : AH} {w r : Nat} {σ : Cs} (hne : w ≠ r) (hL : σ.L ≤ 1000000000000) :
  ACall Tryz.prog 55 [.ptr w 0 0] (wcH H w r σ) (fun y H' => y = .cs (u8s (codeS σ)) (codeS σ).length ∧ H' = (wcH H w r σ).del r) := by
 have hwa : WrAt (wcH H w r σ) w r σ := WrAt.set hne
 have hw := hwa.hw
 have hr := hwa.hr
 generalize wcH H w r σ = G at *
 obtain ⟨lo, hlo⟩ : ∃ lo, lo = σ.V % 4294967296 := ⟨_, rfl⟩
 rw [← hlo] at hw
 have hlb : lo < 4294967296 := by omega
 obtain ⟨z, hz⟩ : ∃ z, z = u8s (dig σ.L (σ.V / 4294967296)) := ⟨_, rfl⟩
 have hzl : z.length = σ.L := by rw [hz]; simp
 rw [← hz] at hr
 have a1 : (lo : Int).fdiv (2 ^ min (Int.toNat 24) IntKind.u64.bits) = (lo / 16777216 : Nat) := by
  rw [show (2 : Int) ^ min (Int.toNat 24) IntKind.u64.bits = 16777216 by decide, Int.fdiv_eq_ediv_of_nonneg _ (by omega)]; omega
 have a2 : IntKind.u8.wrap (lo / 16777216 : Nat) = (lo / 16777216 : Nat) := by rw [wrap_u8']; omega
 have b1 : (lo : Int).fdiv (2 ^ min (Int.toNat 16) IntKind.u64.bits) = (lo / 65536 : Nat) := by
  rw [show (2 : Int) ^ min (Int.toNat 16) IntKind.u64.bits = 65536 by decide, Int.fdiv_eq_ediv_of_nonneg _ (by omega)]; omega
 have b2 : IntKind.u8.wrap (lo / 65536 : Nat) = (lo / 65536 % 256 : Nat) := by rw [wrap_u8']; omega
 have c1 : (lo : Int).fdiv (2 ^ min (Int.toNat 8) IntKind.u64.bits) = (lo / 256 : Nat) := by
  rw [show (2 : Int) ^ min (Int.toNat 8) IntKind.u64.bits = 256 by decide, Int.fdiv_eq_ediv_of_nonneg _ (by omega)]; omega
 have c2 : IntKind.u8.wrap (lo / 256 : Nat) = (lo / 256 % 256 : Nat) := by rw [wrap_u8']; omega
 have d2 : IntKind.u8.wrap (lo : Nat) = (lo % 256 : Nat) := by rw [wrap_u8']; omega
 have hall : z ++ [AV.int .u8 (lo / 16777216 : Nat), AV.int .u8 (lo / 65536 % 256 : Nat), AV.int .u8 (lo / 256 % 256 : Nat), AV.int .u8 (lo % 256 : Nat)] = u8s (dig (σ.L + 4) σ.V) := by
  have e : σ.V = (((σ.V / 4294967296 * 256 + lo / 16777216) * 256 + lo / 65536 % 256) * 256 + lo / 256 % 256) * 256 + lo % 256 := by omega
  conv => rhs; rw [e]
  rw [show σ.L + 4 = σ.L + 1 + 1 + 1 + 1 from rfl, dig_snoc _ _ _ (by omega), dig_snoc _ _ _ (by omega), dig_snoc _ _ _ (by omega), dig_snoc _ _ _ (by omega), hz]
  have t : ∀ x, x < 256 → (UInt8.ofNat x).toNat = x := fun x h => by simp; omega
  simp only [u8s, List.map_append, List.map_cons, List.map_nil, List.append_assoc]
  rw [t _ (by omega), t _ (by omega), t _ (by omega), t _ (by omega)]
  rfl
 clear hz
 refine zQ zU (dok _) Tryz.func55 rfl (by decide) rfl ?_
 (repeat' ((conv => whnf); first | left | refine zd ?_ | (refine Both.mk ?_ ?_ <;> intro hc <;> try exact wX hc) | (intro c hc; (try (simp only [AH.zA] at hc; repeat (have hn := hc.1; replace hc := hc.2)))))) <;> (try (conv => whnf))
 refine Then.mk ?_
 (repeat' ((conv => whnf); first | left | refine zd ?_ | (refine Both.mk ?_ ?_ <;> intro hc <;> try exact wX hc) | (intro c hc; (try (simp only [AH.zA] at hc; repeat (have hn := hc.1; replace hc := hc.2)))))) <;> (try (conv => whnf))
 refine Then.mk (AWq.in ?_)
 refine AWp_freeze1 (r := r) (v := σ.L + 1) (es := 1) (n := σ.L + 4) (lim := none) (cells := u8s (dig (σ.L + 4) σ.V)) 3 rfl rfl ?_ (by simp) ?_
 ·show AH.set G r (.row (z ++ _) _) r = _
  rw [AH.zC]
  exact congrArg (fun l => some (AO.row l (σ.L + 1))) hall
 have hG : ∀ o, (AH.set G r o).del r = G.del r := fun o => by
  funext a; simp only [AH.del, AH.set]; split <;> rfl
 rw [hG]
 have hbl : (dig (σ.L + 4) σ.V).length = σ.L + 4 := dig_len _ _
 have hcs : codeS σ = (dig (σ.L + 4) σ.V).take (trimN (dig (σ.L + 4) σ.V) (σ.L + 4)) := by
  unfold codeS trim
  rw [hbl]
 rw [hcs]
 generalize dig (σ.L + 4) σ.V = bs at *
 obtain ⟨L4, hL4⟩ : ∃ L4, L4 = σ.L + 4 := ⟨_, rfl⟩
 rw [← hL4] at hbl ⊢
 have hul : (u8s bs).length = L4 * 1 := by simp [hbl]
 clear hall hcs a1 a2 b1 b2 c1 c2 d2
 refine AWp.of zU (dok _) rfl ?_
 (repeat' ((conv => whnf); first | refine Then.mk ?_ | left | refine zd ?_ | (refine Both.mk ?_ ?_ <;> intro hc <;> try exact wX hc) | (intro c hc; (try (simp only [AH.zA] at hc; repeat (have hn := hc.1; replace hc := hc.2)))))) <;> (try (conv => whnf))
 refine zT (σ := Nat) (4 :: 40 :: 41 :: 42 :: 43 :: 44 :: 45 :: 46 :: 47 :: 48 :: 49 :: 50 :: 51 :: []) (fun n => [(4, .int .i64 n)]) (fun _ => G.del r) (fun n => n ≤ L4 ∧ trimN bs L4 = trimN bs n) (fun n => n) L4 rfl ?_ ?_ ?_ ?_
 ·exact ⟨Nat.le_refl _, rfl⟩
 ·exact ⟨rfl, trivial⟩
 ·exact HLe.refl _
 ·rintro n ⟨h1, h2⟩
  refine AWp.of zU (dok _) rfl ?_
  have fin : ∀ m, m ≤ L4 → trimN bs L4 = m → AV.cs (List.take ((m : Int).toNat * 1) (u8s bs)) (m : Int).toNat = AV.cs (u8s (List.take (trimN bs L4) bs)) (List.take (trimN bs L4) bs).length ∧ G.del r = G.del r := fun m hm he => by
   refine ⟨?_, rfl⟩
   rw [he, Int.toNat_natCast, Nat.mul_one, u8s_take, List.length_take, Nat.min_eq_left (by omega)]
  by_cases h0 : n = 0
  ·subst h0
   (repeat' ((conv => whnf); first | refine Then.mk ?_ | left | refine zd ?_ | (refine Both.mk ?_ ?_ <;> intro hc <;> try exact wX hc) | (intro c hc; (try (simp only [AH.zA] at hc; repeat (have hn := hc.1; replace hc := hc.2)))))) <;> (try (conv => whnf))
   exact fin 0 (by omega) (by rw [h2]; rfl)
  ·obtain ⟨k, rfl⟩ : ∃ k, n = k + 1 := ⟨n - 1, by omega⟩
   have hg : (u8s bs)[((k + 1 : Nat) - 1 : Int).toNat]? = some (.int .u8 (bs.getD k 0).toNat) := by
    rw [show ((k + 1 : Nat) - 1 : Int).toNat = k by omega]
    exact u8s_get (by omega)
   have hb := u8_range (bs.getD k 0)
   obtain ⟨b, hbe⟩ : ∃ b, b = bs.getD k 0 := ⟨_, rfl⟩
   have h2' : trimN bs (k + 1) = if b = 0 then trimN bs k else k + 1 := by rw [hbe]; rfl
   rw [← hbe] at hg hb
   obtain ⟨B, hB⟩ : ∃ B : Int, B = (b.toNat : Int) := ⟨_, rfl⟩
   rw [← hB] at hg hb
   by_cases hz : B = 0
   ·have hb0 : b = 0 := UInt8.toNat_inj.1 (by show b.toNat = 0; omega)
    rw [if_pos hb0] at h2'
    subst hz
    (repeat' ((conv => whnf); first | refine Then.mk ?_ | left | refine zd ?_ | (refine Both.mk ?_ ?_ <;> intro hc <;> try exact wX hc) | (intro c hc; (try (simp only [AH.zA] at hc; repeat (have hn := hc.1; replace hc := hc.2)))))) <;> (try (conv => whnf))
    exact ⟨k, ⟨by omega, by omega⟩, by omega, ⟨congrArg (AV.int .i64) (by omega), trivial⟩, HLe.refl _⟩
   ·have hb0 : ¬ b = 0 := fun e => hz (by rw [hB, e]; rfl)
    rw [if_neg hb0] at h2'
    (repeat' ((conv => whnf); first | refine Then.mk ?_ | left | refine zd ?_ | (refine Both.mk ?_ ?_ <;> intro hc <;> try exact wX hc) | (intro c hc; (try (simp only [AH.zA] at hc; repeat (have hn := hc.1; replace hc := hc.2)))))) <;> (try (conv => whnf))
    exact fin (k + 1) (by omega) (by omega)
open Go.Fw Go
structure Mods (G : AH) (P Q : Nat → Nat) (m n : Nat) (M : Nat → Nat → Nat) : Prop where
 md : ∀ k, k < m → MdAt G (P k) (Q k) n (M k)
 pp : ∀ j k, j < m → k < m → j ≠ k → P j ≠ P k
 qq : ∀ j k, j < m → k < m → j ≠ k → Q j ≠ Q k
 pq : ∀ j k, j < m → k < m → P j ≠ Q k
theorem Mods.same {G G' : AH} {P Q : Nat → Nat} {m n : Nat} {M : Nat → Nat → Nat} (h : Mods G P Q m n M) (hs : ∀ k, k < m → G' (P k) = G (P k) ∧ G' (Q k) = G (Q k)) : Mods G' P Q m n M :=
 ⟨fun k hk => (h.md k hk).same (hs k hk).1 (hs k hk).2, h.pp, h.qq, h.pq⟩
theorem Mods.set {G : AH} {P Q : Nat → Nat} {m n : Nat} {M : Nat → Nat → Nat} (h : Mods G P Q m n M) {k : Nat} (hk : k < m) {c : Nat → Nat} (hc : MdOk n c) :
  Mods (mdH G (P k) (Q k) n c) P Q m n (fun j => if j = k then c else M j) := by
 refine ⟨fun j hj => ?_, h.pp, h.qq, h.pq⟩
 by_cases e : j = k
 ·subst e
  rw [if_pos rfl]
  exact MdAt.set (c := c) (h.md j hj).ne hc
 ·rw [if_neg e]
  exact (h.md j hj).same (mdH_ne (h.pp _ _ hj hk e) (h.pq _ _ hj hk)) (mdH_ne (Ne.symm (h.pq _ _ hk hj)) (h.qq _ _ hj hk e))
theorem AH.ne_none' {H : AH} {r s : Nat} {o : AO} (h : H r = Option.none) (k : H s = some o) : r ≠ s := fun e => by rw [← e, h] at k; cases k
theorem Mods.fresh {G : AH} {P Q : Nat → Nat} {m n : Nat} {M : Nat → Nat → Nat} (h : Mods G P Q m n M) {a : Nat} (ha : G a = Option.none) {k : Nat} (hk : k < m) : P k ≠ a ∧ Q k ≠ a :=
 ⟨Ne.symm (AH.ne_none' ha (h.md k hk).hp), Ne.symm (AH.ne_none' ha (h.md k hk).hq)⟩
def putF (f : Nat → Nat) (k v : Nat) : Nat → Nat := fun j => if j = k then v else f j
theorem putF_at (f : Nat → Nat) (k v : Nat) : putF f k v k = v := if_pos rfl
theorem putF_ne (f : Nat → Nat) {k j : Nat} (v : Nat) (h : j ≠ k) : putF f k v j = f j := if_neg h
theorem Mods.more {G : AH} {P Q : Nat → Nat} {m n : Nat} {M : Nat → Nat → Nat} (h : Mods G P Q m n M) {p q : Nat} (hp : G p = Option.none) (hq : G q = Option.none) (hne : p ≠ q) (hM : MdOk n (M m)) :
  Mods (mdH G p q n (M m)) (putF P m p) (putF Q m q) (m + 1) n M := by
 have a1 : ∀ k, k < m → putF P m p k = P k := fun k hk => putF_ne _ _ (by omega)
 have a2 : ∀ k, k < m → putF Q m q k = Q k := fun k hk => putF_ne _ _ (by omega)
 have b1 : ∀ k, k < m + 1 → k < m ∨ k = m := fun k hk => by omega
 refine ⟨fun k hk => ?_, fun j k hj hk hjk => ?_, fun j k hj hk hjk => ?_, fun j k hj hk => ?_⟩
 ·rcases b1 k hk with hk | rfl
  ·rw [a1 k hk, a2 k hk]
   exact (h.md k hk).same (mdH_ne (h.fresh hp hk).1 (h.fresh hq hk).1) (mdH_ne (h.fresh hp hk).2 (h.fresh hq hk).2)
  ·rw [putF_at, putF_at]
   exact MdAt.set (c := M 0) hne hM
 ·rcases b1 j hj with hj | rfl <;> rcases b1 k hk with hk | rfl
  ·rw [a1 j hj, a1 k hk]; exact h.pp j k hj hk hjk
  ·rw [a1 j hj, putF_at]; exact (h.fresh hp hj).1
  ·rw [a1 k hk, putF_at]; exact Ne.symm (h.fresh hp hk).1
  ·exact absurd rfl hjk
 ·rcases b1 j hj with hj | rfl <;> rcases b1 k hk with hk | rfl
  ·rw [a2 j hj, a2 k hk]; exact h.qq j k hj hk hjk
  ·rw [a2 j hj, putF_at]; exact (h.fresh hq hj).2
  ·rw [a2 k hk, putF_at]; exact Ne.symm (h.fresh hq hk).2
  ·exact absurd rfl hjk
 ·rcases b1 j hj with hj | rfl <;> rcases b1 k hk with hk | rfl
  ·rw [a1 j hj, a2 k hk]; exact h.pq j k hj hk
  ·rw [a1 j hj, putF_at]; exact (h.fresh hq hj).1
  ·rw [a2 k hk, putF_at]; exact Ne.symm (h.fresh hp hk).2
  ·rw [putF_at, putF_at]; exact hne
def psL (P : Nat → Nat) (m : Nat) : List AV := (List.range m).map fun k => .ptr (P k) 0 0
@[simp] theorem psL_len (P : Nat → Nat) (m : Nat) : (psL P m).length = m := by simp [psL]
theorem psL_get {P : Nat → Nat} {m k : Nat} (h : k < m) : (psL P m)[k]? = some (.ptr (P k) 0 0) := by
 unfold psL
 rw [List.getElem?_map, List.getElem?_range h]; rfl
theorem psL_snoc (P : Nat → Nat) (m p : Nat) : psL P m ++ [.ptr p 0 0] = psL (putF P m p) (m + 1) := by
 unfold psL
 rw [List.range_succ, List.map_append]
 congr 1
 ·refine List.map_congr_left fun k hk => ?_
  have : k < m := by simpa using hk
  rw [putF_ne _ _ (by omega)]
 ·simp [putF_at]
structure AlphaOk (H G : AH) (a n i : Nat) (P Q : Nat → Nat) : Prop where
 mods : Mods G P Q i n fun _ _ => 1
 row : G a = some (.row (psL P i) i)
 le : HLe H G
 na : ∀ k, k < i → P k ≠ a ∧ Q k ≠ a
 new : ∀ k, k < i → H (P k) = none ∧ H (Q k) = none
set_option maxRecDepth 8000 in
theorem alphabet_c (n m : Nat) (hn1 : 1 ≤ n) (hn2 : n ≤ 1024) (hm1 : 1 ≤ m) (hm2 : m ≤ 256) (H : AH) :
  ACall Tryz.prog 49 [.int .i64 n, .int .i64 m] H (fun y H' => ∃ P Q, y = .tup [.cs (psL P m) m, .int .i64 0] ∧ Mods H' P Q m n (fun _ _ => 1) ∧ HLe H H' ∧ ∀ k, k < m → H (P k) = none ∧ H (Q k) = none) := by
 refine zQ zU (dok _) Tryz.func49 rfl (by decide) rfl ?_
 (repeat' ((conv => whnf); first | left | refine zd ?_ | (refine Both.mk ?_ ?_ <;> intro hc <;> try exact wX hc) | (intro c hc; (try (simp only [AH.zA] at hc; repeat (have hn := hc.1; replace hc := hc.2)))))) <;> (try (conv => whnf))
 refine Then.mk ?_
 (repeat' ((conv => whnf); first | left | refine zd ?_ | (refine Both.mk ?_ ?_ <;> intro hc <;> try exact wX hc) | (intro c hc; (try (simp only [AH.zA] at hc; repeat (have hn := hc.1; replace hc := hc.2)))))) <;> (try (conv => whnf))
 refine Then.mk ?_
 (repeat' ((conv => whnf); first | left | refine zd ?_ | (refine Both.mk ?_ ?_ <;> intro hc <;> try exact wX hc) | (intro c hc; (try (simp only [AH.zA] at hc; repeat (have hn := hc.1; replace hc := hc.2)))))) <;> (try (conv => whnf))
 refine Then.mk ?_
 (repeat' ((conv => whnf); first | left | refine zd ?_ | (refine Both.mk ?_ ?_ <;> intro hc <;> try exact wX hc) | (intro c hc; (try (simp only [AH.zA] at hc; repeat (have hn := hc.1; replace hc := hc.2)))))) <;> (try (conv => whnf))
 refine Then.mk (AWq.in ?_)
 refine AWp_nilrow1 6 1 rfl rfl fun a ha => ?_
 refine AWp.of zU (dok _) rfl ?_
 (repeat' ((conv => whnf); first | refine Then.mk ?_ | left | refine zd ?_ | (refine Both.mk ?_ ?_ <;> intro hc <;> try exact wX hc) | (intro c hc; (try (simp only [AH.zA] at hc; repeat (have hn := hc.1; replace hc := hc.2)))))) <;> (try (conv => whnf))
 refine zT (σ := AH × Nat × (Nat → Nat) × (Nat → Nat)) (6 :: 22 :: 23 :: 24 :: 25 :: 26 :: 27 :: 28 :: 29 :: []) (fun (G, i, P, Q) => [(6, .sl a i 1 0 i none), (22, .int .i64 i)]) (fun (G, i, P, Q) => G) (fun (G, i, P, Q) => i ≤ m ∧ AlphaOk H G a n i P Q) (fun (G, i, P, Q) => m - i) (_, 0, fun _ => 0, fun _ => 0) rfl ?_ ?_ (HLe.refl _) ?_
 ·refine ⟨Nat.zero_le _, ⟨⟨fun k hk => absurd hk (by omega), fun j k hj => absurd hj (by omega), fun j k hj => absurd hj (by omega), fun j k hj => absurd hj (by omega)⟩, AH.zC _ _ _, HLe.fresh _ ha, fun k hk => absurd hk (by omega), fun k hk => absurd hk (by omega)⟩⟩
 ·exact ⟨rfl, rfl, trivial⟩
 ·rintro ⟨G, i, P, Q⟩ ⟨hi, hok⟩
  dsimp only at hi hok ⊢
  obtain ⟨hmods, hrow, hle, hna, hnew⟩ := hok
  refine AWp.of zU (dok _) rfl ?_
  have hpl : (psL P i).length = i := psL_len _ _
  by_cases him : i < m
  ·(repeat' ((conv => whnf); first | refine Then.mk ?_ | left | refine zd ?_ | (refine Both.mk ?_ ?_ <;> intro hc <;> try exact wX hc) | (intro c hc; (try (simp only [AH.zA] at hc; repeat (have hn := hc.1; replace hc := hc.2)))))) <;> (try (conv => whnf))
   refine (fresh_c n hn1 (by omega) _).mono ?_
   rintro y H' ⟨p, q, hp, hq, hpq, rfl, rfl⟩
   have hap : a ≠ p := AH.ne_none hp hrow
   have haq : a ≠ q := AH.ne_none hq hrow
   have hrow2 : mdH G p q n (fun _ => 1) a = some (.row (psL P i) i) := by rw [mdH_ne hap haq]; exact hrow
   have hm2 := hmods.more hp hq hpq (MdOk.new hn2)
   (repeat' ((conv => whnf); first | refine Then.mk ?_ | left | refine zd ?_ | (refine Both.mk ?_ ?_ <;> intro hc <;> try exact wX hc) | (intro c hc; (try (simp only [AH.zA] at hc; repeat (have hn := hc.1; replace hc := hc.2)))))) <;> (try (conv => whnf))
   have hna2 : ∀ k, k < i + 1 → putF P i p k ≠ a ∧ putF Q i q k ≠ a := fun k hk => by
    by_cases e : k = i
    ·subst e; rw [putF_at, putF_at]; exact ⟨Ne.symm hap, Ne.symm haq⟩
    ·rw [putF_ne _ _ e, putF_ne _ _ e]; exact hna k (by omega)
   have hHp : H p = none := HLe.none hle hp
   have hHq : H q = none := HLe.none hle hq
   refine ⟨((mdH G p q n fun _ => 1).set a (.row (psL P i ++ [.ptr p 0 0]) (i + 1)), i + 1, putF P i p, putF Q i q), ⟨?_, ?_⟩, ?_, ⟨rfl, congrArg (AV.int .i64) ?_, trivial⟩, HLe.refl _⟩
   ·show i + 1 ≤ m
    omega
   ·refine ⟨?_, ?_, ?_, hna2, ?_⟩
    ·exact hm2.same fun k hk => ⟨AH.zR _ _ (hna2 k hk).1, AH.zR _ _ (hna2 k hk).2⟩
    ·dsimp only
     rw [AH.zC, ← psL_snoc]
    ·exact HLe.set_of _ _ (HLe.set_of _ _ (HLe.set_of _ _ hle hHq) hHp) ha
    ·intro k hk
     show H (putF P i p k) = none ∧ H (putF Q i q k) = none
     by_cases e : k = i
     ·subst e; rw [putF_at, putF_at]; exact ⟨hHp, hHq⟩
     ·rw [putF_ne _ _ e, putF_ne _ _ e]; exact hnew k (by have : k < i + 1 := hk; omega)
   ·show m - (i + 1) < m - i
    omega
   ·show (i : Int) + 1 = (i + 1 : Nat)
    omega
  ·have hie : i = m := by omega
   subst hie
   (repeat' ((conv => whnf); first | left | refine zd ?_ | (refine Both.mk ?_ ?_ <;> intro hc <;> try exact wX hc) | (intro c hc; (try (simp only [AH.zA] at hc; repeat (have hn := hc.1; replace hc := hc.2)))))) <;> (try (conv => whnf))
   refine Then.mk (AWq.in ?_)
   refine AWp_freeze1 (r := a) (v := i) (es := 1) (n := i) (lim := none) (cells := psL P i) 6 rfl rfl hrow (by simp) ?_
   refine AWp.of zU (dok _) rfl ?_
   (repeat' ((conv => whnf); first | refine Then.mk ?_ | left | refine zd ?_ | (refine Both.mk ?_ ?_ <;> intro hc <;> try exact wX hc) | (intro c hc; (try (simp only [AH.zA] at hc; repeat (have hn := hc.1; replace hc := hc.2)))))) <;> (try (conv => whnf))
   exact ⟨P, Q, rfl, hmods.same fun k hk => ⟨AH.del_ne _ (hna k hk).1, AH.del_ne _ (hna k hk).2⟩, HLe.del _ hle ha, hnew⟩
open Go.Fw Go
theorem ACall.fin {P : Program} {g : FuncId} {args : List AV} {H : AH} {v : AV} (h : ACall P g args H fun y H' => AVle y v ∧ HLe H H') : ACall P g args H fun y H' => y = v ∧ H' = H :=
 ACall.told (h.mono fun y H' ⟨a, b⟩ => ⟨v, H, a, b, rfl, rfl⟩)
structure CdAt (H G : AH) (P Q : Nat → Nat) (w r m n : Nat) (E : Es) : Prop where
 mods : Mods G P Q m n E.M
 wr : WrAt G w r E.σ
 dj : ∀ k, k < m → P k ≠ w ∧ P k ≠ r ∧ Q k ≠ w ∧ Q k ≠ r
 le : HLe H G
 new : ∀ k, k < m → H (P k) = none ∧ H (Q k) = none
 hw : H w = none
 hr : H r = none
theorem le_mdH {H G : AH} {p q n : Nat} {c : Nat → Nat} (h : HLe H G) (hp : H p = none) (hq : H q = none) : HLe H (mdH G p q n c) := HLe.set_of _ _ (HLe.set_of _ _ h hq) hp
theorem le_wcH {H G : AH} {w r : Nat} {σ : Cs} (h : HLe H G) (hp : H w = none) (hq : H r = none) : HLe H (wcH G w r σ) := HLe.set_of _ _ (HLe.set_of _ _ h hq) hp
theorem CdAt.step {H G : AH} {P Q : Nat → Nat} {w r m n : Nat} {E : Es} (h : CdAt H G P Q w r m n E) (σ : Cs) : CdAt H (wcH G w r σ) P Q w r m n ⟨E.M, σ⟩ := by
 refine ⟨h.mods.same fun k hk => ?_, WrAt.set h.wr.ne, h.dj, le_wcH h.le h.hw h.hr, h.new, h.hw, h.hr⟩
 obtain ⟨a, b, c, d⟩ := h.dj k hk
 exact ⟨wcH_ne a b, wcH_ne c d⟩
def enG (G : AH) (P Q : Nat → Nat) (w r n : Nat) (E : Es) (k s : Nat) : AH := mdH (wcH G w r (symE n E k s).σ) (P k) (Q k) n (seeM n (E.M k) s)
theorem CdAt.sym {H G : AH} {P Q : Nat → Nat} {w r m n : Nat} {E : Es} (h : CdAt H G P Q w r m n E) {k s : Nat} (hk : k < m) (hs : s < n) : CdAt H (enG G P Q w r n E k s) P Q w r m n (symE n E k s) := by
 have h1 := h.step (symE n E k s).σ
 obtain ⟨a, b, c, d⟩ := h.dj k hk
 refine ⟨h1.mods.set hk ((h.mods.md k hk).ok.see hs), h1.wr.same (mdH_ne (Ne.symm a) (Ne.symm c)) (mdH_ne (Ne.symm b) (Ne.symm d)), h.dj, le_mdH h1.le (h.new k hk).1 (h.new k hk).2, h.new, h.hw, h.hr⟩
theorem CdAt.symbol {H G : AH} {P Q : Nat → Nat} {w r m n : Nat} {E : Es} (h : CdAt H G P Q w r m n E) (hc : CsOk E.σ) (hL : E.σ.L ≤ 1000000000000) {k s : Nat} (hk : k < m) (hs : s < n) :
  ACall Tryz.prog 53 [.ptr w 0 0, .ptr (P k) 0 0, .int .i64 s] G (fun y H' => y = .tup [] ∧ H' = enG G P Q w r n E k s) := by
 obtain ⟨a, b, c, d⟩ := h.dj k hk
 exact symbol_c h.wr (h.mods.md k hk) a b c d hs hc hL
theorem stp_L {σ : Cs} (h : CsOk σ) {p c t : Nat} (hs : StOk p c t) : (stp σ p c t).L ≤ σ.L + 2 := by
 obtain ⟨d, hd, he, _⟩ := stp_ex h hs
 rw [he]
 show σ.L + d ≤ _
 omega
def k_resV (x : List UInt8 × Int) : AV := .tup [.cs (u8s x.1) x.1.length, .int .i64 x.2]
theorem AVle.err {e : Int} : AVle (.tup [.nils, .int .i64 e]) (k_resV ([], e)) := AVle.tup (AVles.cons AVle.nils (AVles.cons (AVle.refl _) AVles.nil))
def I64L (l : List Int) : Prop := ∀ x ∈ l, -9223372036854775808 ≤ x ∧ x ≤ 9223372036854775807
theorem I64L.at {l : List Int} (h : I64L l) (i : Nat) : -9223372036854775808 ≤ l.getD i 0 ∧ l.getD i 0 ≤ 9223372036854775807 := by
 by_cases hi : i < l.length
 ·have : l.getD i 0 = l[i] := by rw [List.getD_eq_getElem?_getD, List.getElem?_eq_getElem hi]; rfl
  rw [this]; exact h _ (List.getElem_mem hi)
 ·rw [List.getD_eq_getElem?_getD, List.getElem?_eq_none (by omega)]; decide
open Go.Fw Go
theorem fold_zz (x : Int) : fold x = zz x := by
 unfold fold zz
 split <;> split <;> omega
set_option maxRecDepth 8000 in
theorem fold_c (x : Int) (h : -9223372036854775808 ≤ x ∧ x ≤ 9223372036854775807) (H : AH) :
  ACall Tryz.prog 51 [.int .i64 x] H (fun y H' => y = .int .u64 (fold x : Nat) ∧ H' = H) := by
 have e := zz_wire h.1 h.2
 rw [← fold_zz] at e
 refine zQ zU (dok _) Tryz.func51 rfl (by decide) rfl ?_
 (repeat' ((conv => whnf); first | refine Then.mk ?_ | left | refine zd ?_ | (refine Both.mk ?_ ?_ <;> intro hc <;> try exact wX hc) | (intro c hc; (try (simp only [AH.zA] at hc; repeat (have hn := hc.1; replace hc := hc.2)))))) <;> (try (conv => whnf))
 exact ⟨congrArg (AV.int .u64) e, rfl⟩
theorem lenB_up {u k : Nat} (h1 : 2 ^ k ≤ u) : lenB u = k + lenB (u / 2 ^ k) := by
 have hp : 0 < 2 ^ k := Nat.pow_pos (by decide)
 have h0 : u ≠ 0 := by omega
 have hd : u / 2 ^ k ≠ 0 := by
  have := Nat.div_pos h1 hp; omega
 unfold lenB
 rw [if_neg h0, if_neg hd]
 have a := (Nat.le_log2 hd (k := (u / 2 ^ k).log2)).1 (Nat.le_refl _)
 have b := (Nat.log2_lt hd (k := (u / 2 ^ k).log2 + 1)).1 (Nat.lt_succ_self _)
 generalize (u / 2 ^ k).log2 = t at a b ⊢
 have c1 : k + t ≤ u.log2 := (Nat.le_log2 h0).2 (by
  rw [Nat.pow_add, Nat.mul_comm]
  exact (Nat.le_div_iff_mul_le hp).1 a)
 have c2 : u.log2 < k + (t + 1) := (Nat.log2_lt h0).2 (by
  rw [Nat.pow_add, Nat.mul_comm]
  exact (Nat.div_lt_iff_lt_mul hp).1 b)
 omega
def lenT (u : Nat) : Nat := if u < 1 then 0 else if u < 2 then 1 else if u < 4 then 2 else if u < 8 then 3 else if u < 16 then 4 else if u < 32 then 5 else if u < 64 then 6 else if u < 128 then 7 else 8
theorem lenT_ok : ∀ u, u < 256 → lenT u = lenB u := by decide +kernel
theorem lenB_two {u k : Nat} : ∃ x d : Nat, (2 ^ k ≤ u ∧ x = u / 2 ^ k ∧ d = k ∨ u < 2 ^ k ∧ x = u ∧ d = 0) ∧ lenB u = d + lenB x := by
 by_cases h : 2 ^ k ≤ u
 ·exact ⟨_, _, .inl ⟨h, rfl, rfl⟩, lenB_up h⟩
 ·exact ⟨_, _, .inr ⟨by omega, rfl, rfl⟩, by omega⟩
theorem sh32 (u : Nat) : (u : Int).fdiv (2 ^ min (Int.toNat 32) IntKind.u64.bits) = (u / 4294967296 : Nat) := by
 rw [show (2 : Int) ^ min (Int.toNat 32) IntKind.u64.bits = 4294967296 by decide, Int.fdiv_eq_ediv_of_nonneg _ (by omega)]; omega
theorem sh16 (u : Nat) : (u : Int).fdiv (2 ^ min (Int.toNat 16) IntKind.u64.bits) = (u / 65536 : Nat) := by
 rw [show (2 : Int) ^ min (Int.toNat 16) IntKind.u64.bits = 65536 by decide, Int.fdiv_eq_ediv_of_nonneg _ (by omega)]; omega
theorem sh8 (u : Nat) : (u : Int).fdiv (2 ^ min (Int.toNat 8) IntKind.u64.bits) = (u / 256 : Nat) := by
 rw [show (2 : Int) ^ min (Int.toNat 8) IntKind.u64.bits = 256 by decide, Int.fdiv_eq_ediv_of_nonneg _ (by omega)]; omega
def tab8 : List UInt8 := (List.range 256).map fun x => UInt8.ofNat (lenT x)
theorem tab8_at {l : List UInt8} (h : l = tab8) {x : Nat} (hx : x < 256) : (l.getD (x : Int).toNat 0).toNat = lenT x := by
 rw [h, Int.toNat_natCast]
 revert x
 decide +kernel
set_option maxRecDepth 8000 in
theorem len64_c (u : Nat) (h : u < 18446744073709551616) (H : AH) :
  ACall Tryz.prog 52 [.int .u64 u] H (fun y H' => y = .int .i64 (lenB u : Nat) ∧ H' = H) := by
 obtain ⟨x1, d1, h1, l1⟩ := lenB_two (u := u) (k := 32)
 obtain ⟨x2, d2, h2, l2⟩ := lenB_two (u := x1) (k := 16)
 obtain ⟨x3, d3, h3, l3⟩ := lenB_two (u := x2) (k := 8)
 have e1 := sh32 u
 have e2 := sh16 x1
 have e3 := sh8 x2
 simp only [show (2 : Nat) ^ 32 = 4294967296 by decide, show (2 : Nat) ^ 16 = 65536 by decide, show (2 : Nat) ^ 8 = 256 by decide] at h1 h2 h3
 have hx3 : x3 < 256 := by omega
 have hl := lenT_ok x3 hx3
 have hf : lenB u = d1 + d2 + d3 + lenB x3 := by omega
 have hb : lenB x3 ≤ 8 := by
  rw [← hl]; unfold lenT
  repeat' split
  all_goals omega
 rw [hf]
 obtain ⟨L, hL⟩ : ∃ L, L = lenB x3 := ⟨_, rfl⟩
 rw [← hL] at hb hl ⊢
 clear hf hL l1 l2 l3
 have hfin : ∀ l : List UInt8, l = tab8 → ∀ d : Nat, d ≤ 56 → ∀ e : Int, e = d → AV.int .i64 (IntKind.i64.wrap (e + IntKind.i64.wrap (l.getD (x3 : Int).toNat 0).toNat)) = AV.int .i64 (d + L : Nat) ∧ H = H := fun l hl2 d hd e he => by
  refine ⟨congrArg (AV.int .i64) ?_, rfl⟩
  rw [tab8_at hl2 hx3, hl, IntKind.wrap_i64, IntKind.wrap_i64, he]
  clear h e1 e2 e3 h1 h2 h3
  omega
 rcases h1 with ⟨a1, a2, a3⟩ | ⟨a1, a2, a3⟩ <;> subst a2 a3 <;> rcases h2 with ⟨b1, b2, b3⟩ | ⟨b1, b2, b3⟩ <;> subst b2 b3 <;> rcases h3 with ⟨c1, c2, c3⟩ | ⟨c1, c2, c3⟩ <;> subst c2 c3
 all_goals
  refine zQ zU (dok _) Tryz.func52 rfl (by decide) rfl ?_
  (repeat' ((conv => whnf); first | refine Then.mk ?_ | left | refine zd ?_ | (refine Both.mk ?_ ?_ <;> intro hc <;> try exact wX hc) | (intro c hc; (try (simp only [AH.zA] at hc; repeat (have hn := hc.1; replace hc := hc.2)))))) <;> (try (conv => whnf))
  exact hfin _ (by decide +kernel) _ (by decide) _ (by decide)
open Go.Fw Go
theorem shr_at (u k : Nat) (h : k ≤ 63) : (u : Int).fdiv (2 ^ min (Int.toNat (k : Int)) IntKind.u64.bits) = (u / 2 ^ k : Nat) := by
 rw [show min (Int.toNat (k : Int)) IntKind.u64.bits = k by show min k 64 = k; omega, Int.fdiv_eq_ediv_of_nonneg _ (Int.le_of_lt (Int.pow_pos (by decide)))]
 rw [Int.natCast_ediv, Int.natCast_pow]; rfl
theorem and_one (x : Nat) (h : x < 18446744073709551616) : bitsA .and .u64 (x : Nat) 1 = (x % 2 : Nat) := by
 show IntKind.u64.wrap ((BitVec.ofInt 64 (x : Int) &&& BitVec.ofInt 64 1).toNat : Int) = _
 have ha : (BitVec.ofInt 64 (x : Int)).toNat = x := by rw [BitVec.toNat_ofInt]; omega
 have hb : (BitVec.ofInt 64 1).toNat = 2 ^ 1 - 1 := by decide
 rw [BitVec.toNat_and, ha, hb, Nat.and_two_pow_sub_one_eq_mod, wrap_u64']
 omega
theorem bitsE_L {u : Nat} : ∀ (k : Nat) {σ : Cs}, CsOk σ → (bitsE u k σ).L ≤ σ.L + 2 * k
 | 0, _, _ => Nat.le_refl _
 | k + 1, σ, h => by
  have h1 := bitsE_L (u := u) k (bitE_ok h u k)
  have h2 : (bitE σ u k).L ≤ σ.L + 2 := stp_L h (bit_st u k)
  show (bitsE u k (bitE σ u k)).L ≤ _
  omega
theorem intI_L {I : Is} (h : IsOk I) {u : Nat} (hu : u < 2 ^ 64) : (intI I u).E.σ.L ≤ I.E.σ.L + 130 := by
 have hl := lenB_le hu
 have h1 := stp_L h.es.cs (h.es.st I.b (s := lenB u) (by omega))
 have h2 := bitsE_L (u := u) (lenB u - 1) (h.es.sym I.b (s := lenB u) (by omega)).cs
 have h3 : (symE 65 I.E I.b (lenB u)).σ.L ≤ I.E.σ.L + 2 := h1
 show (bitsE u (lenB u - 1) (symE 65 I.E I.b (lenB u)).σ).L ≤ _
 omega
theorem intsI_L : ∀ (us : List Nat) {I : Is}, (∀ u ∈ us, u < 2 ^ 64) → IsOk I → (intsI us I).E.σ.L ≤ I.E.σ.L + 130 * us.length
 | [], _, _, _ => Nat.le_refl _
 | u :: us, I, hu, h => by
  have h1 := intI_L h (hu u (by simp))
  have h2 := intsI_L us (I := intI I u) (fun v hv => hu v (by simp [hv])) (h.step (hu u (by simp)))
  show (intsI us (intI I u)).E.σ.L ≤ _
  rw [List.length_cons]
  omega
theorem fold_all {l : List Int} (h : I64L l) : ∀ u ∈ l.map fold, u < 2 ^ 64 := fun u hu => by
 obtain ⟨x, hx, rfl⟩ := List.mem_map.1 hu
 exact fold_lt (h x hx)
theorem I64L.take {l : List Int} (h : I64L l) (n : Nat) : I64L (l.take n) := fun x hx => h x (List.mem_of_mem_take hx)
set_option maxRecDepth 8000 in
theorem cInts_c (l : List Int) (hl : I64L l) (hlen : l.length ≤ 1000000) (H : AH) :
  ACall Tryz.prog 17 [.cs (iS .i64 l) l.length] H (fun y H' => y = k_resV (intsS l) ∧ H' = H) := by
 refine ACall.fin ?_
 have hsl : (iS .i64 l).length = l.length * 1 := by simp
 by_cases hlim : l.length ≤ 65536
 ·have he : intsS l = (codeS (intsI (l.map fold) is0).E.σ, 0) := if_pos hlim
  rw [he]
  refine zQ zU (dok _) Tryz.func17 rfl (by decide) rfl ?_
  (repeat' ((conv => whnf); first | refine Then.mk ?_ | left | refine zd ?_ | (refine Both.mk ?_ ?_ <;> intro hc <;> try exact wX hc) | (intro c hc; (try (simp only [AH.zA] at hc; repeat (have hn := hc.1; replace hc := hc.2)))))) <;> (try (conv => whnf))
  refine (alphabet_c 65 65 (by omega) (by omega) (by omega) (by omega) _).mono ?_
  rintro y H' ⟨P, Q, rfl, hmods, hle, hnew⟩
  have hpl : (psL P 65).length = 65 := psL_len _ _
  (repeat' ((conv => whnf); first | refine Then.mk ?_ | left | refine zd ?_ | (refine Both.mk ?_ ?_ <;> intro hc <;> try exact wX hc) | (intro c hc; (try (simp only [AH.zA] at hc; repeat (have hn := hc.1; replace hc := hc.2)))))) <;> (try (conv => whnf))
  refine (writer_c _).mono ?_
  rintro y G ⟨w, r, hw, hr, hwr, rfl, rfl⟩
  have hcd : CdAt H (wcH H' w r cs0) P Q w r 65 65 es0 := by
   have hd : ∀ k, k < 65 → P k ≠ w ∧ P k ≠ r ∧ Q k ≠ w ∧ Q k ≠ r := fun k hk => ⟨(hmods.fresh hw hk).1, (hmods.fresh hr hk).1, (hmods.fresh hw hk).2, (hmods.fresh hr hk).2⟩
   exact ⟨hmods.same fun k hk => ⟨wcH_ne (hd k hk).1 (hd k hk).2.1, wcH_ne (hd k hk).2.2.1 (hd k hk).2.2.2⟩, WrAt.set hwr, hd, le_wcH hle (HLe.none hle hw) (HLe.none hle hr), hnew, HLe.none hle hw, HLe.none hle hr⟩
  generalize wcH H' w r cs0 = G0 at hcd ⊢
  (repeat' ((conv => whnf); first | refine Then.mk ?_ | left | refine zd ?_ | (refine Both.mk ?_ ?_ <;> intro hc <;> try exact wX hc) | (intro c hc; (try (simp only [AH.zA] at hc; repeat (have hn := hc.1; replace hc := hc.2)))))) <;> (try (conv => whnf))
  refine zT (σ := AH × Nat × Is) (7 :: 9 :: 10 :: 11 :: 12 :: 23 :: 24 :: 25 :: 26 :: 27 :: 28 :: 29 :: 30 :: 31 :: 32 :: 33 :: 34 :: 35 :: 36 :: 37 :: 38 :: 39 :: 40 :: 41 :: 42 :: 43 :: 44 :: 45 :: 46 :: 47 :: 48 :: 49 :: 50 :: 51 :: 52 :: []) (fun (G, i, I) => [(7, .int .i64 I.b), (23, .int .i64 i)]) (fun (G, i, I) => G) (fun (G, i, I) => i ≤ l.length ∧ intsI ((l.take i).map fold) is0 = I ∧ CdAt H G P Q w r 65 65 I.E) (fun (G, i, I) => l.length - i) (G0, 0, is0) rfl ?_ ?_ (HLe.refl _) ?_
  ·exact ⟨Nat.zero_le _, rfl, hcd⟩
  ·exact ⟨rfl, rfl, trivial⟩
  ·rintro ⟨G, i, I⟩ ⟨hi, hI, hcd⟩
   dsimp only at hi hI hcd ⊢
   refine AWp.of zU (dok _) rfl ?_
   have hok : IsOk I := by rw [← hI]; exact intsI_ok (fold_all (hl.take i)) is0_ok
   have hL : I.E.σ.L ≤ 130 * 65536 := by
    have := intsI_L ((l.take i).map fold) (I := is0) (fold_all (hl.take i)) is0_ok
    rw [hI] at this
    have h0 : is0.E.σ.L = 0 := rfl
    rw [h0, List.length_map, List.length_take] at this
    omega
   have hb := hok.b
   by_cases hil : i < l.length
   ·have hga : (iS .i64 l)[(i : Int).toNat]? = some (.int .i64 (l.getD i 0)) := iS_get hil
    have ha := hl.at i
    have hn : intsI ((l.take (i + 1)).map fold) is0 = intI I (fold (l.getD i 0)) := by
     rw [List.take_add_one, List.getElem?_eq_getElem hil, List.map_append]
     have : l.getD i 0 = l[i] := by rw [List.getD_eq_getElem?_getD, List.getElem?_eq_getElem hil]; rfl
     rw [this]
     show intsI (_ ++ [fold l[i]]) is0 = _
     rw [intsI_snoc, hI]
    generalize l.getD i 0 = a at *
    have hfold := fun H => fold_c a ha H
    have hu := fold_lt ha
    generalize fold a = u at *
    have hlen64 := fun H => len64_c u (by simpa using hu) H
    have hlb := lenB_le hu
    have hsm := hcd.symbol hok.es.cs (by omega) (k := I.b) (s := lenB u) (by omega) (by omega)
    have hcd2 := hcd.sym (k := I.b) (s := lenB u) (by omega) (by omega)
    have hok2 := hok.es.sym I.b (s := lenB u) (by omega)
    have hL2 : (symE 65 I.E I.b (lenB u)).σ.L ≤ I.E.σ.L + 2 := stp_L hok.es.cs (hok.es.st I.b (s := lenB u) (by omega))
    have hgp : (psL P 65)[(I.b : Int).toNat]? = some (.ptr (P I.b) 0 0) := psL_get (by omega)
    have hfin : intI I u = ⟨⟨(symE 65 I.E I.b (lenB u)).M, bitsE u (lenB u - 1) (symE 65 I.E I.b (lenB u)).σ⟩, lenB u⟩ := rfl
    generalize symE 65 I.E I.b (lenB u) = E2 at *
    obtain ⟨C, hC⟩ : ∃ C, C = lenB u := ⟨_, rfl⟩
    rw [← hC] at hlb hfin hlen64 hsm hcd2
    (repeat' ((conv => whnf); first | refine Then.mk ?_ | left | refine zg ?_ (hfold _) | refine zg ?_ (hlen64 _) | refine zg ?_ (hsm) | refine zgg ?_ (hfold _) | refine zgg ?_ (hlen64 _) | refine zgg ?_ (hsm) | refine zd ?_ | (refine Both.mk ?_ ?_ <;> intro hc <;> try exact wX hc) | (intro c hc; (try (simp only [AH.zA] at hc; repeat (have hn := hc.1; replace hc := hc.2)))) | (refine ACall.to (hfold _) ?_) | (refine ACall.to (hlen64 _) ?_) | (refine ACall.to (hsm) ?_))) <;> (try (conv => whnf))
    generalize enG G P Q w r 65 I.E I.b C = G1 at hcd2 ⊢
    refine zT (σ := AH × Nat × Cs × Int) (12 :: 40 :: 41 :: 42 :: 43 :: 44 :: 45 :: 46 :: 47 :: 48 :: 49 :: 50 :: []) (fun (G, k, τ, j) => [(12, .int .i64 j)]) (fun (G, k, τ, j) => G) (fun (G, k, τ, j) => (j = (k : Int) - 1 ∨ k = 0 ∧ j = -2) ∧ bitsE u k τ = bitsE u (C - 1) E2.σ ∧ CsOk τ ∧ τ.L + 2 * k ≤ 20000000 ∧ k ≤ 63 ∧ CdAt H G P Q w r 65 65 ⟨E2.M, τ⟩) (fun (G, k, τ, j) => k) (G1, C - 1, E2.σ, (C : Int) - 2) rfl ?_ ?_ (HLe.refl _) ?_
    ·exact ⟨by omega, rfl, hok2.cs, by omega, by omega, hcd2⟩
    ·exact ⟨rfl, trivial⟩
    ·rintro ⟨G2, k, τ, j⟩ ⟨k1, k2, k3, k4, k5, k6⟩
     dsimp only at k1 k2 k3 k4 k5 k6 ⊢
     refine AWp.of zU (dok _) rfl ?_
     by_cases hk : k = 0
     ·subst hk
      have hj : j < 0 := by omega
      have he2 : intI I u = ⟨⟨E2.M, τ⟩, C⟩ := by rw [hfin, ← k2]; rfl
      rw [he2] at hn
      (repeat' ((conv => whnf); first | refine Then.mk ?_ | left | refine zd ?_ | (refine Both.mk ?_ ?_ <;> intro hc <;> try exact wX hc) | (intro c hc; (try (simp only [AH.zA] at hc; repeat (have hn := hc.1; replace hc := hc.2)))))) <;> (try (conv => whnf))
      exact ⟨(G2, i + 1, ⟨⟨E2.M, τ⟩, C⟩), ⟨hil, hn, k6⟩, by show l.length - (i + 1) < l.length - i; omega, ⟨rfl, congrArg (AV.int .i64) (by show (i : Int) + 1 = (i + 1 : Nat); omega), trivial⟩, HLe.refl _⟩
     ·obtain ⟨k, rfl⟩ : ∃ d, k = d + 1 := ⟨k - 1, by omega⟩
      obtain rfl : j = (k : Int) := by omega
      have f1 := shr_at u k (by omega)
      have hx : u / 2 ^ k < 18446744073709551616 := Nat.lt_of_le_of_lt (Nat.div_le_self _ _) (by simpa using hu)
      have hst := k_step_c k6.wr k3 (bit_st u k) (show τ.L ≤ _ by omega)
      have k6' := k6.step (bitE τ u k)
      have hok3 := bitE_ok k3 u k
      have hL3 : (bitE τ u k).L ≤ τ.L + 2 := stp_L k3 (bit_st u k)
      have hb2 : bitsE u (k + 1) τ = bitsE u k (bitE τ u k) := rfl
      have hst : ACall Tryz.prog 54 [.ptr w 0 0, .int .i64 (u / 2 ^ k % 2 : Nat), .int .i64 1, .int .i64 2] G2 (fun y H' => y = .tup [] ∧ H' = wcH G2 w r (bitE τ u k)) := hst
      rw [hb2] at k2
      generalize bitE τ u k = τ2 at *
      generalize u / 2 ^ k = x at *
      have f2 := and_one x hx
      have hx2 : x % 2 < 2 := Nat.mod_lt _ (by decide)
      generalize x % 2 = y at *
      (repeat' ((conv => whnf); first | refine Then.mk ?_ | left | refine zg ?_ (hst) | refine zgg ?_ (hst) | refine zd ?_ | (refine Both.mk ?_ ?_ <;> intro hc <;> try exact wX hc) | (intro c hc; (try (simp only [AH.zA] at hc; repeat (have hn := hc.1; replace hc := hc.2)))) | (refine ACall.to (hst) ?_))) <;> (try (conv => whnf))
      exact ⟨(_, k, τ2, (k : Int) - 1), ⟨.inl rfl, k2, hok3, by dsimp only; omega, by dsimp only; omega, k6'⟩, Nat.lt_succ_self _, ⟨rfl, trivial⟩, HLe.refl _⟩
   ·have hie : i = l.length := by omega
    have hcode := code_c (H := G) (σ := I.E.σ) hcd.wr.ne (by omega)
    rw [hcd.wr.eq] at hcode
    rw [hie, List.take_length] at hI
    rw [hI]
    (repeat' ((conv => whnf); first | refine Then.mk ?_ | left | refine zg ?_ (hcode) | refine zgg ?_ (hcode) | refine zd ?_ | (refine Both.mk ?_ ?_ <;> intro hc <;> try exact wX hc) | (intro c hc; (try (simp only [AH.zA] at hc; repeat (have hn := hc.1; replace hc := hc.2)))) | (refine ACall.to (hcode) ?_))) <;> (try (conv => whnf))
    exact ⟨AVle.refl _, HLe.del _ hcd.le hcd.hr⟩
 ·have he : intsS l = ([], 4) := if_neg hlim
  rw [he]
  refine zQ zU (dok _) Tryz.func17 rfl (by decide) rfl ?_
  (repeat' ((conv => whnf); first | refine Then.mk ?_ | left | refine zd ?_ | (refine Both.mk ?_ ?_ <;> intro hc <;> try exact wX hc) | (intro c hc; (try (simp only [AH.zA] at hc; repeat (have hn := hc.1; replace hc := hc.2)))))) <;> (try (conv => whnf))
  exact ⟨AVle.err, HLe.refl _⟩
open Go.Fw Go
set_option maxRecDepth 8000 in
theorem k_next_c {G : AH} {ic bc i : Nat} {b : List UInt8} (hi : G ic = some (.row [.int .i64 i] 0)) (hb : G bc = some (.row [.cs (u8s b) b.length] 0)) (hne : ic ≠ bc) (hil : i ≤ 1000000000000) (hbl : b.length ≤ 1000000000000) :
  ACall Tryz.prog 130 [.ptr ic 0 0, .ptr bc 0 0] G (fun y H' => y = .int .u64 (b.getD i 0).toNat ∧ H' = G.set ic (.row [.int .i64 (i + 1 : Nat)] 0)) := by
 have hbi : bc ≠ ic := Ne.symm hne
 have e1 : IntKind.i64.wrap ((i : Int) + 1) = (i + 1 : Nat) := by rw [IntKind.wrap_i64]; omega
 by_cases h : i < b.length
 ·have hg : (u8s b)[((i + 1 : Nat) - 1 : Int).toNat]? = some (.int .u8 (b.getD i 0).toNat) := by
   rw [show ((i + 1 : Nat) - 1 : Int).toNat = i by omega]; exact u8s_get h
  have hr := u8_range (b.getD i 0)
  obtain ⟨B, hB⟩ : ∃ B : Int, B = ((b.getD i 0).toNat : Int) := ⟨_, rfl⟩
  rw [← hB] at hg hr ⊢
  have e2 : IntKind.u64.wrap B = B := by rw [wrap_u64']; omega
  have hul : (u8s b).length = b.length := by simp
  refine zQ zU (dok _) Tryz.func130 rfl (by decide) rfl ?_
  (repeat' ((conv => whnf); first | refine Then.mk ?_ | left | refine zd ?_ | (refine Both.mk ?_ ?_ <;> intro hc <;> try exact wX hc) | (intro c hc; (try (simp only [AH.zA] at hc; repeat (have hn := hc.1; replace hc := hc.2)))))) <;> (try (conv => whnf))
  rfl
 ·have h0 : (b.getD i 0) = 0 := by rw [List.getD_eq_getElem?_getD, List.getElem?_eq_none (by omega)]; rfl
  rw [h0]
  refine zQ zU (dok _) Tryz.func130 rfl (by decide) rfl ?_
  (repeat' ((conv => whnf); first | refine Then.mk ?_ | left | refine zd ?_ | (refine Both.mk ?_ ?_ <;> intro hc <;> try exact wX hc) | (intro c hc; (try (simp only [AH.zA] at hc; repeat (have hn := hc.1; replace hc := hc.2)))))) <;> (try (conv => whnf))
  rfl
def rdRow (low W ic bc : Nat) : AO := .row [.int .u64 low, .int .u64 W, .fn (.func 130) [] [.ptr ic 0 0, .ptr bc 0 0]] 0
structure RdAt (G : AH) (d ic bc : Nat) (b : List UInt8) (σ : Cs) : Prop where
 hd : G d = some (rdRow (k_lowR b σ) σ.W ic bc)
 hi : G ic = some (.row [.int .i64 (σ.L + 4 : Nat)] 0)
 hb : G bc = some (.row [.cs (u8s b) b.length] 0)
 n1 : d ≠ ic
 n2 : d ≠ bc
 n3 : ic ≠ bc
def rdG (H : AH) (d ic bc : Nat) (b : List UInt8) (σ : Cs) : AH := (H.set ic (.row [.int .i64 (σ.L + 4 : Nat)] 0)).set d (rdRow (k_lowR b σ) σ.W ic bc)
theorem RdAt.set {G : AH} {d ic bc : Nat} {b : List UInt8} {σ : Cs} (h : RdAt G d ic bc b σ) (τ : Cs) : RdAt (rdG G d ic bc b τ) d ic bc b τ := by
 refine ⟨AH.zC _ _ _, ?_, ?_, h.n1, h.n2, h.n3⟩
 ·unfold rdG; rw [AH.zR _ _ (Ne.symm h.n1), AH.zC]
 ·unfold rdG; rw [AH.zR _ _ (Ne.symm h.n2), AH.zR _ _ (Ne.symm h.n3)]; exact h.hb
theorem rdG_ne {H : AH} {d ic bc a : Nat} {b : List UInt8} {σ : Cs} (h1 : a ≠ d) (h2 : a ≠ ic) : rdG H d ic bc b σ a = H a := by
 unfold rdG
 rw [AH.zR _ _ h1, AH.zR _ _ h2]
theorem rdG_set {H : AH} {d ic bc : Nat} {b : List UInt8} {σ τ : Cs} (h : d ≠ ic) : rdG (rdG H d ic bc b σ) d ic bc b τ = rdG H d ic bc b τ := by
 unfold rdG
 rw [AH.set_back _ (Ne.symm h), AH.zS]
set_option maxRecDepth 8000 in
theorem at_c {G : AH} {d ic bc : Nat} {b : List UInt8} {σ : Cs} (h : RdAt G d ic bc b σ) (hr : RdOk b σ) (hc : CsOk σ) (t : Nat) (ht1 : 1 ≤ t) (ht2 : t ≤ 32768) :
  ACall Tryz.prog 106 [.ptr d 0 0, .int .i64 t] G (fun y H' => y = .tup [.int .i64 (min (atR b σ t) t : Nat), .bool (decide (atR b σ t < t))] ∧ H' = G) := by
 obtain ⟨r1, r2, r3⟩ := nrw_r hc ht1 ht2
 have hlow := hr.low
 have hhi := hc.hi
 have hd := h.hd
 have hat : atR b σ t = k_lowR b σ / (σ.W / t) := rfl
 have ha2 : atR b σ t ≤ 4294967296 := by rw [hat]; exact Nat.le_trans (Nat.div_le_self _ _) (by omega)
 generalize k_lowR b σ = low at *
 have e1 : (σ.W : Int).tdiv (t : Int) = (σ.W / t : Nat) := (Int.ofNat_tdiv _ _).symm
 generalize σ.W / t = r at *
 have e2 : (low : Int).tdiv (r : Int) = (atR b σ t : Nat) := by rw [hat]; exact (Int.ofNat_tdiv _ _).symm
 generalize atR b σ t = a at *
 have e3 : IntKind.u64.wrap (t : Int) = t := by rw [wrap_u64']; omega
 have e4 : IntKind.u64.wrap (r : Int) = r := by rw [wrap_u64']; omega
 have e5 : IntKind.u64.wrap ((σ.W : Int).tdiv (t : Int)) = r := by rw [e1, e4]
 have e6 : IntKind.u64.wrap ((low : Int).tdiv (r : Int)) = a := by rw [e2, wrap_u64']; omega
 have e7 : min (a : Int) (t : Int) = (min a t : Nat) := by omega
 have e8 : IntKind.i64.wrap (min a t : Nat) = (min a t : Nat) := by rw [IntKind.wrap_i64]; omega
 unfold rdRow at hd
 clear hat e1 e2 r2
 by_cases hlt : a < t
 ·rw [decide_eq_true hlt]
  refine zQ zU (dok _) Tryz.func106 rfl (by decide) rfl ?_
  (repeat' ((conv => whnf); first | refine Then.mk ?_ | left | refine zd ?_ | (refine Both.mk ?_ ?_ <;> intro hc <;> try exact wX hc) | (intro c hc; (try (simp only [AH.zA] at hc; repeat (have hn := hc.1; replace hc := hc.2)))))) <;> (try (conv => whnf))
 ·rw [decide_eq_false hlt]
  refine zQ zU (dok _) Tryz.func106 rfl (by decide) rfl ?_
  (repeat' ((conv => whnf); first | refine Then.mk ?_ | left | refine zd ?_ | (refine Both.mk ?_ ?_ <;> intro hc <;> try exact wX hc) | (intro c hc; (try (simp only [AH.zA] at hc; repeat (have hn := hc.1; replace hc := hc.2)))))) <;> (try (conv => whnf))
theorem lowR_nrw {b : List UInt8} {σ : Cs} {p c t : Nat} : k_lowR b (nrw σ p c t) = k_lowR b σ - σ.W / t * p := by
 show bv b (σ.L + 4) - (σ.V + σ.W / t * p) = bv b (σ.L + 4) - σ.V - σ.W / t * p
 omega
theorem lowR_shf {b : List UInt8} {σ : Cs} (h : σ.V ≤ bv b (σ.L + 4)) : k_lowR b ⟨σ.V * 256, σ.W * 256, σ.L + 1⟩ = k_lowR b σ * 256 + (b.getD (σ.L + 4) 0).toNat := by
 show bv b (σ.L + 4) * 256 + (b.getD (σ.L + 4) 0).toNat - σ.V * 256 = (bv b (σ.L + 4) - σ.V) * 256 + (b.getD (σ.L + 4) 0).toNat
 omega
set_option maxRecDepth 8000 in
set_option maxHeartbeats 4000000 in
theorem k_rstep_c {H : AH} {d ic bc : Nat} {b : List UInt8} {σ : Cs} {p c t : Nat} (h : RdAt H d ic bc b σ) (hr : RdOk b σ) (hc : CsOk σ) (hs : StOk p c t) (h1 : p ≤ atR b σ t) (h2 : atR b σ t < p + c) (hL : σ.L ≤ 1000000000) (hbl : b.length ≤ 1000000000000) :
  ACall Tryz.prog 107 [.ptr d 0 0, .int .i64 p, .int .i64 c, .int .i64 t] H (fun y H' => y = .tup [] ∧ H' = rdG H d ic bc b (stp σ p c t)) := by
 have hd := h.hd
 have hb := h.hb
 have hi := h.hi
 have n1 := h.n1
 have n2 := h.n2
 have n3 := h.n3
 have n1' := Ne.symm n1
 unfold rdRow at hd
 have hn := narrow_c hd hs hc.hi
 obtain ⟨s1, s2, s3⟩ := hr.step hc hs h1 h2
 have hlow := hr.low
 have hhi := hc.hi
 have q1 : k_lowR b (nrw σ p c t) = k_lowR b σ - σ.W / t * p := lowR_nrw
 obtain ⟨k1, k2, k3, k4⟩ := nrw_ok hc hs
 have hrn : RdOk b (nrw σ p c t) := by
  have := hr.le
  refine ⟨?_, ?_⟩
  ·show σ.V + σ.W / t * p ≤ bv b (σ.L + 4)
   unfold k_lowR at s2; omega
  ·show bv b (σ.L + 4) < σ.V + σ.W / t * p + σ.W / t * c
   unfold k_lowR at s3; omega
 have hst : stp σ p c t = shf 3 (nrw σ p c t) := rfl
 have hLn : (nrw σ p c t).L = σ.L := rfl
 have hWn : (nrw σ p c t).W = σ.W / t * c := rfl
 rw [hst]
 rw [← hWn] at hn
 generalize nrw σ p c t = τ at *
 generalize σ.W / t * p = X at *
 generalize k_lowR b σ = low at *
 have e1 : IntKind.u64.wrap ((low : Int) - X) = (low - X : Nat) := by rw [wrap_u64']; omega
 refine zQ zU (dok _) Tryz.func107 rfl (by decide) rfl ?_
 refine AWq.zI ?_
 refine AWq.drawF mo ([19], [12]) (fun G => ∃ W', G d = some (.row [.int .u64 low, W', .fn (.func 130) [] [.ptr ic 0 0, .ptr bc 0 0]] 0)) ⟨_, hd⟩ (by decide +kernel) ?_
 (repeat' ((conv => whnf); first | refine Then.mk ?_ | left | refine zg ?_ (hn) | refine zgg ?_ (hn) | refine zd ?_ | (refine Both.mk ?_ ?_ <;> intro hc <;> try exact wX hc) | (intro c hc; (try (simp only [AH.zA] at hc; repeat (have hn := hc.1; replace hc := hc.2)))) | (refine ACall.to (hn) ?_))) <;> (try (conv => whnf))
 refine ⟨.int .u64 low, ?_, ?_, ?_⟩
 ·(repeat' ((conv => whnf); first | refine Then.mk ?_ | left | refine zd ?_ | (refine Both.mk ?_ ?_ <;> intro hc <;> try exact wX hc) | (intro c hc; (try (simp only [AH.zA] at hc; repeat (have hn := hc.1; replace hc := hc.2)))))) <;> (try (conv => whnf))
 ·intro G hG
  obtain ⟨W', hG⟩ : ∃ W', G d = some (.row [.int .u64 low, W', .fn (.func 130) [] [.ptr ic 0 0, .ptr bc 0 0]] 0) := hG
  (repeat' ((conv => whnf); first | refine Then.mk ?_ | left | refine zd ?_ | (refine Both.mk ?_ ?_ <;> intro hc <;> try exact wX hc) | (intro c hc; (try (simp only [AH.zA] at hc; repeat (have hn := hc.1; replace hc := hc.2)))))) <;> (try (conv => whnf))
 (repeat' ((conv => whnf); first | refine Then.mk ?_ | left | refine zg ?_ (hn) | refine zgg ?_ (hn) | refine zd ?_ | (refine Both.mk ?_ ?_ <;> intro hc <;> try exact wX hc) | (intro c hc; (try (simp only [AH.zA] at hc; repeat (have hn := hc.1; replace hc := hc.2)))) | (refine ACall.to (hn) ?_))) <;> (try (conv => whnf))
 refine And.intro (show ∃ W', _ = _ from ⟨_, AH.zC _ _ _⟩) ?_
 (repeat' ((conv => whnf); first | refine Then.mk ?_ | left | refine zd ?_ | (refine Both.mk ?_ ?_ <;> intro hc <;> try exact wX hc) | (intro c hc; (try (simp only [AH.zA] at hc; repeat (have hn := hc.1; replace hc := hc.2)))))) <;> (try (conv => whnf))
 have hH0 : rdG H d ic bc b τ = H.set d (rdRow (low - X) τ.W ic bc) := by
  unfold rdG; rw [hLn, AH.set_id hi, q1]
 refine zT (σ := Nat × Cs) (24 :: 25 :: 26 :: 27 :: 28 :: 29 :: 30 :: 31 :: 32 :: 33 :: 34 :: 35 :: 36 :: 37 :: 38 :: 39 :: 40 :: 41 :: 42 :: 43 :: 44 :: 45 :: 46 :: 47 :: 48 :: 49 :: 50 :: 51 :: 52 :: 53 :: 54 :: []) (fun (f, τ) => []) (fun (f, τ) => rdG H d ic bc b τ) (fun (f, υ) => shf f υ = shf 3 τ ∧ 16777216 ≤ υ.W * 256 ^ f ∧ υ.W ≤ 4294967296 ∧ υ.L + f ≤ σ.L + 3 ∧ RdOk b υ) (fun (f, τ) => f) (3, τ) rfl ?_ trivial ?_ ?_
 ·refine ⟨rfl, ?_, by show τ.W ≤ _; omega, by show τ.L + 3 ≤ _; omega, hrn⟩
  show 16777216 ≤ τ.W * 256 ^ 3
  rw [show (256 : Nat) ^ 3 = 16777216 by decide]; omega
 ·refine HLe.of_eq ?_
  dsimp only
  rw [hH0]
  exact Eq.symm (AH.zS _ _ _ _)
 ·rintro ⟨f, υ⟩ ⟨g1, g2, g3, g4, g5⟩
  dsimp only at g1 g2 g3 g4 g5 ⊢
  refine AWp.of zU (dok _) rfl ?_
  have hat := h.set υ
  have hud := hat.hd
  have hui := hat.hi
  have hub := hat.hb
  have hset : ∀ υ', rdG (rdG H d ic bc b υ) d ic bc b υ' = rdG H d ic bc b υ' := fun _ => rdG_set n1
  have hsm := lowR_shf (b := b) g5.le
  have hlw := g5.low
  by_cases hw : υ.W < 16777216
  ·have hf : f ≠ 0 := fun e => by subst e; simp at g2; omega
   have hnx := k_next_c hui hub n3 (by omega) hbl
   have hsf : shf f υ = shf (f - 1) ⟨υ.V * 256, υ.W * 256, υ.L + 1⟩ := by
    obtain ⟨g, rfl⟩ : ∃ g, f = g + 1 := ⟨f - 1, by omega⟩
    exact if_pos hw
   have g5' : RdOk b ⟨υ.V * 256, υ.W * 256, υ.L + 1⟩ := by
    have hle := g5.le
    have hlt := g5.lt
    have hy : (b.getD (υ.L + 4) 0).toNat < 256 := (b.getD (υ.L + 4) 0).toNat_lt
    refine ⟨?_, ?_⟩
    ·show υ.V * 256 ≤ bv b (υ.L + 4) * 256 + (b.getD (υ.L + 4) 0).toNat
     omega
    ·show bv b (υ.L + 4) * 256 + (b.getD (υ.L + 4) 0).toNat < υ.V * 256 + υ.W * 256
     omega
   have hy : (b.getD (υ.L + 4) 0).toNat < 256 := (b.getD (υ.L + 4) 0).toNat_lt
   unfold rdRow at hud
   generalize k_lowR b υ = lw at *
   generalize (b.getD (υ.L + 4) 0).toNat = y at *
   have s3 : IntKind.u64.wrap ((lw : Int) * 2 ^ min (Int.toNat 8) IntKind.u64.bits) = (lw * 256 : Nat) := by
    rw [show (2 : Int) ^ min (Int.toNat 8) IntKind.u64.bits = 256 by decide, wrap_u64']; omega
   have s4 : IntKind.u64.wrap (((lw * 256 : Nat) : Int) + y) = (lw * 256 + y : Nat) := by rw [wrap_u64']; omega
   have s5 : IntKind.u64.wrap ((υ.W : Int) * 2 ^ min (Int.toNat 8) IntKind.u64.bits) = (υ.W * 256 : Nat) := by
    rw [show (2 : Int) ^ min (Int.toNat 8) IntKind.u64.bits = 256 by decide, wrap_u64']; omega
   generalize hG : rdG H d ic bc b υ = G at *
   (repeat' ((conv => whnf); first | refine Then.mk ?_ | left | refine zs ?_ | (refine Both.mk ?_ ?_ <;> intro hc <;> try exact wX hc) | (intro c hc; (try (simp only [AH.zA] at hc; repeat (have hn := hc.1; replace hc := hc.2)))))) <;> (try (conv => whnf))
   refine AWq.drawF mo ([41], [35]) (fun G' => G' d = some (.row [.int .u64 lw, .int .u64 υ.W, .fn (.func 130) [] [.ptr ic 0 0, .ptr bc 0 0]] 0)) hud (by decide +kernel) ?_
   (repeat' ((conv => whnf); first | refine Then.mk ?_ | left | refine zg ?_ (hnx) | refine zgg ?_ (hnx) | refine zd ?_ | (refine Both.mk ?_ ?_ <;> intro hc <;> try exact wX hc) | (intro c hc; (try (simp only [AH.zA] at hc; repeat (have hn := hc.1; replace hc := hc.2)))) | (refine ACall.to (hnx) ?_))) <;> (try (conv => whnf))
   refine ⟨.int .u64 lw, ?_, ?_, ?_⟩
   ·(repeat' ((conv => whnf); first | refine Then.mk ?_ | left | refine zd ?_ | (refine Both.mk ?_ ?_ <;> intro hc <;> try exact wX hc) | (intro c hc; (try (simp only [AH.zA] at hc; repeat (have hn := hc.1; replace hc := hc.2)))))) <;> (try (conv => whnf))
   ·intro G' hG'
    have hG' : G' d = some (.row [.int .u64 lw, .int .u64 υ.W, .fn (.func 130) [] [.ptr ic 0 0, .ptr bc 0 0]] 0) := hG'
    (repeat' ((conv => whnf); first | refine Then.mk ?_ | left | refine zd ?_ | (refine Both.mk ?_ ?_ <;> intro hc <;> try exact wX hc) | (intro c hc; (try (simp only [AH.zA] at hc; repeat (have hn := hc.1; replace hc := hc.2)))))) <;> (try (conv => whnf))
   (repeat' ((conv => whnf); first | refine Then.mk ?_ | left | refine zg ?_ (hnx) | refine zgg ?_ (hnx) | refine zd ?_ | (refine Both.mk ?_ ?_ <;> intro hc <;> try exact wX hc) | (intro c hc; (try (simp only [AH.zA] at hc; repeat (have hn := hc.1; replace hc := hc.2)))) | (refine ACall.to (hnx) ?_))) <;> (try (conv => whnf))
   refine And.intro (show _ = _ from ?_) ?_
   ·rw [AH.zR _ _ n1]; exact hud
   (repeat' ((conv => whnf); first | refine Then.mk ?_ | left | refine zd ?_ | (refine Both.mk ?_ ?_ <;> intro hc <;> try exact wX hc) | (intro c hc; (try (simp only [AH.zA] at hc; repeat (have hn := hc.1; replace hc := hc.2)))))) <;> (try (conv => whnf))
   refine ⟨(f - 1, ⟨υ.V * 256, υ.W * 256, υ.L + 1⟩), ⟨?_, ?_, ?_, ?_, g5'⟩, ?_, trivial, HLe.of_eq ?_⟩
   ·dsimp only; rw [← hsf]; exact g1
   ·show 16777216 ≤ υ.W * 256 * 256 ^ (f - 1)
    rw [Nat.mul_assoc, ← Nat.pow_succ', show (f - 1).succ = f by omega]; exact g2
   ·show υ.W * 256 ≤ 4294967296
    omega
   ·show υ.L + 1 + (f - 1) ≤ _
    omega
   ·show f - 1 < f
    omega
   ·refine (hset _).symm.trans ?_
    unfold rdG
    rw [hsm]
    exact (AH.zS _ _ _ _).symm
  ·rw [← g1, shf_done (by omega)]
   unfold rdRow at hud
   generalize hG : rdG H d ic bc b υ = G at *
   (repeat' ((conv => whnf); first | refine Then.mk ?_ | left | refine zd ?_ | (refine Both.mk ?_ ?_ <;> intro hc <;> try exact wX hc) | (intro c hc; (try (simp only [AH.zA] at hc; repeat (have hn := hc.1; replace hc := hc.2)))))) <;> (try (conv => whnf))
open Go.Fw Go
set_option maxRecDepth 8000 in
theorem k_read_c (b : List UInt8) (hbl : b.length ≤ 1000000000000) (H : AH) :
  ACall Tryz.prog 104 [.cs (u8s b) b.length] H (fun y H' => ∃ d ic bc, H d = none ∧ H ic = none ∧ H bc = none ∧ y = .ptr d 0 0 ∧ RdAt H' d ic bc b cs0 ∧ HLe H H') := by
 refine zQ zU (dok _) Tryz.func104 rfl (by decide) rfl ?_
 (repeat' ((conv => whnf); first | refine Then.mk ?_ | left | refine zd ?_ | (refine Both.mk ?_ ?_ <;> intro hc <;> try exact wX hc) | (intro c hc; (try (simp only [AH.zA] at hc; repeat (have hn := hc.1; replace hc := hc.2)))))) <;> (try (conv => whnf))
 rename_i bc hbc ic nib hic ndi ndi2
 have hdi : c ≠ ic := by assumption
 have hdb : c ≠ bc := by assumption
 have hid := Ne.symm hdi
 have hbd := Ne.symm hdb
 have hbi := Ne.symm nib
 have hrd : ∀ k, RdAt ((AH.set (AH.set H bc (.row [.cs (u8s b) b.length] 0)) ic (.row [.int .i64 (k : Nat)] 0)).set c (rdRow (bv b k) 4294967296 ic bc)) c ic bc b ⟨0, 4294967296, 0⟩ ∨ k ≠ 4 := fun k => by
  by_cases hk : k = 4
  ·subst hk
   left
   refine ⟨AH.zC _ _ _, ?_, ?_, hdi, hdb, nib⟩
   ·rw [AH.zR _ _ hid, AH.zC]
   ·rw [AH.zR _ _ hbd, AH.zR _ _ hbi, AH.zC]
  ·right; exact hk
 refine zT (σ := Nat) (12 :: 13 :: 14 :: 15 :: 16 :: 17 :: 18 :: 19 :: 20 :: 21 :: 22 :: 23 :: 24 :: 25 :: 26 :: 27 :: 28 :: 29 :: 30 :: []) (fun k => [(12, .int .i64 k)]) (fun k => ((AH.set (AH.set H bc (.row [.cs (u8s b) b.length] 0)) ic (.row [.int .i64 (k : Nat)] 0)).set c (rdRow (bv b k) 4294967296 ic bc))) (fun k => k ≤ 4) (fun k => 4 - k) 0 rfl (by decide) ⟨rfl, trivial⟩ ?_ ?_
 ·refine HLe.of_eq ?_
  refine Eq.symm ((AH.zS _ _ _ _).trans ?_)
  exact congrArg (fun G => AH.set G c _) (AH.zS _ _ _ _)
 ·intro k hk
  refine AWp.of zU (dok _) rfl ?_
  have hui : ((AH.set (AH.set H bc (.row [.cs (u8s b) b.length] 0)) ic (.row [.int .i64 (k : Nat)] 0)).set c (rdRow (bv b k) 4294967296 ic bc)) ic = some (.row [.int .i64 k] 0) := by rw [AH.zR _ _ hid, AH.zC]
  have hub : ((AH.set (AH.set H bc (.row [.cs (u8s b) b.length] 0)) ic (.row [.int .i64 (k : Nat)] 0)).set c (rdRow (bv b k) 4294967296 ic bc)) bc = some (.row [.cs (u8s b) b.length] 0) := by rw [AH.zR _ _ hbd, AH.zR _ _ hbi, AH.zC]
  have hud : ((AH.set (AH.set H bc (.row [.cs (u8s b) b.length] 0)) ic (.row [.int .i64 (k : Nat)] 0)).set c (rdRow (bv b k) 4294967296 ic bc)) c = some (rdRow (bv b k) 4294967296 ic bc) := AH.zC _ _ _
  by_cases hk4 : k < 4
  ·have hnx := k_next_c hui hub nib (by omega) hbl
   have hbb : bv b k < 16777216 := Nat.lt_of_lt_of_le (bv_lt b k) (by
    have : 256 ^ k ≤ 256 ^ 3 := Nat.pow_le_pow_right (by decide) (by omega)
    exact this)
   have hbs : bv b (k + 1) = bv b k * 256 + (b.getD k 0).toNat := rfl
   have hy : (b.getD k 0).toNat < 256 := (b.getD k 0).toNat_lt
   have hset : ∀ low, (((((AH.set (AH.set H bc (.row [.cs (u8s b) b.length] 0)) ic (.row [.int .i64 (k : Nat)] 0)).set c (rdRow (bv b k) 4294967296 ic bc))).set ic (.row [.int .i64 (k + 1 : Nat)] 0)).set c (rdRow low 4294967296 ic bc)) = ((AH.set (AH.set H bc (.row [.cs (u8s b) b.length] 0)) ic (.row [.int .i64 (k + 1 : Nat)] 0)).set c (rdRow low 4294967296 ic bc)) := fun low => by
    rw [AH.set_back _ hid, AH.zS]
   generalize ((AH.set (AH.set H bc (.row [.cs (u8s b) b.length] 0)) ic (.row [.int .i64 (k : Nat)] 0)).set c (rdRow (bv b k) 4294967296 ic bc)) = G at *
   unfold rdRow at hud
   generalize (b.getD k 0).toNat = y at *
   generalize bv b k = lw at *
   have s3 : IntKind.u64.wrap ((lw : Int) * 2 ^ min (Int.toNat 8) IntKind.u64.bits) = (lw * 256 : Nat) := by
    rw [show (2 : Int) ^ min (Int.toNat 8) IntKind.u64.bits = 256 by decide, wrap_u64']; omega
   have s4 : IntKind.u64.wrap (((lw * 256 : Nat) : Int) + y) = (lw * 256 + y : Nat) := by rw [wrap_u64']; omega
   (repeat' ((conv => whnf); first | refine Then.mk ?_ | left | refine zs ?_ | (refine Both.mk ?_ ?_ <;> intro hc <;> try exact wX hc) | (intro c hc; (try (simp only [AH.zA] at hc; repeat (have hn := hc.1; replace hc := hc.2)))))) <;> (try (conv => whnf))
   refine AWq.drawF mo ([25], [19]) (fun G' => G' c = some (.row [.int .u64 lw, .int .u64 4294967296, .fn (.func 130) [] [.ptr ic 0 0, .ptr bc 0 0]] 0)) hud (by decide +kernel) ?_
   (repeat' ((conv => whnf); first | refine Then.mk ?_ | left | refine zg ?_ (hnx) | refine zgg ?_ (hnx) | refine zd ?_ | (refine Both.mk ?_ ?_ <;> intro hc <;> try exact wX hc) | (intro c hc; (try (simp only [AH.zA] at hc; repeat (have hn := hc.1; replace hc := hc.2)))) | (refine ACall.to (hnx) ?_))) <;> (try (conv => whnf))
   refine ⟨.int .u64 lw, ?_, ?_, ?_⟩
   ·(repeat' ((conv => whnf); first | refine Then.mk ?_ | left | refine zd ?_ | (refine Both.mk ?_ ?_ <;> intro hc <;> try exact wX hc) | (intro c hc; (try (simp only [AH.zA] at hc; repeat (have hn := hc.1; replace hc := hc.2)))))) <;> (try (conv => whnf))
   ·intro G' hG'
    have hG' : G' c = some (.row [.int .u64 lw, .int .u64 4294967296, .fn (.func 130) [] [.ptr ic 0 0, .ptr bc 0 0]] 0) := hG'
    (repeat' ((conv => whnf); first | refine Then.mk ?_ | left | refine zd ?_ | (refine Both.mk ?_ ?_ <;> intro hc <;> try exact wX hc) | (intro c hc; (try (simp only [AH.zA] at hc; repeat (have hn := hc.1; replace hc := hc.2)))))) <;> (try (conv => whnf))
   (repeat' ((conv => whnf); first | refine Then.mk ?_ | left | refine zg ?_ (hnx) | refine zgg ?_ (hnx) | refine zd ?_ | (refine Both.mk ?_ ?_ <;> intro hc <;> try exact wX hc) | (intro c hc; (try (simp only [AH.zA] at hc; repeat (have hn := hc.1; replace hc := hc.2)))) | (refine ACall.to (hnx) ?_))) <;> (try (conv => whnf))
   refine And.intro (show _ = _ from ?_) ?_
   ·rw [AH.zR _ _ hdi]; exact hud
   (repeat' ((conv => whnf); first | refine Then.mk ?_ | left | refine zd ?_ | (refine Both.mk ?_ ?_ <;> intro hc <;> try exact wX hc) | (intro c hc; (try (simp only [AH.zA] at hc; repeat (have hn := hc.1; replace hc := hc.2)))))) <;> (try (conv => whnf))
   refine ⟨k + 1, by omega, by omega, ⟨congrArg (AV.int .i64) (by omega), trivial⟩, HLe.of_eq ?_⟩
   dsimp only
   rw [hbs, ← hset]
   rfl
  ·have hk4 : k = 4 := by omega
   subst hk4
   have hrd4 := (hrd 4).resolve_right (by simp)
   generalize hG : ((AH.set (AH.set H bc (.row [.cs (u8s b) b.length] 0)) ic (.row [.int .i64 (4 : Nat)] 0)).set c (rdRow (bv b 4) 4294967296 ic bc)) = G at *
   (repeat' ((conv => whnf); first | refine Then.mk ?_ | left | refine zd ?_ | (refine Both.mk ?_ ?_ <;> intro hc <;> try exact wX hc) | (intro c hc; (try (simp only [AH.zA] at hc; repeat (have hn := hc.1; replace hc := hc.2)))))) <;> (try (conv => whnf))
   refine ⟨c, ic, bc, by assumption, hic, hbc, rfl, hrd4, ?_⟩
   rw [← hG]
   exact HLe.set_of _ _ (HLe.set_of _ _ (HLe.fresh _ hbc) hic) (by assumption)
set_option maxRecDepth 8000 in
theorem rsymbol_c {G : AH} {d ic bc p q n : Nat} {b : List UInt8} {σ : Cs} {c : Nat → Nat} (h : RdAt G d ic bc b σ) (hm : MdAt G p q n c) (hr : RdOk b σ) (hc : CsOk σ) (hL : σ.L ≤ 1000000000) (hbl : b.length ≤ 1000000000000)
  (h1 : p ≠ d) (h2 : p ≠ ic) (h3 : q ≠ d) (h4 : q ≠ ic) (hat : atR b σ (plc c n) < plc c n) {s : Nat} (hs : s = fnd c (atR b σ (plc c n)) n) :
  ACall Tryz.prog 105 [.ptr d 0 0, .ptr p 0 0] G (fun y H' => y = .tup [.int .i64 s, .bool true] ∧ H' = mdH (rdG G d ic bc b (stp σ (plc c s) (c s) (plc c n))) p q n (seeM n c s)) := by
 have hn : 1 ≤ n := by
  cases n with
  | zero => simp [plc] at hat
  | succ n => omega
 obtain ⟨f1, f2, f3⟩ := fnd_ok hat
 rw [← hs] at f1 f2 f3
 have ht := hm.ok.tot f1
 have hts := hm.ok.sum
 have hac := at_c h hr hc (plc c n) ht hts
 rw [decide_eq_true hat, Nat.min_eq_left (Nat.le_of_lt hat)] at hac
 have hst : StOk (plc c s) (c s) (plc c n) := ⟨hm.ok.pos s f1, plc_one f1, hts⟩
 have hstep := k_rstep_c h hr hc hst f2 f3 hL hbl
 have hsee := see_c (hm.same (G := rdG G d ic bc b (stp σ (plc c s) (c s) (plc c n))) (rdG_ne h1 h2) (rdG_ne h3 h4)) s f1
 have hmp := hm.hp
 have hmq := hm.hq
 have hle := fun k hk => hm.ok.le (k := k) hk
 have hcell := fun k (hk : k < n) => iL_gi (fun k => (c k : Int)) hk
 have hlen : (iL n fun k => (c k : Int)).length = n := iL_len _ _
 generalize (iL n fun k => (c k : Int)) = cells at *
 have hpls : ∀ k, k ≤ n → plc c k ≤ plc c n := fun k hk => plc_le hk
 obtain ⟨A, hA⟩ : ∃ A, A = atR b σ (plc c n) := ⟨_, rfl⟩
 rw [← hA] at hac hat f2 f3
 obtain ⟨T, hT⟩ : ∃ T, T = plc c n := ⟨_, rfl⟩
 rw [← hT] at hmp hstep hsee hts hac ht hat hpls hst ⊢
 have hmn := hm.ok.hn
 refine zQ zU (dok _) Tryz.func105 rfl (by decide) rfl ?_
 (repeat' ((conv => whnf); first | refine Then.mk ?_ | left | refine zg ?_ (hac) | refine zgg ?_ (hac) | refine zd ?_ | (refine Both.mk ?_ ?_ <;> intro hc <;> try exact wX hc) | (intro c hc; (try (simp only [AH.zA] at hc; repeat (have hn := hc.1; replace hc := hc.2)))) | (refine ACall.to (hac) ?_))) <;> (try (conv => whnf))
 refine zT (σ := Nat) (8 :: 9 :: 10 :: 11 :: 28 :: 29 :: 30 :: 31 :: 32 :: 33 :: 34 :: 35 :: 36 :: 37 :: 38 :: 39 :: 40 :: 41 :: 42 :: []) (fun i => [(28, .int .i64 i), (8, .int .i64 (plc c i : Nat)), (9, .int .i64 0)]) (fun i => G) (fun i => i ≤ s) (fun i => s - i) 0 rfl (Nat.zero_le _) ⟨rfl, rfl, rfl, trivial⟩ (HLe.refl _) ?_
 intro i hi
 refine AWp.of zU (dok _) rfl ?_
 dsimp only at hi ⊢
 have hg := hcell i (by omega)
 have hci := hle i (by omega)
 have hpi := hpls i (by omega)
 have hps : plc c (i + 1) = plc c i + c i := rfl
 by_cases his : i = s
 ·subst his
  rw [hps] at f3
  have hstep' := hstep
  generalize hp0 : plc c i = p0 at *
  generalize hc0 : c i = c0 at *
  (repeat' ((conv => whnf); first | refine AWq.drawM ([56], []) (by decide +kernel) ?_ | refine Then.mk ?_ | left | refine zg ?_ (hstep) | refine zg ?_ (hsee) | refine zgg ?_ (hstep) | refine zgg ?_ (hsee) | refine zd ?_ | (refine Both.mk ?_ ?_ <;> intro hc <;> try exact wX hc) | (intro c hc; (try (simp only [AH.zA] at hc; repeat (have hn := hc.1; replace hc := hc.2)))) | (refine ACall.to (hstep) ?_) | (refine ACall.to (hsee) ?_))) <;> (try (conv => whnf))
 ·have hlt : plc c (i + 1) ≤ A := Nat.le_trans (plc_le (by omega)) f2
  have hA' : ¬ A < plc c i + c i := by rw [← hps]; omega
  generalize plc c i = p0 at *
  generalize c i = c0 at *
  (repeat' ((conv => whnf); first | refine Then.mk ?_ | left | refine zd ?_ | (refine Both.mk ?_ ?_ <;> intro hc <;> try exact wX hc) | (intro c hc; (try (simp only [AH.zA] at hc; repeat (have hn := hc.1; replace hc := hc.2)))))) <;> (try (conv => whnf))
  exact ⟨i + 1, by omega, by omega, ⟨congrArg (AV.int .i64) (by omega), congrArg (AV.int .i64) (by rw [hps]; omega), rfl, trivial⟩, HLe.refl _⟩
set_option maxRecDepth 8000 in
theorem rsymbol_bad {G : AH} {d ic bc p q n : Nat} {b : List UInt8} {σ : Cs} {c : Nat → Nat} (h : RdAt G d ic bc b σ) (hm : MdAt G p q n c) (hr : RdOk b σ) (hc : CsOk σ) (hn : 1 ≤ n) (hat : ¬ atR b σ (plc c n) < plc c n) :
  ACall Tryz.prog 105 [.ptr d 0 0, .ptr p 0 0] G (fun y H' => y = .tup [.int .i64 0, .bool false] ∧ H' = G) := by
 have ht := hm.ok.tot (s := 0) hn
 have hts := hm.ok.sum
 have hac := at_c h hr hc (plc c n) ht hts
 rw [decide_eq_false hat] at hac
 have hp := hm.hp
 refine zQ zU (dok _) Tryz.func105 rfl (by decide) rfl ?_
 (repeat' ((conv => whnf); first | refine Then.mk ?_ | left | refine zg ?_ (hac) | refine zgg ?_ (hac) | refine zd ?_ | (refine Both.mk ?_ ?_ <;> intro hc <;> try exact wX hc) | (intro c hc; (try (simp only [AH.zA] at hc; repeat (have hn := hc.1; replace hc := hc.2)))) | (refine ACall.to (hac) ?_))) <;> (try (conv => whnf))
open Go.Fw Go
set_option maxRecDepth 8000 in
theorem equal_c (a b : List UInt8) (hb : b.length ≤ 1000000000000) (H : AH) :
  ACall Tryz.prog 109 [.cs (u8s a) a.length, .cs (u8s b) b.length] H (fun y H' => y = .bool (decide (a = b)) ∧ H' = H) := by
 have hul : (u8s a).length = a.length := by simp
 have hvl : (u8s b).length = b.length := by simp
 by_cases hl : a.length = b.length
 ·refine zQ zU (dok _) Tryz.func109 rfl (by decide) rfl ?_
  (repeat' ((conv => whnf); first | refine Then.mk ?_ | left | refine zd ?_ | (refine Both.mk ?_ ?_ <;> intro hc <;> try exact wX hc) | (intro c hc; (try (simp only [AH.zA] at hc; repeat (have hn := hc.1; replace hc := hc.2)))))) <;> (try (conv => whnf))
  refine zT (σ := Nat) (4 :: 5 :: 13 :: 14 :: 15 :: 16 :: 17 :: 18 :: 19 :: 20 :: 21 :: 22 :: 23 :: 24 :: 25 :: []) (fun i => [(13, .int .i64 i)]) (fun i => H) (fun i => i ≤ a.length ∧ ∀ j, j < i → a.getD j 0 = b.getD j 0) (fun i => a.length - i) 0 rfl ⟨Nat.zero_le _, fun j hj => absurd hj (by omega)⟩ ⟨rfl, trivial⟩ (HLe.refl _) ?_
  rintro i ⟨h1, h2⟩
  refine AWp.of zU (dok _) rfl ?_
  dsimp only at h1 h2 ⊢
  by_cases hi : i < a.length
  ·have g1 : (u8s a)[(i : Int).toNat]? = some (.int .u8 (a.getD i 0).toNat) := u8s_get hi
   have g2 : (u8s b)[(i : Int).toNat]? = some (.int .u8 (b.getD i 0).toNat) := u8s_get (by rw [Int.toNat_natCast]; omega)
   by_cases he : a.getD i 0 = b.getD i 0
   ·have h3 : ∀ j, j < i + 1 → a.getD j 0 = b.getD j 0 := fun j hj => by
     by_cases e : j = i
     ·rw [e]; exact he
     ·exact h2 j (by omega)
    rw [← he] at g2
    generalize ((a.getD i 0).toNat : Int) = x at *
    (repeat' ((conv => whnf); first | refine Then.mk ?_ | left | refine zd ?_ | (refine Both.mk ?_ ?_ <;> intro hc <;> try exact wX hc) | (intro c hc; (try (simp only [AH.zA] at hc; repeat (have hn := hc.1; replace hc := hc.2)))))) <;> (try (conv => whnf))
    exact ⟨i + 1, ⟨hi, h3⟩, by omega, ⟨congrArg (AV.int .i64) (by omega), trivial⟩, HLe.refl _⟩
   ·have hx : ¬ ((a.getD i 0).toNat : Int) = ((b.getD i 0).toNat : Int) := fun e => he (UInt8.toNat_inj.1 (by omega))
    have hd : decide (a = b) = false := decide_eq_false fun e => he (by rw [e])
    rw [hd]
    generalize ((a.getD i 0).toNat : Int) = x at *
    generalize ((b.getD i 0).toNat : Int) = z at *
    (repeat' ((conv => whnf); first | refine Then.mk ?_ | left | refine zd ?_ | (refine Both.mk ?_ ?_ <;> intro hc <;> try exact wX hc) | (intro c hc; (try (simp only [AH.zA] at hc; repeat (have hn := hc.1; replace hc := hc.2)))))) <;> (try (conv => whnf))
  ·have hd : decide (a = b) = true := decide_eq_true (List.ext_getElem? fun j => by
    by_cases hj : j < a.length
    ·have := h2 j (by omega)
     rw [List.getD_eq_getElem?_getD, List.getD_eq_getElem?_getD, List.getElem?_eq_getElem hj, List.getElem?_eq_getElem (by omega : j < b.length)] at this
     rw [List.getElem?_eq_getElem hj, List.getElem?_eq_getElem (by omega : j < b.length)]
     exact congrArg some this
    ·rw [List.getElem?_eq_none (by omega), List.getElem?_eq_none (by omega)])
   rw [hd]
   (repeat' ((conv => whnf); first | refine Then.mk ?_ | left | refine zd ?_ | (refine Both.mk ?_ ?_ <;> intro hc <;> try exact wX hc) | (intro c hc; (try (simp only [AH.zA] at hc; repeat (have hn := hc.1; replace hc := hc.2)))))) <;> (try (conv => whnf))
 ·have hd : decide (a = b) = false := decide_eq_false fun e => hl (by rw [e])
  rw [hd]
  refine zQ zU (dok _) Tryz.func109 rfl (by decide) rfl ?_
  (repeat' ((conv => whnf); first | refine Then.mk ?_ | left | refine zd ?_ | (refine Both.mk ?_ ?_ <;> intro hc <;> try exact wX hc) | (intro c hc; (try (simp only [AH.zA] at hc; repeat (have hn := hc.1; replace hc := hc.2)))))) <;> (try (conv => whnf))
structure DcAt (H G : AH) (P Q : Nat → Nat) (d ic bc m n : Nat) (b : List UInt8) (E : Es) : Prop where
 mods : Mods G P Q m n E.M
 rd : RdAt G d ic bc b E.σ
 dj : ∀ k, k < m → (P k ≠ d ∧ P k ≠ ic ∧ P k ≠ bc) ∧ (Q k ≠ d ∧ Q k ≠ ic ∧ Q k ≠ bc)
 le : HLe H G
 new : ∀ k, k < m → H (P k) = none ∧ H (Q k) = none
 hd : H d = none
 hi : H ic = none
theorem le_rdG {H G : AH} {d ic bc : Nat} {b : List UInt8} {σ : Cs} (h : HLe H G) (hp : H d = none) (hq : H ic = none) : HLe H (rdG G d ic bc b σ) := HLe.set_of _ _ (HLe.set_of _ _ h hq) hp
theorem DcAt.step {H G : AH} {P Q : Nat → Nat} {d ic bc m n : Nat} {b : List UInt8} {E : Es} (h : DcAt H G P Q d ic bc m n b E) (σ : Cs) : DcAt H (rdG G d ic bc b σ) P Q d ic bc m n b ⟨E.M, σ⟩ := by
 refine ⟨h.mods.same fun k hk => ?_, h.rd.set σ, h.dj, le_rdG h.le h.hd h.hi, h.new, h.hd, h.hi⟩
 obtain ⟨⟨a1, a2, a3⟩, a4, a5, a6⟩ := h.dj k hk
 exact ⟨rdG_ne a1 a2, rdG_ne a4 a5⟩
def deG (G : AH) (P Q : Nat → Nat) (d ic bc n : Nat) (b : List UInt8) (E : Es) (k s : Nat) : AH := mdH (rdG G d ic bc b (symE n E k s).σ) (P k) (Q k) n (seeM n (E.M k) s)
theorem RdAt.same {G G' : AH} {d ic bc : Nat} {b : List UInt8} {σ : Cs} (h : RdAt G d ic bc b σ) (h1 : G' d = G d) (h2 : G' ic = G ic) (h3 : G' bc = G bc) : RdAt G' d ic bc b σ :=
 ⟨by rw [h1]; exact h.hd, by rw [h2]; exact h.hi, by rw [h3]; exact h.hb, h.n1, h.n2, h.n3⟩
theorem DcAt.sym {H G : AH} {P Q : Nat → Nat} {d ic bc m n : Nat} {b : List UInt8} {E : Es} (h : DcAt H G P Q d ic bc m n b E) {k s : Nat} (hk : k < m) (hs : s < n) : DcAt H (deG G P Q d ic bc n b E k s) P Q d ic bc m n b (symE n E k s) := by
 have h1 := h.step (symE n E k s).σ
 obtain ⟨⟨a1, a2, a3⟩, a4, a5, a6⟩ := h.dj k hk
 exact ⟨h1.mods.set hk ((h.mods.md k hk).ok.see hs), h1.rd.same (mdH_ne (Ne.symm a1) (Ne.symm a4)) (mdH_ne (Ne.symm a2) (Ne.symm a5)) (mdH_ne (Ne.symm a3) (Ne.symm a6)), h.dj, le_mdH h1.le (h.new k hk).1 (h.new k hk).2, h.new, h.hd, h.hi⟩
theorem DcAt.symbol {H G : AH} {P Q : Nat → Nat} {d ic bc m n : Nat} {b : List UInt8} {E : Es} (h : DcAt H G P Q d ic bc m n b E) (hE : EsOk n E) (hr : RdOk b E.σ) (hL : E.σ.L ≤ 1000000000) (hbl : b.length ≤ 1000000000000) {k : Nat} (hk : k < m) {s : Nat} {E' : Es} (hs : decSym n b E k = some (s, E')) :
  ACall Tryz.prog 105 [.ptr d 0 0, .ptr (P k) 0 0] G (fun y H' => y = .tup [.int .i64 s, .bool true] ∧ H' = deG G P Q d ic bc n b E k s) := by
 obtain ⟨⟨a1, a2, a3⟩, a4, a5, a6⟩ := h.dj k hk
 unfold decSym at hs
 split at hs
 ·rename_i hlt
  have := Option.some.inj hs
  have e1 := congrArg Prod.fst this
  dsimp only at e1
  exact rsymbol_c h.rd (h.mods.md k hk) hr hE.cs hL hbl a1 a2 a4 a5 hlt e1.symm
 ·cases hs
theorem DcAt.symbol_bad {H G : AH} {P Q : Nat → Nat} {d ic bc m n : Nat} {b : List UInt8} {E : Es} (h : DcAt H G P Q d ic bc m n b E) (hE : EsOk n E) (hr : RdOk b E.σ) (hn : 1 ≤ n) {k : Nat} (hk : k < m) (hs : decSym n b E k = none) :
  ACall Tryz.prog 105 [.ptr d 0 0, .ptr (P k) 0 0] G (fun y H' => y = .tup [.int .i64 0, .bool false] ∧ H' = G) := by
 unfold decSym at hs
 split at hs
 ·cases hs
 ·rename_i hlt
  exact rsymbol_bad h.rd (h.mods.md k hk) hr hE.cs hn hlt
theorem DcAt.same {H G G' : AH} {P Q : Nat → Nat} {d ic bc m n : Nat} {b : List UInt8} {E : Es} (h : DcAt H G P Q d ic bc m n b E) (hs : ∀ a, (∃ k, k < m ∧ (a = P k ∨ a = Q k)) ∨ a = d ∨ a = ic ∨ a = bc → G' a = G a) (hle : HLe H G') : DcAt H G' P Q d ic bc m n b E :=
 ⟨h.mods.same fun k hk => ⟨hs _ (.inl ⟨k, hk, .inl rfl⟩), hs _ (.inl ⟨k, hk, .inr rfl⟩)⟩, h.rd.same (hs _ (.inr (.inl rfl))) (hs _ (.inr (.inr (.inl rfl)))) (hs _ (.inr (.inr (.inr rfl)))), h.dj, hle, h.new, h.hd, h.hi⟩
def Far (P Q : Nat → Nat) (d ic bc m : Nat) (r : Nat) : Prop := (∀ k, k < m → r ≠ P k ∧ r ≠ Q k) ∧ r ≠ d ∧ r ≠ ic ∧ r ≠ bc
theorem DcAt.far {H G : AH} {P Q : Nat → Nat} {d ic bc m n : Nat} {b : List UInt8} {E : Es} (h : DcAt H G P Q d ic bc m n b E) {r : Nat} (hr : G r = none) : Far P Q d ic bc m r :=
 ⟨fun k hk => ⟨Ne.symm (h.mods.fresh hr hk).1, Ne.symm (h.mods.fresh hr hk).2⟩, AH.ne_none' hr h.rd.hd, AH.ne_none' hr h.rd.hi, AH.ne_none' hr h.rd.hb⟩
theorem Far.ne {P Q : Nat → Nat} {d ic bc m r a : Nat} (h : Far P Q d ic bc m r) (ha : (∃ k, k < m ∧ (a = P k ∨ a = Q k)) ∨ a = d ∨ a = ic ∨ a = bc) : a ≠ r := by
 rcases ha with ⟨k, hk, rfl | rfl⟩ | rfl | rfl | rfl
 ·exact Ne.symm (h.1 k hk).1
 ·exact Ne.symm (h.1 k hk).2
 ·exact Ne.symm h.2.1
 ·exact Ne.symm h.2.2.1
 ·exact Ne.symm h.2.2.2
theorem Far.deG {G : AH} {P Q : Nat → Nat} {d ic bc m n r : Nat} {b : List UInt8} {E : Es} (h : Far P Q d ic bc m r) {k s : Nat} (hk : k < m) : deG G P Q d ic bc n b E k s r = G r := by
 unfold Go.Proofs.YtgpfmojlgejnhaaGreat.deG
 rw [mdH_ne (h.1 k hk).1 (h.1 k hk).2, rdG_ne h.2.1 h.2.2.1]
def resI (x : List Int × Int) : AV := .tup [.cs (iS .i64 x.1) x.1.length, .int .i64 x.2]
theorem AVle.errI {e : Int} : AVle (.tup [.nils, .int .i64 e]) (resI ([], e)) := AVle.tup (AVles.cons AVle.nils (AVles.cons (AVle.refl _) AVles.nil))
open Go.Fw Go
theorem I64L.of {l : List Int} {n : Nat} (h : ∀ x ∈ l, 0 ≤ x ∧ x < (n : Int)) (hn : n ≤ 1000000) : I64L l := fun x hx => by have := h x hx; omega
open Go.Fw Go
set_option maxRecDepth 8000 in
theorem unfold_c (z : Nat) (hz : z < 2 ^ 64) (H : AH) : ACall Tryz.prog 108 [.int .u64 z] H (fun y H' => y = .int .i64 (unfold' z) ∧ H' = H) := by
 have h64 : (2 : Nat) ^ 64 = 18446744073709551616 := by decide
 refine zQ zU (dok _) Tryz.func108 rfl (by decide) rfl ?_
 (repeat' ((conv => whnf); first | refine Then.mk ?_ | left | refine zd ?_ | (refine Both.mk ?_ ?_ <;> intro hc <;> try exact wX hc) | (intro c hc; (try (simp only [AH.zA] at hc; repeat (have hn := hc.1; replace hc := hc.2)))))) <;> (try (conv => whnf))
 refine ⟨congrArg (AV.int .i64) ?_, rfl⟩
 have e1 : (z : Int).fdiv (2 ^ min (Int.toNat 1) IntKind.u64.bits) = ((z / 2 : Nat) : Int) := by
  rw [show (2 : Int) ^ min (Int.toNat 1) IntKind.u64.bits = 2 by decide, Int.fdiv_eq_ediv_of_nonneg _ (by omega)]
  omega
 have e2 : bitsA .and .u64 (z : Int) 1 = ((z % 2 : Nat) : Int) := and_one z (by omega)
 have e3 : IntKind.i64.wrap ((z / 2 : Nat) : Int) = ((z / 2 : Nat) : Int) := by rw [IntKind.wrap_i64]; omega
 rw [e1, e2, e3]
 show IntKind.i64.wrap ((BitVec.ofInt 64 ((z / 2 : Nat) : Int) ^^^ BitVec.ofInt 64 _).toNat : Int) = _
 have ha : (BitVec.ofInt 64 ((z / 2 : Nat) : Int)).toNat = z / 2 := by rw [BitVec.toNat_ofInt]; omega
 unfold unfold'
 by_cases h : z % 2 = 1
 ·rw [h, if_neg (by decide), show BitVec.ofInt 64 (IntKind.i64.wrap (0 - IntKind.i64.wrap ((1 : Nat) : Int))) = BitVec.allOnes 64 by decide, BitVec.xor_allOnes, BitVec.toNat_not, ha, IntKind.wrap_i64]
  omega
 ·have h0 : z % 2 = 0 := by omega
  rw [h0, if_pos rfl, show BitVec.ofInt 64 (IntKind.i64.wrap (0 - IntKind.i64.wrap ((0 : Nat) : Int))) = 0#64 by decide, BitVec.xor_zero, ha, IntKind.wrap_i64]
  omega
theorem rdSt_none {b : List UInt8} {i : Nat} (h : rdSt b i = none) : ∀ d, rdSt b (i + d) = none
 | 0 => h
 | d + 1 => by
  show (match rdSt b (i + d) with | none => none | some (I, out) => _) = none
  rw [rdSt_none h d]
theorem rdSt_succ {b : List UInt8} {i : Nat} {I : Is} {out : List Int} (h : rdSt b i = some (I, out)) : rdSt b (i + 1) = match rdInt b I with | none => none | some (u, I') => some (I', out ++ [unfold' u]) := by
 conv => lhs; unfold rdSt
 rw [h]
 rfl
theorem rdBits_succ {b : List UInt8} {k u : Nat} {σ : Cs} : rdBits b (k + 1) (u, σ) = if atR b σ 2 < 2 then rdBits b k (u * 2 + atR b σ 2, stp σ (atR b σ 2) 1 2) else none := rfl
structure RL (H G : AH) (P Q : Nat → Nat) (d ic bc r : Nat) (b : List UInt8) (i : Nat) (I : Is) (out : List Int) : Prop where
 dc : DcAt H G P Q d ic bc 65 65 b I.E
 st : rdSt b i = some (I, out)
 w : G r = some (.row (iS .i64 out) i)
structure BL (H G : AH) (P Q : Nat → Nat) (d ic bc r : Nat) (b : List UInt8) (i : Nat) (out : List Int) (s : Nat) (E : Es) (m k u : Nat) (τ : Cs) (f : Bool) : Prop where
 dc : DcAt H G P Q d ic bc 65 65 b ⟨E.M, τ⟩
 w : G r = some (.row (iS .i64 out) i)
 cs : CsOk τ
 rd : RdOk b τ
 len : τ.L ≤ E.σ.L + 2 * k
 k1 : 1 ≤ k
 k2 : k ≤ 65
 yes : f = true → (k + m = s ∨ s = 0 ∧ k = 1 ∧ m = 0) ∧ u < 2 ^ k ∧ rdBits b m (u, τ) = rdBits b (s - 1) (min s 1, E.σ)
 no : f = false → rdBits b (s - 1) (min s 1, E.σ) = none
set_option maxRecDepth 8000 in
theorem readInts_c (b : List UInt8) (hbl : b.length ≤ 1000000000000) (count : Int) (hct : -9223372036854775808 ≤ count ∧ count ≤ 9223372036854775807) (H : AH) :
  ACall Tryz.prog 78 [.cs (u8s b) b.length, .int .i64 count] H (fun y H' => y = resI (readS b count) ∧ H' = H) := by
 refine ACall.fin ?_
 by_cases hlim : 0 ≤ count ∧ count ≤ 65536
 ·obtain ⟨count, rfl⟩ : ∃ k : Nat, count = (k : Int) := ⟨count.toNat, by omega⟩
  refine zQ zU (dok _) Tryz.func78 rfl (by decide) rfl ?_
  (repeat' ((conv => whnf); first | refine Then.mk ?_ | left | refine zd ?_ | (refine Both.mk ?_ ?_ <;> intro hc <;> try exact wX hc) | (intro c hc; (try (simp only [AH.zA] at hc; repeat (have hn := hc.1; replace hc := hc.2)))))) <;> (try (conv => whnf))
  refine (alphabet_c 65 65 (by omega) (by omega) (by omega) (by omega) _).mono ?_
  rintro y H' ⟨P, Q, rfl, hmods, hle, hnew⟩
  have hpl : (psL P 65).length = 65 := psL_len _ _
  (repeat' ((conv => whnf); first | refine Then.mk ?_ | left | refine zd ?_ | (refine Both.mk ?_ ?_ <;> intro hc <;> try exact wX hc) | (intro c hc; (try (simp only [AH.zA] at hc; repeat (have hn := hc.1; replace hc := hc.2)))))) <;> (try (conv => whnf))
  refine (k_read_c b hbl _).mono ?_
  rintro y G ⟨d, ic, bc, hd, hi, hb, rfl, hrd, hle2⟩
  have hdc : DcAt H G P Q d ic bc 65 65 b es0 := by
   refine ⟨hmods.same fun k hk => ⟨?_, ?_⟩, hrd, fun k hk => ⟨⟨(hmods.fresh hd hk).1, (hmods.fresh hi hk).1, (hmods.fresh hb hk).1⟩, (hmods.fresh hd hk).2, (hmods.fresh hi hk).2, (hmods.fresh hb hk).2⟩, hle.trans hle2, hnew, HLe.none hle hd, HLe.none hle hi⟩
   ·rw [(hmods.md k hk).hp]; exact hle2.le _ _ (hmods.md k hk).hp
   ·rw [(hmods.md k hk).hq]; exact hle2.le _ _ (hmods.md k hk).hq
  (repeat' ((conv => whnf); first | left | refine zd ?_ | (refine Both.mk ?_ ?_ <;> intro hc <;> try exact wX hc) | (intro c hc; (try (simp only [AH.zA] at hc; repeat (have hn := hc.1; replace hc := hc.2)))))) <;> (try (conv => whnf))
  refine Then.mk ?_
  (repeat' ((conv => whnf); first | left | refine zd ?_ | (refine Both.mk ?_ ?_ <;> intro hc <;> try exact wX hc) | (intro c hc; (try (simp only [AH.zA] at hc; repeat (have hn := hc.1; replace hc := hc.2)))))) <;> (try (conv => whnf))
  refine Then.mk (AWq.in ?_)
  refine AWp_nilrow1 9 1 rfl rfl fun r hr => ?_
  have hf := hdc.far hr
  have hH1 := HLe.none hdc.le hr
  refine AWp.of zU (dok _) rfl ?_
  (repeat' ((conv => whnf); first | refine Then.mk ?_ | left | refine zd ?_ | (refine Both.mk ?_ ?_ <;> intro hc <;> try exact wX hc) | (intro c hc; (try (simp only [AH.zA] at hc; repeat (have hn := hc.1; replace hc := hc.2)))))) <;> (try (conv => whnf))
  refine zT (σ := AH × Nat × Is × List Int) (4 :: 5 :: 9 :: 10 :: 11 :: 12 :: 13 :: 14 :: 15 :: 31 :: 32 :: 33 :: 34 :: 35 :: 36 :: 37 :: 38 :: 39 :: 40 :: 41 :: 42 :: 43 :: 44 :: 45 :: 46 :: 47 :: 48 :: 49 :: 50 :: 51 :: 52 :: 53 :: 54 :: 55 :: 56 :: 57 :: 58 :: 59 :: 60 :: 61 :: 62 :: 63 :: 64 :: 65 :: 66 :: 67 :: 68 :: 69 :: 70 :: 71 :: 72 :: 73 :: 74 :: 75 :: []) (fun (G, i, I, out) => [(9, .sl r i 1 0 i none), (10, .int .i64 I.b), (31, .int .i64 i)]) (fun (G, i, I, out) => G) (fun (G, i, I, out) => i ≤ count ∧ RL H G P Q d ic bc r b i I out) (fun (G, i, I, out) => count - i) (_, 0, is0, []) rfl ?_ ?_ (HLe.refl _) ?_
  ·refine ⟨Nat.zero_le _, ⟨hdc.same (fun a ha => ?_) (HLe.set_of _ _ hdc.le hH1), rfl, AH.zC _ _ _⟩⟩
   rw [AH.zR _ _ (hf.ne ha)]
  ·exact ⟨rfl, rfl, rfl, trivial⟩
  ·clear hdc hr hrd hle2 hmods hle
   rintro ⟨G, i, I, out⟩ ⟨hi, hdc, hst, hw⟩
   dsimp only at hi hdc hst hw ⊢
   refine AWp.of zU (dok _) rfl ?_
   have hok := rdSt_ok hst
   have hl := hok.len
   have hL : I.E.σ.L ≤ 130 * 65536 := by
    have := intsI_L (out.map fold) (I := is0) (fold_all hok.bd) is0_ok
    rw [hok.run] at this
    have h0 : is0.E.σ.L = 0 := rfl
    rw [h0, List.length_map] at this
    omega
   have ho1 : (iS .i64 out).length = i := by simp [hl]
   have hb64 := hok.is.b
   by_cases hic : i < count
   ·have hnx := rdSt_succ hst
    have herr : rdSt b (i + 1) = none → readS b count = ([], 2) := fun he => by
     have := rdSt_none he (count - (i + 1))
     rw [show i + 1 + (count - (i + 1)) = count by omega] at this
     unfold readS
     rw [if_pos hlim, Int.toNat_natCast, this]
    have hgp : (psL P 65)[(I.b : Int).toNat]? = some (.ptr (P I.b) 0 0) := psL_get (by omega)
    cases hds : decSym 65 b I.E I.b with
    | none =>
     have hsym := hdc.symbol_bad hok.is.es hok.rd (by omega) (by omega) hds
     have hri : rdInt b I = none := by unfold rdInt; rw [hds]
     rw [hri] at hnx
     rw [herr hnx]
     have e1 : IntKind.u64.wrap 0 = 0 := by decide
     have e2 : min (0 : Int) 1 = 0 := by decide
     (repeat' ((conv => whnf); first | refine Then.mk ?_ | left | refine zg ?_ (hsym) | refine zgg ?_ (hsym) | refine zd ?_ | (refine Both.mk ?_ ?_ <;> intro hc <;> try exact wX hc) | (intro c hc; (try (simp only [AH.zA] at hc; repeat (have hn := hc.1; replace hc := hc.2)))) | (refine ACall.to (hsym) ?_))) <;> (try (conv => whnf))
     refine zT (σ := Unit) (12 :: 13 :: 14 :: 15 :: 45 :: 46 :: 47 :: 48 :: 49 :: 50 :: 51 :: 52 :: 53 :: 54 :: 55 :: 56 :: 57 :: 58 :: 59 :: 60 :: 61 :: 62 :: 63 :: 64 :: 65 :: 66 :: []) (fun _ => [(12, .bool false), (14, .int .i64 1)]) (fun _ => G) (fun _ => True) (fun _ => 0) () rfl trivial ⟨rfl, rfl, trivial⟩ (HLe.refl _) ?_
     rintro _ _
     refine AWp.of zU (dok _) rfl ?_
     dsimp only
     (repeat' ((conv => whnf); first | refine Then.mk ?_ | left | refine zd ?_ | (refine Both.mk ?_ ?_ <;> intro hc <;> try exact wX hc) | (intro c hc; (try (simp only [AH.zA] at hc; repeat (have hn := hc.1; replace hc := hc.2)))))) <;> (try (conv => whnf))
     exact ⟨AVle.errI, hdc.le⟩
    | some x =>
     obtain ⟨s, E'⟩ := x
     have hsym := hdc.symbol hok.is.es hok.rd (by omega) hbl (by omega) hds
     obtain ⟨hs1, hs2, hs3⟩ := decSym_ok hok.is.es hok.rd hds
     have hdc2 := hdc.sym (k := I.b) (by omega) hs1
     rw [← hs2] at hdc2
     have w1' : deG G P Q d ic bc 65 b I.E I.b s r = some (.row (iS .i64 out) i) := by rw [hf.deG (by omega)]; exact hw
     have hE' := hok.is.es.sym I.b hs1
     rw [← hs2] at hE'
     have hL2 : E'.σ.L ≤ I.E.σ.L + 2 := by rw [hs2]; exact stp_L hok.is.es.cs (hok.is.es.st I.b hs1)
     generalize deG G P Q d ic bc 65 b I.E I.b s = G2 at *
     have e1 : IntKind.u64.wrap (s : Int) = s := by rw [wrap_u64']; omega
     have e2 : min (s : Int) 1 = (min s 1 : Nat) := by omega
     (repeat' ((conv => whnf); first | refine Then.mk ?_ | left | refine zg ?_ (hsym) | refine zgg ?_ (hsym) | refine zd ?_ | (refine Both.mk ?_ ?_ <;> intro hc <;> try exact wX hc) | (intro c hc; (try (simp only [AH.zA] at hc; repeat (have hn := hc.1; replace hc := hc.2)))) | (refine ACall.to (hsym) ?_))) <;> (try (conv => whnf))
     have hri : rdInt b I = match rdBits b (s - 1) (min s 1, E'.σ) with | none => none | some (u, σ) => some (u, ⟨⟨E'.M, σ⟩, s⟩) := by
      conv => lhs; unfold rdInt
      rw [hds]
      rfl
     refine zT (σ := AH × Nat × Nat × Nat × Cs × Bool) (12 :: 13 :: 14 :: 15 :: 45 :: 46 :: 47 :: 48 :: 49 :: 50 :: 51 :: 52 :: 53 :: 54 :: 55 :: 56 :: 57 :: 58 :: 59 :: 60 :: 61 :: 62 :: 63 :: 64 :: 65 :: 66 :: []) (fun (G, m, k, u, τ, f) => [(12, .bool f), (13, .int .u64 u), (14, .int .i64 k)]) (fun (G, m, k, u, τ, f) => G) (fun (G, m, k, u, τ, f) => BL H G P Q d ic bc r b i out s E' m k u τ f) (fun (G, m, k, u, τ, f) => 66 - k) (G2, s - 1, 1, min s 1, E'.σ, true) rfl ?_ ⟨rfl, rfl, rfl, trivial⟩ (HLe.refl _) ?_
     ·refine ⟨hdc2, w1', hE'.cs, hs3, by omega, by omega, by omega, fun _ => ⟨by omega, by omega, rfl⟩, fun h => by cases h⟩
     ·rintro ⟨G3, m, k, u, τ, f⟩ ⟨c1, c2, c3, c4, c5, c6, c7, c8, c9⟩
      refine AWp.of zU (dok _) rfl ?_
      dsimp only at c1 c2 c3 c4 c5 c6 c7 c8 c9 ⊢
      cases f with
      | false =>
       have hb0 := c9 rfl
       rw [hb0] at hri
       rw [hri] at hnx
       rw [herr hnx]
       by_cases hks : k < s
       ·(repeat' ((conv => whnf); first | refine Then.mk ?_ | left | refine zd ?_ | (refine Both.mk ?_ ?_ <;> intro hc <;> try exact wX hc) | (intro c hc; (try (simp only [AH.zA] at hc; repeat (have hn := hc.1; replace hc := hc.2)))))) <;> (try (conv => whnf))
        exact ⟨AVle.errI, c1.le⟩
       ·(repeat' ((conv => whnf); first | refine Then.mk ?_ | left | refine zd ?_ | (refine Both.mk ?_ ?_ <;> intro hc <;> try exact wX hc) | (intro c hc; (try (simp only [AH.zA] at hc; repeat (have hn := hc.1; replace hc := hc.2)))))) <;> (try (conv => whnf))
        exact ⟨AVle.errI, c1.le⟩
      | true =>
       obtain ⟨d1, d2, d3⟩ := c8 rfl
       by_cases hks : k < s
       ·obtain ⟨m, rfl⟩ : ∃ m', m = m' + 1 := ⟨m - 1, by omega⟩
        have hat := at_c c1.rd c4 c3 2 (by decide) (by decide)
        rw [rdBits_succ] at d3
        have hat : ACall Tryz.prog 106 [.ptr d 0 0, .int .i64 2] G3 (fun y H' => y = .tup [.int .i64 (min (atR b τ 2) 2 : Nat), .bool (decide (atR b τ 2 < 2))] ∧ H' = G3) := hat
        by_cases hA : atR b τ 2 < 2
        ·rw [if_pos hA] at d3
         rw [decide_eq_true hA, Nat.min_eq_left (by omega)] at hat
         have hst2 : StOk (atR b τ 2) 1 2 := ⟨by omega, by omega, by omega⟩
         have hstep : ACall Tryz.prog 107 [.ptr d 0 0, .int .i64 (atR b τ 2 : Nat), .int .i64 1, .int .i64 2] G3 (fun y H' => y = .tup [] ∧ H' = rdG G3 d ic bc b (stp τ (atR b τ 2) 1 2)) := k_rstep_c c1.rd c4 c3 hst2 (Nat.le_refl _) (Nat.lt_succ_self _) (show τ.L ≤ _ by omega) hbl
         have n1 := c1.step (stp τ (atR b τ 2) 1 2)
         have n3 := stp_ok c3 hst2
         have n4 := (c4.step c3 hst2 (Nat.le_refl _) (Nat.lt_succ_self _)).1
         have n5 := stp_L c3 hst2
         have n2 : rdG G3 d ic bc b (stp τ (atR b τ 2) 1 2) r = some (.row (iS .i64 out) i) := by rw [rdG_ne hf.2.1 hf.2.2.1]; exact c2
         generalize stp τ (atR b τ 2) 1 2 = υ at *
         generalize atR b τ 2 = x at *
         generalize rdG G3 d ic bc b υ = G4 at *
         have p64 : u < 2 ^ 63 := Nat.lt_of_lt_of_le d2 (Nat.pow_le_pow_right (by decide) (by omega))
         have p2 : (2 : Nat) ^ (k + 1) = 2 ^ k * 2 := Nat.pow_succ _ _
         have s3 : IntKind.u64.wrap ((u : Int) * 2 ^ min (Int.toNat 1) IntKind.u64.bits) = (u * 2 : Nat) := by
          rw [show (2 : Int) ^ min (Int.toNat 1) IntKind.u64.bits = 2 by decide, wrap_u64']; omega
         have s4 : IntKind.u64.wrap (((u * 2 : Nat) : Int) + x) = (u * 2 + x : Nat) := by rw [wrap_u64']; omega
         have s5 : IntKind.u64.wrap (x : Int) = x := by rw [wrap_u64']; omega
         (repeat' ((conv => whnf); first | refine Then.mk ?_ | left | refine zg ?_ (hat) | refine zg ?_ (hstep) | refine zgg ?_ (hat) | refine zgg ?_ (hstep) | refine zd ?_ | (refine Both.mk ?_ ?_ <;> intro hc <;> try exact wX hc) | (intro c hc; (try (simp only [AH.zA] at hc; repeat (have hn := hc.1; replace hc := hc.2)))) | (refine ACall.to (hat) ?_) | (refine ACall.to (hstep) ?_))) <;> (try (conv => whnf))
         refine ⟨(G4, m, k + 1, u * 2 + x, υ, true), (show BL H G4 P Q d ic bc r b i out s E' m (k + 1) (u * 2 + x) υ true from ⟨n1, n2, n3, n4, by omega, by omega, by omega, fun _ => ⟨by omega, by omega, d3⟩, fun h => by cases h⟩), ?_, ⟨rfl, rfl, congrArg (AV.int .i64) ?_, trivial⟩, HLe.refl _⟩
         ·show 66 - (k + 1) < 66 - k
          omega
         ·show (k : Int) + 1 = (k + 1 : Nat)
          omega
        ·rw [if_neg hA] at d3
         rw [decide_eq_false hA] at hat
         (repeat' ((conv => whnf); first | refine Then.mk ?_ | left | refine zg ?_ (hat) | refine zgg ?_ (hat) | refine zd ?_ | (refine Both.mk ?_ ?_ <;> intro hc <;> try exact wX hc) | (intro c hc; (try (simp only [AH.zA] at hc; repeat (have hn := hc.1; replace hc := hc.2)))) | (refine ACall.to (hat) ?_))) <;> (try (conv => whnf))
         refine ⟨(G3, 0, k + 1, u, τ, false), (show BL H G3 P Q d ic bc r b i out s E' 0 (k + 1) u τ false from ⟨c1, c2, c3, c4, by omega, by omega, by omega, (fun h => by cases h), fun _ => d3.symm⟩), ?_, ⟨rfl, rfl, congrArg (AV.int .i64) ?_, trivial⟩, HLe.refl _⟩
         ·show 66 - (k + 1) < 66 - k
          omega
         ·show (k : Int) + 1 = (k + 1 : Nat)
          omega
       ·have hm0 : m = 0 := by omega
        subst hm0
        have hb1 : rdBits b (s - 1) (min s 1, E'.σ) = some (u, τ) := d3.symm
        rw [hb1] at hri
        rw [hri] at hnx
        have hnx : rdSt b (i + 1) = some (⟨⟨E'.M, τ⟩, s⟩, out ++ [unfold' u]) := hnx
        have hu : u < 2 ^ 64 := Nat.lt_of_lt_of_le d2 (Nat.pow_le_pow_right (by decide) (by omega))
        have hunf := fun H => unfold_c u hu H
        have hub := unfold_bd hu
        generalize unfold' u = z at *
        (repeat' ((conv => whnf); first | refine Then.mk ?_ | left | refine zg ?_ (hunf _) | refine zgg ?_ (hunf _) | refine zd ?_ | (refine Both.mk ?_ ?_ <;> intro hc <;> try exact wX hc) | (intro c hc; (try (simp only [AH.zA] at hc; repeat (have hn := hc.1; replace hc := hc.2)))) | (refine ACall.to (hunf _) ?_))) <;> (try (conv => whnf))
        refine ⟨(G3.set r (.row (iS .i64 out ++ [.int .i64 z]) (i + 1)), i + 1, ⟨⟨E'.M, τ⟩, s⟩, out ++ [z]), ⟨hic, ⟨c1.same (fun a ha => ?_) (HLe.set_of _ _ c1.le hH1), hnx, ?_⟩⟩, ?_, ⟨rfl, rfl, congrArg (AV.int .i64) ?_, trivial⟩, HLe.refl _⟩
        ·dsimp only
         rw [AH.zR _ _ (hf.ne ha)]
        ·dsimp only
         rw [AH.zC, iS_snoc]
        ·show count - (i + 1) < count - i
         omega
        ·show (i : Int) + 1 = (i + 1 : Nat)
         omega
   ·have hie : i = count := by omega
    have hdec : readS b count = if (intsS out).1 = b then (out, 0) else ([], 2) := by
     unfold readS
     rw [if_pos hlim, Int.toNat_natCast, ← hie, hst]
    have henc := fun H => cInts_c out hok.bd (by omega) H
    have hxr : ∀ x : List UInt8 × Int, k_resV x = .tup [.cs (u8s x.1) x.1.length, .int .i64 x.2] := fun _ => rfl
    simp only [hl, hxr] at henc
    rw [hdec]
    have hfin : HLe H (G.del r) := HLe.del _ hdc.le hH1
    generalize intsS out = x at *
    have heq := fun H => equal_c x.1 b hbl H
    subst hie
    (repeat' ((conv => whnf); first | left | refine zd ?_ | (refine Both.mk ?_ ?_ <;> intro hc <;> try exact wX hc) | (intro c hc; (try (simp only [AH.zA] at hc; repeat (have hn := hc.1; replace hc := hc.2)))))) <;> (try (conv => whnf))
    refine Then.mk (AWq.in ?_)
    refine AWp_freeze1 (r := r) (v := i) (es := 1) (n := i) (lim := none) (cells := iS .i64 out) 9 rfl rfl hw (by omega) ?_
    refine AWp.of zU (dok _) rfl ?_
    by_cases hxb : x.1 = b
    ·rw [if_pos hxb]
     rw [decide_eq_true hxb] at heq
     (repeat' ((conv => whnf); first | refine Then.mk ?_ | left | refine zg ?_ (henc _) | refine zg ?_ (heq _) | refine zgg ?_ (henc _) | refine zgg ?_ (heq _) | refine zd ?_ | (refine Both.mk ?_ ?_ <;> intro hc <;> try exact wX hc) | (intro c hc; (try (simp only [AH.zA] at hc; repeat (have hn := hc.1; replace hc := hc.2)))) | (refine ACall.to (henc _) ?_) | (refine ACall.to (heq _) ?_))) <;> (try (conv => whnf))
     refine ⟨?_, hfin⟩
     unfold resI
     dsimp only
     rw [hl]
     exact AVle.refl _
    ·rw [if_neg hxb]
     rw [decide_eq_false hxb] at heq
     (repeat' ((conv => whnf); first | refine Then.mk ?_ | left | refine zg ?_ (henc _) | refine zg ?_ (heq _) | refine zgg ?_ (henc _) | refine zgg ?_ (heq _) | refine zd ?_ | (refine Both.mk ?_ ?_ <;> intro hc <;> try exact wX hc) | (intro c hc; (try (simp only [AH.zA] at hc; repeat (have hn := hc.1; replace hc := hc.2)))) | (refine ACall.to (henc _) ?_) | (refine ACall.to (heq _) ?_))) <;> (try (conv => whnf))
     exact ⟨AVle.errI, hfin⟩
 ·have he : readS b count = ([], 4) := if_neg hlim
  rw [he]
  refine zQ zU (dok _) Tryz.func78 rfl (by decide) rfl ?_
  by_cases h0 : count < 0
  ·(repeat' ((conv => whnf); first | refine Then.mk ?_ | left | refine zd ?_ | (refine Both.mk ?_ ?_ <;> intro hc <;> try exact wX hc) | (intro c hc; (try (simp only [AH.zA] at hc; repeat (have hn := hc.1; replace hc := hc.2)))))) <;> (try (conv => whnf))
   exact ⟨AVle.errI, HLe.refl _⟩
  ·(repeat' ((conv => whnf); first | refine Then.mk ?_ | left | refine zd ?_ | (refine Both.mk ?_ ?_ <;> intro hc <;> try exact wX hc) | (intro c hc; (try (simp only [AH.zA] at hc; repeat (have hn := hc.1; replace hc := hc.2)))))) <;> (try (conv => whnf))
   exact ⟨AVle.errI, HLe.refl _⟩
open Go.Fw Go
def symK (l : List Int) (i : Nat) : Nat :=
 if 1 < l.length ∧ aro (l.getD 0 0) 2 = 0 ∧ 0 < aro (l.getD i 0) 1000000 % 5 then 7 * (aro (l.getD i 0) 1000000 % 2) else aro (l.getD i 0) 1000000
def symL (n : Nat) (l : List Int) (most : Nat) : List Int := (List.range (min l.length most)).map fun i => ((symK l i / 2 % n : Nat) : Int)
@[simp] theorem symL_len (n : Nat) (l : List Int) (most : Nat) : (symL n l most).length = min l.length most := by simp [symL]
open Go.Fw Go
theorem code_len (σ : Cs) : (codeS σ).length ≤ σ.L + 4 := by
 unfold codeS trim
 rw [List.length_take, dig_len]
 omega
open Go.Fw Go
abbrev RS := Int × List UInt8
def canon (e : Int) (b : List UInt8) : RS := (e, if e = 0 then b else [])
def rdU (s : RS) : Nat × RS := if s.1 ≠ 0 then (0, (s.1, [])) else match rdN 0 0 s.2 with
 | .ok (n, r) => (n, (0, r))
 | .error e => (0, (e, []))
def rdI (s : RS) : Int × RS := (unzz (rdU s).1, (rdU s).2)
def rdLen (s : RS) : Nat × RS := if (rdU s).2.1 = 0 ∧ (rdU s).2.2.length < (rdU s).1 then (0, (3, [])) else rdU s
def rdRaw (s : RS) : List UInt8 × RS := if (rdLen s).2.1 ≠ 0 then ([], (rdLen s).2) else ((rdLen s).2.2.take (rdLen s).1, (0, (rdLen s).2.2.drop (rdLen s).1))
def endE (s : RS) : Int := if s.1 = 0 ∧ s.2 ≠ [] then 2 else s.1
theorem canon_ok (b : List UInt8) : canon 0 b = (0, b) := by unfold canon; simp
theorem canon_err {e : Int} (b : List UInt8) (h : e ≠ 0) : canon e b = (e, []) := by unfold canon; simp [h]
structure V where
 kind : Nat
 u : Nat
 n : Int
 b : List UInt8
 l : List Int
def encI (n : Int) : List UInt8 := encN (zz n)
def encR (b : List UInt8) : List UInt8 := encN b.length ++ b
def encIs (l : List Int) : List UInt8 := l.flatMap encI
def encL (l : List Int) : List UInt8 := encN l.length ++ encIs l
def encB (b : Bool) : List UInt8 := if b then [1] else [0]
def encV (v : V) : List UInt8 :=
 if v.kind = 0 then encN v.u else if v.kind = 1 then encI v.n else if v.kind = 2 then encB (decide (v.n = 1)) else if v.kind = 3 ∨ v.kind = 4 then encR v.b else encL v.l
def encVs (l : List V) : List UInt8 := l.flatMap encV
def I64 (n : Int) : Prop := -9223372036854775808 ≤ n ∧ n ≤ 9223372036854775807
structure VOk (v : V) : Prop where
 k : v.kind ≤ 5
 u : v.u < 2 ^ 64
 u0 : v.kind ≠ 0 → v.u = 0
 n : I64 v.n
 n0 : v.kind ≠ 1 → v.kind ≠ 2 → v.n = 0
 n2 : v.kind = 2 → v.n = 0 ∨ v.n = 1
 b : v.b.length < 2 ^ 40
 b0 : v.kind ≠ 3 → v.kind ≠ 4 → v.b = []
 l : ∀ x ∈ v.l, I64 x
 ll : v.l.length < 2 ^ 40
 l0 : v.kind ≠ 5 → v.l = []
theorem rdU_enc {n : Nat} (h : n < 2 ^ 64) (r : List UInt8) : rdU (0, encN n ++ r) = (n, (0, r)) := by
 unfold rdU
 have := rdN_enc n 0 0 r (by omega) (by omega) (by omega)
 simp [this]
theorem rdI_enc {n : Int} (h : I64 n) (r : List UInt8) : rdI (0, encI n ++ r) = (n, (0, r)) := by
 unfold rdI encI
 rw [rdU_enc (zz_lt h.1 h.2), unzz_zz]
theorem rdRaw_enc {b : List UInt8} (h : b.length < 2 ^ 40) (r : List UInt8) : rdRaw (0, encR b ++ r) = (b, (0, r)) := by
 have e : rdLen (0, encR b ++ r) = (b.length, (0, b ++ r)) := by
  unfold rdLen encR
  rw [List.append_assoc, rdU_enc (by omega), if_neg (by simp)]
 unfold rdRaw
 rw [e]
 simp
open Go.Fw Go
set_option maxRecDepth 8000 in
theorem zigzag_c (n : Int) (h1 : -9223372036854775808 ≤ n) (h2 : n ≤ 9223372036854775807) (H : AH) : ACall Tryz.prog 103 [.int .i64 n] H (fun y H' => y = .int .u64 (zz n) ∧ H' = H) := by
 rw [← zz_wire h1 h2]
 refine zQ zU (dok _) Tryz.func103 rfl (by decide) rfl ?_
 (repeat' ((conv => whnf); first | refine Then.mk ?_ | left | refine zd ?_ | (refine Both.mk ?_ ?_ <;> intro hc <;> try exact wX hc) | (intro c hc; (try (simp only [AH.zA] at hc; repeat (have hn := hc.1; replace hc := hc.2)))))) <;> (try (conv => whnf))
theorem or128 {m : Nat} (h : m < 2 ^ 64) : bitsA .or .u8 (IntKind.u8.wrap (m : Int)) 128 = ((UInt8.ofNat (m % 128 + 128)).toNat : Int) := by
 have key : ∀ x : Fin 256, bitsA .or .u8 ((x.val : Nat) : Int) 128 = ((x.val % 128 + 128 : Nat) : Int) := by decide +kernel
 have e : IntKind.u8.wrap (m : Int) = ((m % 256 : Nat) : Int) := by
  show (m : Int) % 256 = _
  omega
 have := key ⟨m % 256, by omega⟩
 rw [e, this, u8_ofNat (by omega)]
 simp only
 omega
def WrH (H : AH) (p r v : Nat) (bs : List UInt8) : AH := (H.set p (.row [.sl r v 1 0 bs.length none] 0)).set r (.row (u8s bs) v)
set_option maxRecDepth 8000 in
theorem wUint_c (p r v : Nat) (bs : List UInt8) (n : Nat) (hn : n < 2 ^ 64) (hb : bs.length ≤ 1000000) (H : AH) (hpr : p ≠ r) :
  ACall Tryz.prog 102 [.ptr p 0 0, .int .u64 n] (WrH H p r v bs) (fun y H' => y = .tup [] ∧ ∃ v', H' = WrH H p r v' (bs ++ encN n)) := by
 refine zQ zU (dok _) Tryz.func102 rfl (by decide) rfl ?_
 (repeat' ((conv => whnf); first | refine Then.mk ?_ | left | refine zd ?_ | (refine Both.mk ?_ ?_ <;> intro hc <;> try exact wX hc) | (intro c hc; (try (simp only [AH.zA] at hc; repeat (have hn := hc.1; replace hc := hc.2)))))) <;> (try (conv => whnf))
 have hl10 := encN_len10 hn
 refine zT (σ := Nat × List UInt8 × Nat) (1 :: 4 :: 5 :: 6 :: 7 :: 8 :: 9 :: 10 :: 11 :: 12 :: 13 :: 14 :: 15 :: 16 :: 17 :: 18 :: 19 :: []) (fun (m, pre, u) => [(1, .int .u64 m)]) (fun (m, pre, u) => (H.set p (.row [.sl r u 1 0 (bs ++ pre).length none] 0)).set r (.row (u8s (bs ++ pre)) u)) (fun (m, pre, u) => m < 2 ^ 64 ∧ encN n = pre ++ encN m) (fun (m, pre, u) => m) (n, [], v) rfl ?_ ?_ ?_ ?_
 ·exact ⟨hn, rfl⟩
 ·exact ⟨rfl, trivial⟩
 ·show HLe ((H.set p (.row [.sl r v 1 0 (bs ++ []).length none] 0)).set r (.row (u8s (bs ++ [])) v)) _
  rw [List.append_nil]; exact HLe.refl _
 ·rintro ⟨m, pre, u⟩ ⟨hm, he⟩
  refine AWp.of zU (dok _) rfl ?_
  have hpl : pre.length ≤ 9 := by
   have := congrArg List.length he
   have := encN_pos m
   rw [List.length_append] at *; omega
  have hsum : (bs ++ pre).length ≤ 1000009 := by rw [List.length_append]; omega
  (repeat' ((conv => whnf); first | refine Then.mk ?_ | left | refine zd ?_ | (refine Both.mk ?_ ?_ <;> intro hc <;> try exact wX hc) | (intro c hc; (try (simp only [AH.zA] at hc; repeat (have hn := hc.1; replace hc := hc.2)))))) <;> (try (conv => whnf))
  ·refine ⟨(m / 128, pre ++ [UInt8.ofNat (m % 128 + 128)], u + 1), ⟨by omega, by rw [he, encN_ge (by omega)]; simp⟩, by show m / 128 < m; omega, ⟨?_, trivial⟩, ?_⟩
   ·refine congrArg (AV.int .u64) ?_
    rw [show (2 : Int) ^ min (Int.toNat 7) IntKind.u64.bits = 128 by decide, Int.fdiv_eq_ediv_of_nonneg _ (by omega)]
    omega
   ·show HLe ((H.set p (.row [.sl r (u + 1) 1 0 (bs ++ (pre ++ [UInt8.ofNat (m % 128 + 128)])).length none] 0)).set r (.row (u8s (bs ++ (pre ++ [UInt8.ofNat (m % 128 + 128)]))) (u + 1))) _
    rw [← List.append_assoc, List.length_append (bs := [_]), ← u8s_append (bs ++ pre)]
    refine HLe.of_eq (Eq.trans ?_ (AH.two_sets H hpr _ _ _ _).symm)
    rw [or128 hm]
    rfl
  ·refine ⟨u + 1, ?_⟩
   unfold WrH
   rw [he, encN_lt (by omega), ← List.append_assoc, List.length_append (bs := [_]), ← u8s_append (bs ++ pre)]
   refine Eq.trans (AH.two_sets H hpr _ _ _ _) ?_
   have e : (m : Int) = ((UInt8.ofNat m).toNat : Int) := by rw [u8_ofNat (by omega)]
   rw [e]
   rfl
set_option maxRecDepth 8000 in
theorem wInt_c (p r v : Nat) (bs : List UInt8) (n : Int) (hn : I64 n) (hb : bs.length ≤ 1000000) (H : AH) (hpr : p ≠ r) :
  ACall Tryz.prog 73 [.ptr p 0 0, .int .i64 n] (WrH H p r v bs) (fun y H' => y = .tup [] ∧ ∃ v', H' = WrH H p r v' (bs ++ encI n)) := by
 refine zQ zU (dok _) Tryz.func73 rfl (by decide) rfl ?_
 (repeat' ((conv => whnf); first | refine Then.mk ?_ | left | refine zg ?_ (zigzag_c n hn.1 hn.2 _) | refine zgg ?_ (zigzag_c n hn.1 hn.2 _) | refine zd ?_ | (refine Both.mk ?_ ?_ <;> intro hc <;> try exact wX hc) | (intro c hc; (try (simp only [AH.zA] at hc; repeat (have hn := hc.1; replace hc := hc.2)))) | (refine ACall.to (zigzag_c n hn.1 hn.2 _) ?_))) <;> (try (conv => whnf))
 refine (wUint_c p r v bs (zz n) (zz_lt hn.1 hn.2) hb H hpr).mono ?_
 rintro y H' ⟨rfl, v', rfl⟩
 (repeat' ((conv => whnf); first | refine Then.mk ?_ | left | refine zd ?_ | (refine Both.mk ?_ ?_ <;> intro hc <;> try exact wX hc) | (intro c hc; (try (simp only [AH.zA] at hc; repeat (have hn := hc.1; replace hc := hc.2)))))) <;> (try (conv => whnf))
 exact ⟨v', rfl⟩
set_option maxRecDepth 8000 in
theorem wText_c (p r v : Nat) (bs s : List UInt8) (hs : s.length ≤ 1000000) (hb : bs.length ≤ 1000000) (H : AH) (hpr : p ≠ r) :
  ACall Tryz.prog 77 [.ptr p 0 0, .str s] (WrH H p r v bs) (fun y H' => y = .tup [] ∧ ∃ v', H' = WrH H p r v' (bs ++ encR s)) := by
 refine zQ zU (dok _) Tryz.func77 rfl (by decide) rfl ?_
 (repeat' ((conv => whnf); first | refine Then.mk ?_ | left | refine zd ?_ | (refine Both.mk ?_ ?_ <;> intro hc <;> try exact wX hc) | (intro c hc; (try (simp only [AH.zA] at hc; repeat (have hn := hc.1; replace hc := hc.2)))))) <;> (try (conv => whnf))
 refine (wUint_c p r v bs s.length (by omega) hb H hpr).mono ?_
 rintro y H' ⟨rfl, v', rfl⟩
 have hl := encN_len10 (n := s.length) (by omega)
 have hl2 : (bs ++ encN s.length).length ≤ 1000010 := by rw [List.length_append]; omega
 (repeat' ((conv => whnf); first | refine Then.mk ?_ | left | refine zd ?_ | (refine Both.mk ?_ ?_ <;> intro hc <;> try exact wX hc) | (intro c hc; (try (simp only [AH.zA] at hc; repeat (have hn := hc.1; replace hc := hc.2)))))) <;> (try (conv => whnf))
 refine ⟨v' + 1, ?_⟩
 refine Eq.trans (AH.two_sets H hpr _ _ _ _) ?_
 unfold WrH encR
 rw [← List.append_assoc, List.length_append (bs := s), ← u8s_append (bs ++ encN s.length)]
 rfl
set_option maxRecDepth 8000 in
theorem wRaw_c (p r v : Nat) (bs s : List UInt8) (hs : s.length ≤ 1000000) (hb : bs.length ≤ 1000000) (H : AH) (hpr : p ≠ r) :
  ACall Tryz.prog 40 [.ptr p 0 0, .cs (u8s s) s.length] (WrH H p r v bs) (fun y H' => y = .tup [] ∧ ∃ v', H' = WrH H p r v' (bs ++ encR s)) := by
 refine zQ zU (dok _) Tryz.func40 rfl (by decide) rfl ?_
 (repeat' ((conv => whnf); first | refine Then.mk ?_ | left | refine zd ?_ | (refine Both.mk ?_ ?_ <;> intro hc <;> try exact wX hc) | (intro c hc; (try (simp only [AH.zA] at hc; repeat (have hn := hc.1; replace hc := hc.2)))))) <;> (try (conv => whnf))
 refine (wText_c p r v bs s hs hb H hpr).mono ?_
 rintro y H' ⟨rfl, v', rfl⟩
 (repeat' ((conv => whnf); first | refine Then.mk ?_ | left | refine zd ?_ | (refine Both.mk ?_ ?_ <;> intro hc <;> try exact wX hc) | (intro c hc; (try (simp only [AH.zA] at hc; repeat (have hn := hc.1; replace hc := hc.2)))))) <;> (try (conv => whnf))
 exact ⟨v', rfl⟩
set_option maxRecDepth 8000 in
theorem clone_sl (r v : Nat) (bs : List UInt8) (hb : bs.length ≤ 1000000) (H : AH) (h : H r = some (.row (u8s bs) v)) :
  ACall Tryz.prog 63 [.sl r v 1 0 bs.length none] H (fun y H' => (y = .nils ∧ bs.length = 0 ∧ H' = H) ∨ ∃ q, H q = none ∧ ∃ u, y = .sl q u 1 0 bs.length none ∧ H' = H.set q (.row (u8s bs) u)) := by
 refine zQ zU (dok _) Tryz.func63 rfl (by decide) rfl ?_
 (repeat' ((conv => whnf); first | refine Then.mk ?_ | refine Or.inr (Or.inl ?_) | refine zd ?_ | (refine Both.mk ?_ ?_ <;> intro hc <;> try exact wX hc) | (intro c hc; (try (simp only [AH.zA] at hc; repeat (have hn := hc.1; replace hc := hc.2)))))) <;> (try (conv => whnf))
 ·exact .inl ⟨rfl, by assumption, rfl⟩
 ·refine .inr ⟨c, hc, 1, by simp only [Nat.zero_add], ?_⟩
  rw [AH.zS]
  simp [List.take_of_length_le]
set_option maxRecDepth 8000 in
theorem clone_cs (bs : List UInt8) (hb : bs.length ≤ 1000000) (H : AH) :
  ACall Tryz.prog 63 [.cs (u8s bs) bs.length] H (fun y H' => (y = .nils ∧ bs.length = 0 ∧ H' = H) ∨ ∃ q, H q = none ∧ ∃ u, y = .sl q u 1 0 bs.length none ∧ H' = H.set q (.row (u8s bs) u)) := by
 refine zQ zU (dok _) Tryz.func63 rfl (by decide) rfl ?_
 (repeat' ((conv => whnf); first | refine Then.mk ?_ | refine Or.inr (Or.inl ?_) | refine zd ?_ | (refine Both.mk ?_ ?_ <;> intro hc <;> try exact wX hc) | (intro c hc; (try (simp only [AH.zA] at hc; repeat (have hn := hc.1; replace hc := hc.2)))))) <;> (try (conv => whnf))
 ·exact .inl ⟨rfl, by assumption, rfl⟩
 ·refine .inr ⟨c, hc, 1, by simp only [Nat.zero_add], ?_⟩
  rw [AH.zS]
  simp
set_option maxRecDepth 8000 in
theorem wDone_w (p r v : Nat) (bs : List UInt8) (hb : bs.length ≤ 1000000) (H : AH) (hpr : p ≠ r) :
  ACall Tryz.prog 41 [.ptr p 0 0] (WrH H p r v bs) (fun y H' => ∃ q, WrH H p r v bs q = none ∧ ∃ u, y = .sl q u 1 0 bs.length none ∧ H' = (WrH H p r v bs).set q (.row (u8s bs) u)) := by
 refine zQ zU (dok _) Tryz.func41 rfl (by decide) rfl ?_
 (repeat' ((conv => whnf); first | refine Then.mk ?_ | left | refine zd ?_ | (refine Both.mk ?_ ?_ <;> intro hc <;> try exact wX hc) | (intro c hc; (try (simp only [AH.zA] at hc; repeat (have hn := hc.1; replace hc := hc.2)))))) <;> (try (conv => whnf))
 refine (ACall.warmN (es := 1) (cells := u8s bs) (by simp) (clone_sl r v bs hb (WrH H p r v bs) (AH.zC _ _ _))).mono ?_
 rintro y H' ⟨q, hq, u, rfl, rfl⟩
 (repeat' ((conv => whnf); first | refine zd ?_ | (refine Both.mk ?_ ?_ <;> intro hc <;> try exact wX hc) | (intro c hc; (try (simp only [AH.zA] at hc; repeat (have hn := hc.1; replace hc := hc.2)))))) <;> (try (conv => whnf))
 refine Then.mk ?_
 (repeat' ((conv => whnf); first | refine zd ?_ | (refine Both.mk ?_ ?_ <;> intro hc <;> try exact wX hc) | (intro c hc; (try (simp only [AH.zA] at hc; repeat (have hn := hc.1; replace hc := hc.2)))))) <;> (try (conv => whnf))
theorem wDone_c (p r v : Nat) (bs : List UInt8) (hb : bs.length ≤ 1000000) (H : AH) (hpr : p ≠ r) :
  ACall Tryz.prog 41 [.ptr p 0 0] (WrH H p r v bs) (fun y H' => y = .cs (u8s bs) bs.length ∧ H' = WrH H p r v bs) :=
 ACall.cold (es := 1) (by simp) (wDone_w p r v bs hb H hpr)
structure WOk (v : V) : Prop where
 u : v.u < 2 ^ 64
 n : I64 v.n
 b : v.b.length ≤ 1000000
 l : v.l.length ≤ 5000
 li : ∀ x ∈ v.l, I64 x
open Go.Fw Go
def RdH (H : AH) (p : Nat) (e : Int) (b : List UInt8) : AH := H.set p (.row [.cs (u8s b) b.length, .int .i64 e] 0)
set_option maxRecDepth 8000 in
theorem fail_c (p : Nat) (x e : Int) (b : List UInt8) (H : AH) :
  ACall Tryz.prog 91 [.ptr p 0 0, .int .i64 x] (RdH H p e b) (fun y H' => y = .tup [] ∧ H' = RdH H p (if e = 0 then x else e) b) := by
 refine zQ zU (dok _) Tryz.func91 rfl (by decide) rfl ?_
 (repeat' ((conv => whnf); first | refine Then.mk ?_ | left | refine zd ?_ | (refine Both.mk ?_ ?_ <;> intro hc <;> try exact wX hc) | (intro c hc; (try (simp only [AH.zA] at hc; repeat (have hn := hc.1; replace hc := hc.2)))))) <;> (try (conv => whnf))
 ·rw [if_pos (by assumption)]
  refine (AH.zS H p _ _).trans ?_
  rfl
 ·rw [if_neg (by assumption)]
def nx (e : Int) (b : List UInt8) : Nat × Int × List UInt8 := if e ≠ 0 then (0, e, b) else if b.length = 0 then (0, 3, b) else ((b.getD 0 0).toNat, 0, b.drop 1)
set_option maxRecDepth 8000 in
theorem next_c (p : Nat) (e : Int) (b : List UInt8) (hb : b.length ≤ 1000000) (H : AH) :
  ACall Tryz.prog 67 [.ptr p 0 0] (RdH H p e b) (fun y H' => y = .int .u8 (nx e b).1 ∧ H' = RdH H p (nx e b).2.1 (nx e b).2.2) := by
 by_cases he : e = 0
 ·subst he
  by_cases hl : b.length = 0
  ·have e1 : nx 0 b = (0, 3, b) := by unfold nx; rw [if_neg (by simp), if_pos hl]
   rw [e1]
   refine zQ zU (dok _) Tryz.func67 rfl (by decide) rfl ?_
   (repeat' ((conv => whnf); first | refine Then.mk ?_ | left | refine zd ?_ | (refine Both.mk ?_ ?_ <;> intro hc <;> try exact wX hc) | (intro c hc; (try (simp only [AH.zA] at hc; repeat (have hn := hc.1; replace hc := hc.2)))))) <;> (try (conv => whnf))
   refine (fail_c p 3 0 b H).mono ?_
   rintro y H' ⟨rfl, rfl⟩
   (repeat' ((conv => whnf); first | refine Then.mk ?_ | left | refine zd ?_ | (refine Both.mk ?_ ?_ <;> intro hc <;> try exact wX hc) | (intro c hc; (try (simp only [AH.zA] at hc; repeat (have hn := hc.1; replace hc := hc.2)))))) <;> (try (conv => whnf))
   rfl
  ·have e1 : nx 0 b = ((b.getD 0 0).toNat, 0, b.drop 1) := by unfold nx; rw [if_neg (by simp), if_neg hl]
   rw [e1]
   refine zQ zU (dok _) Tryz.func67 rfl (by decide) rfl ?_
   (repeat' ((conv => whnf); first | refine Then.mk ?_ | left | refine zd ?_ | (refine Both.mk ?_ ?_ <;> intro hc <;> try exact wX hc) | (intro c hc; (try (simp only [AH.zA] at hc; repeat (have hn := hc.1; replace hc := hc.2)))))) <;> (try (conv => whnf))
   refine (AH.zS H p _ _).trans ?_
   unfold RdH
   rw [← u8s_drop, List.length_drop]
   rfl
 ·have e1 : nx e b = (0, e, b) := by unfold nx; rw [if_pos he]
  rw [e1]
  refine zQ zU (dok _) Tryz.func67 rfl (by decide) rfl ?_
  (repeat' ((conv => whnf); first | refine Then.mk ?_ | left | refine zd ?_ | (refine Both.mk ?_ ?_ <;> intro hc <;> try exact wX hc) | (intro c hc; (try (simp only [AH.zA] at hc; repeat (have hn := hc.1; replace hc := hc.2)))))) <;> (try (conv => whnf))
  ·refine (fail_c p 3 e b H).mono ?_
   rw [if_neg he]
   rintro y H' ⟨rfl, rfl⟩
   (repeat' ((conv => whnf); first | refine Then.mk ?_ | left | refine zd ?_ | (refine Both.mk ?_ ?_ <;> intro hc <;> try exact wX hc) | (intro c hc; (try (simp only [AH.zA] at hc; repeat (have hn := hc.1; replace hc := hc.2)))))) <;> (try (conv => whnf))
theorem andNot128 (c : UInt8) : bitsA .andNot .u8 c.toNat 128 = ((c.toNat % 128 : Nat) : Int) := by
 have key : ∀ x : Fin 256, bitsA .andNot .u8 ((x.val : Nat) : Int) 128 = ((x.val % 128 : Nat) : Int) := by decide +kernel
 exact key ⟨c.toNat, c.toNat_lt⟩
theorem or_shift {m i d : Nat} (hm : m < 128 ^ i) (hi : i ≤ 9) (hd : d < 128) (h9 : i = 9 → d ≤ 1) :
  bitsA .or .u64 (m : Int) (IntKind.u64.wrap ((d : Int) * 2 ^ (min (7 * i) 64))) = ((m + d * 128 ^ i : Nat) : Int) := by
 have e7 : (128 : Nat) ^ i = 2 ^ (7 * i) := by rw [Nat.pow_mul]
 rw [e7] at hm ⊢
 have hmin : min (7 * i) 64 = 7 * i := by omega
 have hb : m + d * 2 ^ (7 * i) < 2 ^ 64 := by
  have h1 : m + d * 2 ^ (7 * i) < (d + 1) * 2 ^ (7 * i) := by rw [Nat.add_mul]; omega
  rcases Nat.lt_or_ge i 9 with h | h
  ·have h2 : (d + 1) * 2 ^ (7 * i) ≤ 128 * 2 ^ (7 * i) := Nat.mul_le_mul_right _ (by omega)
   have h3 : 128 * 2 ^ (7 * i) = 2 ^ (7 + 7 * i) := by rw [Nat.pow_add]
   have h4 : 2 ^ (7 + 7 * i) ≤ 2 ^ 63 := Nat.pow_le_pow_right (by omega) (by omega)
   omega
  ·have : i = 9 := by omega
   subst this
   have := h9 rfl
   omega
 have e1 : ((d : Int) * 2 ^ (7 * i)) = ((d * 2 ^ (7 * i) : Nat) : Int) := by simp
 rw [hmin, e1, wrap_u64']
 show IntKind.u64.wrap ((BitVec.ofInt 64 _ ||| BitVec.ofInt 64 _).toNat : Int) = _
 have ha : (BitVec.ofInt 64 (m : Int)).toNat = m := by
  rw [BitVec.toNat_ofInt]; omega
 have hc : (BitVec.ofInt 64 (((d * 2 ^ (7 * i) : Nat) : Int) % 18446744073709551616)).toNat = d * 2 ^ (7 * i) := by
  rw [BitVec.toNat_ofInt]; omega
 rw [BitVec.toNat_or, ha, hc, Nat.or_comm, Nat.mul_comm d, ← Nat.two_pow_add_eq_or_of_lt hm, wrap_u64', Nat.mul_comm _ d]
 generalize d * 2 ^ (7 * i) = q at hb ⊢
 omega
def rdR : Except Int (Nat × List UInt8) → Nat × RS
 | .ok (n, r) => (n, (0, r))
 | .error e => (0, (e, []))
theorem rdU_ok (b : List UInt8) : rdU (canon 0 b) = rdR (rdN 0 0 b) := by
 unfold rdU canon rdR
 simp only [ne_eq, not_true_eq_false, if_false, if_true]
 all_goals (cases rdN 0 0 b <;> rfl)
theorem rdU_err {e : Int} (b : List UInt8) (h : e ≠ 0) : rdU (canon e b) = (0, (e, [])) := by
 unfold rdU canon
 simp only [ne_eq, h, not_false_eq_true, if_true]
structure UI (R : Nat × RS) (L i : Nat) (n e : Int) (b : List UInt8) : Prop where
 l : b.length ≤ L
 il : i ≤ 10
 ok : e = 0 → i ≤ 9 ∧ ∃ m : Nat, n = m ∧ m < 128 ^ i ∧ R = rdR (rdN i m b)
 no : e ≠ 0 → R = (0, (e, []))
set_option maxRecDepth 8000 in
set_option maxRecDepth 100000 in
theorem rUint_c (p : Nat) (e0 : Int) (b0 : List UInt8) (hb : b0.length ≤ 1000000) (H : AH) :
    ACall Tryz.prog 65 [.ptr p 0 0] (RdH H p e0 b0) (fun y H' => y = .int .u64 (rdU (canon e0 b0)).1 ∧ ∃ e b, canon e b = (rdU (canon e0 b0)).2 ∧ b.length ≤ b0.length ∧ H' = RdH H p e b) := by
  obtain ⟨R, hR⟩ : ∃ R, R = rdU (canon e0 b0) := ⟨_, rfl⟩
  rw [← hR]
  refine zQ zU (dok _) Tryz.func65 rfl (by decide) rfl ?_
  (repeat' ((conv => whnf); first | refine Then.mk ?_ | left | refine zd ?_ | (refine Both.mk ?_ ?_ <;> intro hc <;> try exact wX hc) | (intro c hc; (try (simp only [AH.zA] at hc; repeat (have hn := hc.1; replace hc := hc.2)))))) <;> (try (conv => whnf))
  refine zT (σ := Nat × Int × Int × List UInt8) (2 :: 3 :: 4 :: 5 :: 6 :: 7 :: 8 :: 9 :: 10 :: 11 :: 12 :: 13 :: 14 :: 15 :: 16 :: 17 :: 18 :: 19 :: 20 :: 21 :: 22 :: 23 :: 24 :: 25 :: 26 :: 27 :: 28 :: 29 :: 30 :: 31 :: 32 :: 33 :: 34 :: 35 :: 36 :: 37 :: 38 :: 39 :: 40 :: 41 :: 42 :: 43 :: 44 :: 45 :: 46 :: 47 :: 48 :: []) (fun (i, n, e, b) => [(4, .int .i64 i), (3, .int .u64 n)]) (fun (i, n, e, b) => RdH H p e b) (fun (i, n, e, b) => UI R b0.length i n e b) (fun (i, n, e, b) => if e = 0 then b.length + 1 else 0) (0, 0, e0, b0) rfl ?_ ?_ ?_ ?_
  · refine ⟨Nat.le_refl _, by omega, fun h => ⟨by omega, 0, rfl, by simp, ?_⟩, fun h => ?_⟩
    · rw [hR, h, rdU_ok]
    · rw [hR, rdU_err _ h]
  · exact ⟨rfl, rfl, trivial⟩
  · exact HLe.refl _
  · rintro ⟨i, n, e, b⟩ hI
    refine AWp.of zU (dok _) rfl ?_
    have hI : UI R b0.length i n e b := hI
    have hil := hI.il
    have hbl := hI.l
    by_cases he : e = 0
    · subst he
      obtain ⟨hi9, m, rfl, hm, hRm⟩ := hI.ok rfl
      by_cases hl : b.length = 0
      · have e1 : nx 0 b = (0, 3, b) := by unfold nx; rw [if_neg (by simp), if_pos hl]
        have hnx := next_c p 0 b (by omega) H
        rw [e1] at hnx
        dsimp only at hnx
        have hR3 : R = (0, (3, [])) := by
          have : b = [] := List.eq_nil_of_length_eq_zero hl
          rw [hRm, this]; rfl
        (repeat' ((conv => whnf); first | refine Then.mk ?_ | left | refine zg ?_ (hnx) | refine zg ?_ (fail_c _ _ _ _ _) | refine zgg ?_ (hnx) | refine zgg ?_ (fail_c _ _ _ _ _) | refine zd ?_ | (refine Both.mk ?_ ?_ <;> intro hc <;> try exact wX hc) | (intro c hc; (try (simp only [AH.zA] at hc; repeat (have hn := hc.1; replace hc := hc.2)))) | (refine ACall.to (hnx) ?_) | (refine ACall.to (fail_c _ _ _ _ _) ?_))) <;> (try (conv => whnf))
        all_goals exact ⟨(i + 1, _, 3, b), ⟨by omega, by omega, fun h => absurd h (by decide), fun _ => hR3⟩, by simp, ⟨congrArg (AV.int .i64) (by omega), rfl, trivial⟩, HLe.refl _⟩
      · have e1 : nx 0 b = ((b.getD 0 0).toNat, 0, b.drop 1) := by unfold nx; rw [if_neg (by simp), if_neg hl]
        have hnx := next_c p 0 b (by omega) H
        rw [e1] at hnx
        dsimp only at hnx
        obtain ⟨c, hc⟩ : ∃ c, c = b.getD 0 0 := ⟨_, rfl⟩
        obtain ⟨t, ht⟩ : ∃ t, t = b.drop 1 := ⟨_, rfl⟩
        rw [← hc, ← ht] at hnx
        have hbc : b = c :: t := by
          cases b with
          | nil => simp at hl
          | cons x y => rw [hc, ht]; rfl
        have htl : t.length + 1 = b.length := by rw [hbc]; rfl
        have hc8 := c.toNat_lt
        rw [hbc, rdN] at hRm
        by_cases hbad : (i = 9 ∧ 1 < c.toNat) ∨ (0 < i ∧ c.toNat = 0)
        · rw [if_pos hbad] at hRm
          (repeat' ((conv => whnf); first | refine Then.mk ?_ | left | refine zg ?_ (hnx) | refine zg ?_ (fail_c _ _ _ _ _) | refine zgg ?_ (hnx) | refine zgg ?_ (fail_c _ _ _ _ _) | refine zd ?_ | (refine Both.mk ?_ ?_ <;> intro hc <;> try exact wX hc) | (intro c hc; (try (simp only [AH.zA] at hc; repeat (have hn := hc.1; replace hc := hc.2)))) | (refine ACall.to (hnx) ?_) | (refine ACall.to (fail_c _ _ _ _ _) ?_))) <;> (try (conv => whnf))
          all_goals exact ⟨(i + 1, _, 2, t), ⟨by omega, by omega, fun h => absurd h (by decide), fun _ => hRm⟩, by simp, ⟨congrArg (AV.int .i64) (by omega), rfl, trivial⟩, HLe.refl _⟩
        · rw [if_neg hbad] at hRm
          have hor := or_shift hm hi9 (d := c.toNat % 128) (by omega) (by omega)
          (repeat' ((conv => whnf); first | refine Then.mk ?_ | left | refine zg ?_ (hnx) | refine zg ?_ (fail_c _ _ _ _ _) | refine zgg ?_ (hnx) | refine zgg ?_ (fail_c _ _ _ _ _) | refine zd ?_ | (refine Both.mk ?_ ?_ <;> intro hc <;> try exact wX hc) | (intro c hc; (try (simp only [AH.zA] at hc; repeat (have hn := hc.1; replace hc := hc.2)))) | (refine ACall.to (hnx) ?_) | (refine ACall.to (fail_c _ _ _ _ _) ?_))) <;> (try (conv => whnf))
          all_goals first
            | (have hlt : c.toNat < 128 := by omega
               rw [if_pos hlt] at hRm
               rw [andNot128, show IntKind.u64.wrap ((c.toNat % 128 : Nat) : Int) = ((c.toNat % 128 : Nat) : Int) by rw [wrap_u64']; omega, show (7 * (i : Int)).toNat = 7 * i by omega]
               refine ⟨congrArg (AV.int .u64) (hor.trans ?_), 0, t, ?_, by omega, rfl⟩
               · rw [hRm, Nat.mod_eq_of_lt hlt]; rfl
               · rw [hRm, canon_ok]; rfl)
            | (have hge : ¬ c.toNat < 128 := by omega
               rw [if_neg hge] at hRm
               refine ⟨(i + 1, ((m + c.toNat % 128 * 128 ^ i : Nat) : Int), 0, t), ⟨by omega, by omega, fun _ => ⟨by omega, _, rfl, ?_, hRm⟩, fun h => absurd rfl h⟩, ?_, ⟨congrArg (AV.int .i64) (by omega), ?_, trivial⟩, HLe.refl _⟩
               · rw [Nat.pow_succ]
                 have : c.toNat % 128 * 128 ^ i ≤ 127 * 128 ^ i := Nat.mul_le_mul_right _ (by omega)
                 omega
               · show (if (0 : Int) = 0 then t.length + 1 else 0) < (if (0 : Int) = 0 then b.length + 1 else 0)
                 rw [if_pos rfl, if_pos rfl]; omega
               · refine congrArg (AV.int .u64) ?_
                 rw [andNot128, show IntKind.u64.wrap ((c.toNat % 128 : Nat) : Int) = ((c.toNat % 128 : Nat) : Int) by rw [wrap_u64']; omega, show (7 * (i : Int)).toNat = 7 * i by omega]
                 exact hor)
            | (exfalso; omega)
    · have hRe := hI.no he
      (repeat' ((conv => whnf); first | refine Then.mk ?_ | left | refine zd ?_ | (refine Both.mk ?_ ?_ <;> intro hc <;> try exact wX hc) | (intro c hc; (try (simp only [AH.zA] at hc; repeat (have hn := hc.1; replace hc := hc.2)))))) <;> (try (conv => whnf))
      rw [hRe]
      exact ⟨rfl, e, b, canon_err b he, hbl, rfl⟩
open Go.Fw Go
set_option maxRecDepth 8000 in
theorem unzigzag_c (z : Nat) (hz : z < 2 ^ 64) (H : AH) : ACall Tryz.prog 64 [.int .u64 z] H (fun y H' => y = .int .i64 (unzz z) ∧ H' = H) := by
 refine zQ zU (dok _) Tryz.func64 rfl (by decide) rfl ?_
 (repeat' ((conv => whnf); first | refine Then.mk ?_ | left | refine zd ?_ | (refine Both.mk ?_ ?_ <;> intro hc <;> try exact wX hc) | (intro c hc; (try (simp only [AH.zA] at hc; repeat (have hn := hc.1; replace hc := hc.2)))))) <;> (try (conv => whnf))
 refine ⟨congrArg (AV.int .i64) ?_, rfl⟩
 have e1 : (z : Int).fdiv (2 ^ min (Int.toNat 1) IntKind.u64.bits) = ((z / 2 : Nat) : Int) := by
  rw [show (2 : Int) ^ min (Int.toNat 1) IntKind.u64.bits = 2 by decide, Int.fdiv_eq_ediv_of_nonneg _ (by omega)]
  omega
 have e2 : bitsA .and .u64 (z : Int) 1 = ((z % 2 : Nat) : Int) := by
  show IntKind.u64.wrap ((BitVec.ofInt 64 (z : Int) &&& BitVec.ofInt 64 1).toNat : Int) = _
  have ha : (BitVec.ofInt 64 (z : Int)).toNat = z := by rw [BitVec.toNat_ofInt]; omega
  have hb : (BitVec.ofInt 64 1).toNat = 1 := by decide
  rw [BitVec.toNat_and, ha, hb, Nat.and_one_is_mod, wrap_u64']
  omega
 have e3 : IntKind.i64.wrap ((z / 2 : Nat) : Int) = ((z / 2 : Nat) : Int) := by rw [IntKind.wrap_i64]; omega
 rw [e1, e2, e3]
 show IntKind.i64.wrap ((BitVec.ofInt 64 ((z / 2 : Nat) : Int) ^^^ BitVec.ofInt 64 _).toNat : Int) = _
 have ha : (BitVec.ofInt 64 ((z / 2 : Nat) : Int)).toNat = z / 2 := by rw [BitVec.toNat_ofInt]; omega
 unfold unzz
 by_cases h : z % 2 = 1
 ·rw [h, if_pos rfl, show BitVec.ofInt 64 (IntKind.i64.wrap (0 - IntKind.i64.wrap ((1 : Nat) : Int))) = BitVec.allOnes 64 by decide, BitVec.xor_allOnes, BitVec.toNat_not, ha, IntKind.wrap_i64]
  omega
 ·have h0 : z % 2 = 0 := by omega
  rw [h0, if_neg (by omega), show BitVec.ofInt 64 (IntKind.i64.wrap (0 - IntKind.i64.wrap ((0 : Nat) : Int))) = 0#64 by decide, BitVec.xor_zero, ha, IntKind.wrap_i64]
  omega
theorem rdN_lt {bs : List UInt8} {m : Nat} {r : List UInt8} (h : rdN 0 0 bs = .ok (m, r)) : m < 2 ^ 64 ∧ r.length ≤ bs.length := by
 obtain ⟨n, hm, hb, hn, _⟩ := rdN_uniq bs 0 0 m r (by omega) h
 refine ⟨by omega, ?_⟩
 rw [hb, List.length_append]; omega
theorem rdU_lt (s : RS) : (rdU s).1 < 2 ^ 64 := by
 unfold rdU
 split
 ·exact Nat.two_pow_pos 64
 ·split
  ·rename_i n r h; exact (rdN_lt h).1
  ·exact Nat.two_pow_pos 64
theorem rdLen_bad {s : RS} (h : (rdU s).2.1 ≠ 0) : rdLen s = rdU s := by
 unfold rdLen; rw [if_neg (fun k => h k.1)]
theorem rdLen_more {s : RS} (h : (rdU s).2.1 = 0) (hl : (rdU s).2.2.length < (rdU s).1) : rdLen s = (0, (3, [])) := by
 unfold rdLen; rw [if_pos ⟨h, hl⟩]
theorem rdLen_ok {s : RS} (hl : ¬ (rdU s).2.2.length < (rdU s).1) : rdLen s = rdU s := by
 unfold rdLen; rw [if_neg (fun k => hl k.2)]
theorem rdRaw_bad {s : RS} (h : (rdU s).2.1 ≠ 0) : rdRaw s = ([], (rdU s).2) := by
 unfold rdRaw; rw [rdLen_bad h, if_pos h]
theorem rdRaw_more {s : RS} (h : (rdU s).2.1 = 0) (hl : (rdU s).2.2.length < (rdU s).1) : rdRaw s = ([], (3, [])) := by
 unfold rdRaw; rw [rdLen_more h hl]; rfl
theorem rdRaw_ok {s : RS} (h : (rdU s).2.1 = 0) (hl : ¬ (rdU s).2.2.length < (rdU s).1) : rdRaw s = ((rdU s).2.2.take (rdU s).1, (0, (rdU s).2.2.drop (rdU s).1)) := by
 unfold rdRaw; rw [rdLen_ok hl, if_neg (by rw [h]; simp)]
set_option maxRecDepth 8000 in
theorem rInt_c (p : Nat) (e0 : Int) (b0 : List UInt8) (hb : b0.length ≤ 1000000) (H : AH) :
  ACall Tryz.prog 27 [.ptr p 0 0] (RdH H p e0 b0) (fun y H' => y = .int .i64 (rdI (canon e0 b0)).1 ∧ ∃ e b, canon e b = (rdI (canon e0 b0)).2 ∧ b.length ≤ b0.length ∧ H' = RdH H p e b) := by
 have hlt := rdU_lt (canon e0 b0)
 have hu := rUint_c p e0 b0 hb H
 unfold rdI
 generalize rdU (canon e0 b0) = R at *
 refine zQ zU (dok _) Tryz.func27 rfl (by decide) rfl ?_
 (repeat' ((conv => whnf); first | refine Then.mk ?_ | left | refine zd ?_ | (refine Both.mk ?_ ?_ <;> intro hc <;> try exact wX hc) | (intro c hc; (try (simp only [AH.zA] at hc; repeat (have hn := hc.1; replace hc := hc.2)))))) <;> (try (conv => whnf))
 refine hu.mono ?_
 rintro y H' ⟨rfl, e, b, h1, h2, rfl⟩
 (repeat' ((conv => whnf); first | refine Then.mk ?_ | left | refine zg ?_ (unzigzag_c R.1 hlt _) | refine zgg ?_ (unzigzag_c R.1 hlt _) | refine zd ?_ | (refine Both.mk ?_ ?_ <;> intro hc <;> try exact wX hc) | (intro c hc; (try (simp only [AH.zA] at hc; repeat (have hn := hc.1; replace hc := hc.2)))) | (refine ACall.to (unzigzag_c R.1 hlt _) ?_))) <;> (try (conv => whnf))
 exact ⟨e, b, h1, h2, rfl⟩
set_option maxRecDepth 8000 in
theorem listb_c (p : Nat) (e0 : Int) (b0 : List UInt8) (hb : b0.length ≤ 1000000) (H : AH) :
  ACall Tryz.prog 66 [.ptr p 0 0, .fn (.func 67) [.ptr p 0 0] []] (RdH H p e0 b0) (fun y H' => y = .cs (u8s (rdRaw (canon e0 b0)).1) (rdRaw (canon e0 b0)).1.length ∧ ∃ e b, canon e b = (rdRaw (canon e0 b0)).2 ∧ b.length ≤ b0.length ∧ H' = RdH H p e b) := by
 have hlt := rdU_lt (canon e0 b0)
 have hu := rUint_c p e0 b0 hb H
 have hz1 := rdRaw_bad (s := canon e0 b0)
 have hz2 := rdRaw_more (s := canon e0 b0)
 have hz3 := rdRaw_ok (s := canon e0 b0)
 generalize rdRaw (canon e0 b0) = Z at *
 generalize rdU (canon e0 b0) = R at *
 obtain ⟨n, s1⟩ := R
 dsimp only at *
 refine ACall.coldX (es := 1) (by simp) ?_
 refine zQ zU (dok _) Tryz.func66 rfl (by decide) rfl ?_
 (repeat' ((conv => whnf); first | refine Then.mk ?_ | left | refine zd ?_ | (refine Both.mk ?_ ?_ <;> intro hc <;> try exact wX hc) | (intro c hc; (try (simp only [AH.zA] at hc; repeat (have hn := hc.1; replace hc := hc.2)))))) <;> (try (conv => whnf))
 refine hu.mono ?_
 rintro y H' ⟨rfl, e1, b1, h1, h2, rfl⟩
 by_cases he : e1 = 0
 ·subst he
  rw [canon_ok] at h1
  subst h1
  by_cases hn : b1.length < n
  ·have hZ := hz2 rfl hn
   (repeat' ((conv => whnf); first | refine Then.mk ?_ | left | refine zg ?_ (fail_c _ _ _ _ _) | refine zgg ?_ (fail_c _ _ _ _ _) | refine zd ?_ | (refine Both.mk ?_ ?_ <;> intro hc <;> try exact wX hc) | (intro c hc; (try (simp only [AH.zA] at hc; repeat (have hn := hc.1; replace hc := hc.2)))) | (refine ACall.to (fail_c _ _ _ _ _) ?_))) <;> (try (conv => whnf))
   refine zT (σ := Unit) (6 :: 7 :: 20 :: 21 :: 22 :: 23 :: 24 :: 25 :: 26 :: 27 :: 28 :: 29 :: 30 :: 31 :: 32 :: 33 :: 34 :: 35 :: 36 :: []) (fun _ => [(7, .int .u64 0), (6, .nils)]) (fun _ => RdH H p 3 b1) (fun _ => True) (fun _ => 0) () rfl ?_ ?_ ?_ ?_
   ·trivial
   ·exact ⟨rfl, rfl, trivial⟩
   ·exact HLe.refl _
   ·rintro ⟨⟩ _
    refine AWp.of zU (dok _) rfl ?_
    (repeat' ((conv => whnf); first | refine Then.mk ?_ | left | refine zd ?_ | (refine Both.mk ?_ ?_ <;> intro hc <;> try exact wX hc) | (intro c hc; (try (simp only [AH.zA] at hc; repeat (have hn := hc.1; replace hc := hc.2)))))) <;> (try (conv => whnf))
    rw [hZ]
    exact ⟨_, ⟨3, b1, canon_err _ (by decide), h2, rfl⟩, .inl ⟨rfl, rfl, HLe.refl _⟩⟩
  ·have hZ : Z = (b1.take n, (0, b1.drop n)) := hz3 rfl hn
   have hn' : n ≤ b1.length := by omega
   (repeat' ((conv => whnf); first | refine Then.mk ?_ | left | refine zd ?_ | (refine Both.mk ?_ ?_ <;> intro hc <;> try exact wX hc) | (intro c hc; (try (simp only [AH.zA] at hc; repeat (have hn := hc.1; replace hc := hc.2)))))) <;> (try (conv => whnf))
   refine AWp_nilrow1 6 1 rfl rfl fun r hr => ?_
   have hrp : r ≠ p := fun e => by rw [e] at hr; unfold RdH at hr; rw [AH.zC] at hr; cases hr
   have hr0 : H r = none := by unfold RdH at hr; rw [AH.zR _ _ hrp] at hr; exact hr
   refine zT (σ := Nat × Nat) (6 :: 7 :: 20 :: 21 :: 22 :: 23 :: 24 :: 25 :: 26 :: 27 :: 28 :: 29 :: 30 :: 31 :: 32 :: 33 :: 34 :: 35 :: 36 :: []) (fun (i, v) => [(7, .int .u64 i), (6, .sl r v 1 0 i none)]) (fun (i, v) => RdH (H.set r (.row (u8s (b1.take i)) v)) p 0 (b1.drop i)) (fun (i, v) => i ≤ n) (fun (i, v) => n - i) (0, 0) rfl ?_ ?_ ?_ ?_
   ·exact Nat.zero_le _
   ·exact ⟨rfl, rfl, trivial⟩
   ·exact HLe.of_eq (AH.set_comm _ _ _ hrp)
   ·rintro ⟨i, v⟩ hi
    refine AWp.of zU (dok _) rfl ?_
    have hi : i ≤ n := hi
    have hdl : (b1.drop i).length = b1.length - i := List.length_drop
    (repeat' ((conv => whnf); first | refine Then.mk ?_ | left | refine zd ?_ | (refine Both.mk ?_ ?_ <;> intro hc <;> try exact wX hc) | (intro c hc; (try (simp only [AH.zA] at hc; repeat (have hn := hc.1; replace hc := hc.2)))))) <;> (try (conv => whnf))
    ·have hlt' : i < n := by omega
     have hnx := next_c p 0 (b1.drop i) (by omega) (H.set r (.row (u8s (b1.take i)) v))
     have e1 : nx 0 (b1.drop i) = ((b1.getD i 0).toNat, 0, b1.drop (i + 1)) := by
      unfold nx; rw [if_neg (by simp), if_neg (by omega), List.drop_drop]
      simp
     rw [e1] at hnx
     dsimp only at hnx
     (repeat' ((conv => whnf); first | refine Then.mk ?_ | left | refine zg ?_ (hnx) | refine zgg ?_ (hnx) | refine zd ?_ | (refine Both.mk ?_ ?_ <;> intro hc <;> try exact wX hc) | (intro c hc; (try (simp only [AH.zA] at hc; repeat (have hn := hc.1; replace hc := hc.2)))) | (refine ACall.to (hnx) ?_))) <;> (try (conv => whnf))
     refine ⟨(i + 1, v + 1), by show i + 1 ≤ n; omega, by show n - (i + 1) < n - i; omega, ⟨congrArg (AV.int .u64) (by omega), rfl, trivial⟩, ?_⟩
     show HLe (RdH (H.set r (.row (u8s (b1.take (i + 1))) (v + 1))) p 0 (b1.drop (i + 1))) _
     rw [List.take_add_one, List.getElem?_eq_getElem (show i < b1.length by omega), ← u8s_append]
     refine HLe.of_eq (Eq.trans ?_ (AH.set_back H hrp _ _ _).symm)
     have : b1.getD i 0 = b1[i]'(by omega) := by simp [show i < b1.length by omega]
     rw [this]
     rfl
    ·have hin : i = n := by omega
     subst hin
     rw [hZ]
     refine ⟨RdH H p 0 (b1.drop i), ⟨0, b1.drop i, canon_ok _, by omega, rfl⟩, .inr ⟨r, by unfold RdH; rw [AH.zR _ _ hrp]; exact hr0, v, ?_, ?_⟩⟩
     ·rw [List.length_take, Nat.min_eq_left hn']
     ·exact AH.set_comm _ _ _ (Ne.symm hrp) |>.symm
 ·rw [canon_err _ he] at h1
  subst h1
  have hZ := hz1 he
  have hf := fail_c p 3 e1 b1 H
  rw [if_neg he] at hf
  (repeat' ((conv => whnf); first | refine Then.mk ?_ | left | refine zg ?_ (hf) | refine zgg ?_ (hf) | refine zd ?_ | (refine Both.mk ?_ ?_ <;> intro hc <;> try exact wX hc) | (intro c hc; (try (simp only [AH.zA] at hc; repeat (have hn := hc.1; replace hc := hc.2)))) | (refine ACall.to (hf) ?_))) <;> (try (conv => whnf))
  all_goals
   refine zT (σ := Unit) (6 :: 7 :: 20 :: 21 :: 22 :: 23 :: 24 :: 25 :: 26 :: 27 :: 28 :: 29 :: 30 :: 31 :: 32 :: 33 :: 34 :: 35 :: 36 :: []) (fun _ => [(7, .int .u64 0), (6, .nils)]) (fun _ => RdH H p e1 b1) (fun _ => True) (fun _ => 0) () rfl ?_ ?_ ?_ ?_
   ·trivial
   ·exact ⟨rfl, rfl, trivial⟩
   ·exact HLe.refl _
   ·rintro ⟨⟩ _
    refine AWp.of zU (dok _) rfl ?_
    (repeat' ((conv => whnf); first | refine Then.mk ?_ | left | refine zd ?_ | (refine Both.mk ?_ ?_ <;> intro hc <;> try exact wX hc) | (intro c hc; (try (simp only [AH.zA] at hc; repeat (have hn := hc.1; replace hc := hc.2)))))) <;> (try (conv => whnf))
    all_goals
     rw [hZ]
     exact ⟨_, ⟨e1, b1, canon_err _ he, h2, rfl⟩, .inl ⟨rfl, rfl, HLe.refl _⟩⟩
open Go.Fw Go
set_option maxRecDepth 8000 in
theorem rRaw_c (p : Nat) (e0 : Int) (b0 : List UInt8) (hb : b0.length ≤ 1000000) (H : AH) :
  ACall Tryz.prog 28 [.ptr p 0 0] (RdH H p e0 b0) (fun y H' => y = .cs (u8s (rdRaw (canon e0 b0)).1) (rdRaw (canon e0 b0)).1.length ∧ ∃ e b, canon e b = (rdRaw (canon e0 b0)).2 ∧ b.length ≤ b0.length ∧ H' = RdH H p e b) := by
 have hu := listb_c p e0 b0 hb H
 generalize rdRaw (canon e0 b0) = R at *
 refine zQ zU (dok _) Tryz.func28 rfl (by decide) rfl ?_
 (repeat' ((conv => whnf); first | refine Then.mk ?_ | left | refine zd ?_ | (refine Both.mk ?_ ?_ <;> intro hc <;> try exact wX hc) | (intro c hc; (try (simp only [AH.zA] at hc; repeat (have hn := hc.1; replace hc := hc.2)))))) <;> (try (conv => whnf))
 refine hu.mono ?_
 rintro y H' ⟨rfl, e, b, h1, h2, rfl⟩
 (repeat' ((conv => whnf); first | refine Then.mk ?_ | left | refine zd ?_ | (refine Both.mk ?_ ?_ <;> intro hc <;> try exact wX hc) | (intro c hc; (try (simp only [AH.zA] at hc; repeat (have hn := hc.1; replace hc := hc.2)))))) <;> (try (conv => whnf))
 exact ⟨e, b, h1, h2, rfl⟩
set_option maxRecDepth 8000 in
theorem rEnd_c (p : Nat) (e : Int) (b : List UInt8) (H : AH) :
  ACall Tryz.prog 76 [.ptr p 0 0] (RdH H p e b) (fun y H' => y = .int .i64 (endE (canon e b)) ∧ H' = RdH H p e b) := by
 have h1 : e ≠ 0 → endE (canon e b) = e := fun h => by rw [canon_err _ h]; unfold endE; rw [if_neg (fun k => h k.1)]
 have h2 : e = 0 → b.length = 0 → endE (canon e b) = 0 := fun h h' => by
  have : b = [] := List.eq_nil_of_length_eq_zero h'
  rw [h, canon_ok, this]; rfl
 have h3 : e = 0 → ¬ b.length = 0 → endE (canon e b) = 2 := fun h h' => by
  rw [h, canon_ok]; unfold endE; rw [if_pos ⟨rfl, fun k => h' (by rw [show b = [] from k]; rfl)⟩]
 generalize endE (canon e b) = x at *
 refine zQ zU (dok _) Tryz.func76 rfl (by decide) rfl ?_
 (repeat' ((conv => whnf); first | refine Then.mk ?_ | left | refine zd ?_ | (refine Both.mk ?_ ?_ <;> intro hc <;> try exact wX hc) | (intro c hc; (try (simp only [AH.zA] at hc; repeat (have hn := hc.1; replace hc := hc.2)))))) <;> (try (conv => whnf))
set_option maxRecDepth 8000 in
theorem Read_c (b : List UInt8) (hb : b.length ≤ 1000000) (H : AH) :
  ACall Tryz.prog 26 [.cs (u8s b) b.length] H (fun y H' => ∃ p, H p = none ∧ y = .ptr p 0 0 ∧ H' = RdH H p 0 b) := by
 refine zQ zU (dok _) Tryz.func26 rfl (by decide) rfl ?_
 (repeat' ((conv => whnf); first | refine Then.mk ?_ | left | refine zg ?_ (ACall.coldN (es := 1) (by simp) (clone_cs b hb _)) | refine zgg ?_ (ACall.coldN (es := 1) (by simp) (clone_cs b hb _)) | refine zd ?_ | (refine Both.mk ?_ ?_ <;> intro hc <;> try exact wX hc) | (intro c hc; (try (simp only [AH.zA] at hc; repeat (have hn := hc.1; replace hc := hc.2)))) | (refine ACall.to (ACall.coldN (es := 1) (by simp) (clone_cs b hb _)) ?_))) <;> (try (conv => whnf))
 rfl
open Go.Fw Go
theorem AWp_writer {P : Program} {N : Nat} {ro : Option Nat} {ws : Nat → Bool} {code : Code} {K R : St → AH → Prop} {X : Nat → St → AH → Prop} {s : St} {H : AH} {c : Nat} (hc : H c = none)
  (h : ∀ r, c ≠ r → H r = none → AWp N P ro ws code K R X s (WrH H c r 0 [])) : AWp N P ro ws code K R X s (H.set c (.row [.nils] 0)) := by
 refine AWp_nilC 1 [] [] (p := c) (AH.zC ..) fun r hr hrc => ?_
 have := h r (Ne.symm hrc) (by rw [AH.zR _ _ hrc] at hr; exact hr)
 refine AWp_less _ (HLe.of_eq ?_) this
 exact (AH.set_back H (Ne.symm hrc) _ _ _).symm
theorem canon_zero {e : Int} {b r : List UInt8} (h : canon e b = (0, r)) : e = 0 ∧ b = r := by
 have h1 : e = 0 := congrArg Prod.fst h
 subst h1
 rw [canon_ok] at h
 exact ⟨rfl, congrArg Prod.snd h⟩
theorem rInt_ok (p : Nat) {b r : List UInt8} {x : Int} (hb : b.length ≤ 1000000) (h : rdI (0, b) = (x, (0, r))) (H : AH) : ACall Tryz.prog 27 [.ptr p 0 0] (RdH H p 0 b) (fun y H' => y = .int .i64 x ∧ H' = RdH H p 0 r) := by
 have := rInt_c p 0 b hb H
 rw [canon_ok, h] at this
 refine this.mono ?_
 rintro y H' ⟨rfl, e, b', h1, _, rfl⟩
 obtain ⟨rfl, rfl⟩ := canon_zero h1
 exact ⟨rfl, rfl⟩
theorem rRaw_ok (p : Nat) {b r : List UInt8} {x : List UInt8} (hb : b.length ≤ 1000000) (h : rdRaw (0, b) = (x, (0, r))) (H : AH) : ACall Tryz.prog 28 [.ptr p 0 0] (RdH H p 0 b) (fun y H' => y = .cs (u8s x) x.length ∧ H' = RdH H p 0 r) := by
 have := rRaw_c p 0 b hb H
 rw [canon_ok, h] at this
 refine this.mono ?_
 rintro y H' ⟨rfl, e, b', h1, _, rfl⟩
 obtain ⟨rfl, rfl⟩ := canon_zero h1
 exact ⟨rfl, rfl⟩
open Go.Fw Go
def byteOf (x : Int) (j : Nat) : UInt8 := UInt8.ofNat ((x.fdiv (2 ^ j)) % 256).toNat
def bytesOf (x : Int) (n : Nat) : List UInt8 := (List.range n).map (byteOf x)
open Go.Fw Go
theorem encI_len {n : Int} (h : I64 n) : (encI n).length ≤ 10 := encN_len10 (zz_lt h.1 h.2)
theorem encIs_len10 : ∀ l : List Int, (∀ x ∈ l, I64 x) → (encIs l).length ≤ 10 * l.length
 | [], _ => Nat.zero_le _
 | x :: l, h => by
  have := encIs_len10 l (fun y hy => h y (by simp [hy]))
  have := encI_len (h x (by simp))
  have e : encIs (x :: l) = encI x ++ encIs l := by simp [encIs]
  rw [e, List.length_append, List.length_cons]; omega
structure VSm (v : V) : Prop where
 ok : VOk v
 b : v.b.length ≤ 200
 l : v.l.length ≤ 20
theorem VSm.w {v : V} (h : VSm v) : WOk v := ⟨h.ok.u, h.ok.n, by have := h.b; omega, by have := h.l; omega, h.ok.l⟩
theorem encV_len {v : V} (h : VSm v) : (encV v).length ≤ 300 := by
 unfold encV
 repeat' split
 ·have := encN_len10 h.ok.u; omega
 ·have := encI_len h.ok.n; omega
 ·unfold encB; split <;> simp
 ·unfold encR
  have := h.b
  have := encN_len10 (n := v.b.length) (by omega)
  rw [List.length_append]; omega
 ·unfold encL
  have := h.l
  have := encN_len10 (n := v.l.length) (by omega)
  have := encIs_len10 v.l h.ok.l
  rw [List.length_append]; omega
theorem encVs_len : ∀ vs : List V, (∀ v ∈ vs, VSm v) → (encVs vs).length ≤ 300 * vs.length
 | [], _ => Nat.zero_le _
 | v :: vs, h => by
  have := encVs_len vs (fun y hy => h y (by simp [hy]))
  have := encV_len (h v (by simp))
  have e : encVs (v :: vs) = encV v ++ encVs vs := by simp [encVs]
  rw [e, List.length_append, List.length_cons]; omega
theorem VSm.bd {vs : List V} (hv : ∀ v ∈ vs, VSm v) (hl : vs.length ≤ 100) : (encVs vs).length ≤ 100000 := by
 have := encVs_len vs hv; omega
open Go.Fw Go
theorem ints_len {l : List Int} (h : I64L l) {m : Nat} (hm : l.length ≤ m) (hm2 : m ≤ 65536) : (intsS l).1.length ≤ 130 * m + 4 ∧ (intsS l).2 = 0 := by
 unfold intsS
 rw [if_pos (by omega)]
 have h1 := code_len (intsI (l.map fold) is0).E.σ
 have h2 := intsI_L (l.map fold) (I := is0) (fold_all h) is0_ok
 have h0 : is0.E.σ.L = 0 := rfl
 rw [h0, List.length_map] at h2
 exact ⟨by dsimp only; omega, rfl⟩
theorem runsR_mem : ∀ (n : Nat) (L : List Int), L.length = n → ∀ p, p ∈ runsR L → p.1 ∈ L ∧ 0 < p.2 ∧ p.2 ≤ L.length
 | 0, L, hn, p, hp => by
  rw [List.eq_nil_of_length_eq_zero hn] at hp
  cases hp
 | n + 1, L, hn, p, hp => by
  rcases list_end L with rfl | ⟨S, l, rfl⟩
  ·cases hn
  ·have hS : S.length = n := by rw [List.length_append, List.length_singleton] at hn; omega
   have ih := runsR_mem n S hS
   rw [runsR_snoc] at hp
   rw [List.length_append, List.length_singleton]
   rcases list_end (runsR S) with e | ⟨R, ⟨x, m⟩, e⟩
   ·rw [e, pushR_nil] at hp
    simp only [List.mem_singleton] at hp
    rw [hp]; exact ⟨by simp, Nat.one_pos, by dsimp only; omega⟩
   ·rw [e] at hp ih
    have ihx := ih (x, m) (by simp)
    dsimp only at ihx
    by_cases h : x = l
    ·subst h
     rw [pushR_same] at hp
     rcases List.mem_append.1 hp with h1 | h1
     ·have := ih p (List.mem_append_left _ h1)
      exact ⟨List.mem_append_left _ this.1, this.2.1, by omega⟩
     ·simp only [List.mem_singleton] at h1
      rw [h1]; exact ⟨by simp, by dsimp only; omega, by dsimp only; omega⟩
    ·rw [pushR_new _ _ _ _ h] at hp
     rcases List.mem_append.1 hp with h1 | h1
     ·have := ih p h1
      exact ⟨List.mem_append_left _ this.1, this.2.1, by omega⟩
     ·simp only [List.mem_singleton] at h1
      rw [h1]; exact ⟨by simp, Nat.one_pos, by dsimp only; omega⟩
theorem flat_I64 {L : List Int} (h : I64L L) (hl : L.length ≤ 5000) : I64L (flatR (runsR L)) := fun x hx => by
 unfold flatR at hx
 obtain ⟨p, hp, hxp⟩ := List.mem_flatMap.1 hx
 have := runsR_mem _ L rfl p hp
 simp only [List.mem_cons, List.not_mem_nil, or_false] at hxp
 rcases hxp with rfl | rfl
 ·exact h _ this.1
 ·omega
def labP (L : List Int) : List UInt8 := encI ((runsR L).length : Int) ++ encR (intsS (flatR (runsR L))).1
theorem encR_len {b : List UInt8} (h : b.length < 2 ^ 64) : (encR b).length ≤ b.length + 10 := by
 unfold encR
 have := encN_len10 h
 rw [List.length_append]; omega
theorem flat_small {L : List Int} (hl : L.length ≤ 300) : (flatR (runsR L)).length ≤ 600 := by
 have := runsR_len L
 rw [flatR_len]; omega
theorem labP_len {L : List Int} (h : I64L L) (hl : L.length ≤ 300) : (labP L).length ≤ 79000 := by
 have h1 := (ints_len (flat_I64 h (by omega)) (m := 600) (flat_small hl) (by omega)).1
 have h2 := encR_len (b := (intsS (flatR (runsR L))).1) (by omega)
 have h3 := runsR_len L
 have h4 := encI_len (n := ((runsR L).length : Int)) (by unfold I64; omega)
 unfold labP
 rw [List.length_append]; omega
set_option maxRecDepth 8000 in
set_option maxHeartbeats 4000000 in
theorem labelPart_c (L : List Int) (h : I64L L) (hl : L.length ≤ 300) (H : AH) : ACall Tryz.prog 33 [.cs (iS .i64 L) L.length] H (fun y H' => y = .cs (u8s (labP L)) (labP L).length ∧ H' = H) := by
 have rc := fun H => runs_c L (by omega) H
 have hfl := flat_small hl
 have hfI := flat_I64 h (by omega)
 have ic := fun H => cInts_c (flatR (runsR L)) hfI (by omega) H
 obtain ⟨hil, hi0⟩ := ints_len hfI hfl (by omega)
 unfold k_resV at ic
 rw [hi0] at ic
 have hfe := flatR_len (runsR L)
 have hrl := runsR_len L
 have hlp := labP_len h hl
 unfold labP at hlp ⊢
 generalize flatR (runsR L) = R at *
 generalize (runsR L).length = n at *
 generalize (intsS R).1 = B at *
 rw [hfe] at rc ic
 refine ACall.back ?_
 refine zQ zU (dok _) Tryz.func33 rfl (by decide) rfl ?_
 (repeat' ((conv => whnf); first | left | refine zd ?_ | (refine Both.mk ?_ ?_ <;> intro hc <;> try exact wX hc) | (intro c hc; (try (simp only [AH.zA] at hc; repeat (have hn := hc.1; replace hc := hc.2)))))) <;> (try (conv => whnf))
 refine Then.mk ?_
 (repeat' ((conv => whnf); first | left | refine zd ?_ | (refine Both.mk ?_ ?_ <;> intro hc <;> try exact wX hc) | (intro c hc; (try (simp only [AH.zA] at hc; repeat (have hn := hc.1; replace hc := hc.2)))))) <;> (try (conv => whnf))
 (obtain ⟨w, hq_⟩ : ∃ w, w = c := ⟨_, rfl⟩); subst hq_
 have hcc : H w = none := hc
 refine Then.mk (AWq.in ?_)
 refine AWp_writer hcc fun r hcr hr => ?_
 have hle : ∀ v bs, HLe H (WrH H w r v bs) := fun v bs => HLe.set_of _ _ (HLe.set_of _ _ (HLe.refl _) hcc) hr
 refine AWp.of zU (dok _) rfl ?_
 have e1 : IntKind.i64.wrap (((2 * n : Nat) : Int).tdiv 2) = n := by
  rw [show ((2 * n : Nat) : Int).tdiv 2 = ((2 * n / 2 : Nat) : Int) from rfl, IntKind.wrap_i64]; omega
 have hn10 := encI_len (n := (n : Int)) (by unfold I64; omega)
 have h1 := wInt_c w r 0 [] n (by unfold I64; omega) (by simp) H hcr
 have h2 := fun v => wRaw_c w r v (encI n) B (by omega) (by omega) H hcr
 have h3 := fun v => wDone_c w r v (encI n ++ encR B) (by omega) H hcr
 rw [List.nil_append] at h1
 generalize hG : WrH H w r 0 [] = G at *
 (repeat' ((conv => whnf); first | refine Then.mk ?_ | left | refine zg ?_ (rc _) | refine zg ?_ (ic _) | refine zgg ?_ (rc _) | refine zgg ?_ (ic _) | refine zd ?_ | (refine Both.mk ?_ ?_ <;> intro hc <;> try exact wX hc) | (intro c hc; (try (simp only [AH.zA] at hc; repeat (have hn := hc.1; replace hc := hc.2)))) | (refine ACall.to (rc _) ?_) | (refine ACall.to (ic _) ?_))) <;> (try (conv => whnf))
 refine h1.mono ?_
 rintro y H' ⟨rfl, v1, rfl⟩
 have h2 := h2 v1
 generalize hG1 : WrH H w r v1 (encI n) = G1 at *
 (repeat' ((conv => whnf); first | refine Then.mk ?_ | left | refine zd ?_ | (refine Both.mk ?_ ?_ <;> intro hc <;> try exact wX hc) | (intro c hc; (try (simp only [AH.zA] at hc; repeat (have hn := hc.1; replace hc := hc.2)))))) <;> (try (conv => whnf))
 refine h2.mono ?_
 rintro y H' ⟨rfl, v2, rfl⟩
 have h3 := h3 v2
 have hle := hle v2 (encI n ++ encR B)
 generalize hG2 : WrH H w r v2 (encI n ++ encR B) = G2 at *
 (repeat' ((conv => whnf); first | refine Then.mk ?_ | left | refine zg ?_ (h3) | refine zgg ?_ (h3) | refine zd ?_ | (refine Both.mk ?_ ?_ <;> intro hc <;> try exact wX hc) | (intro c hc; (try (simp only [AH.zA] at hc; repeat (have hn := hc.1; replace hc := hc.2)))) | (refine ACall.to (h3) ?_))) <;> (try (conv => whnf))
 exact hle
set_option maxRecDepth 8000 in
set_option maxHeartbeats 4000000 in
theorem bandPart_c {Z : List Int} (hz : ZO Z) (hzig : ∀ H, ACall Tryz.prog 13 [.int .i64 16] H (fun y H' => y = .tup [.cs (iS .i64 Z) 256, .int .i64 0] ∧ H' = H)) (a : List Int) (h : BOk a) (H : AH) :
  ACall Tryz.prog 34 [.cs (iS .i64 a) 256] H (fun y H' => y = .cs (u8s (bandP Z a)) (bandP Z a).length ∧ H' = H) := by
 have fw : ∀ H, ACall Tryz.prog 15 [.int .i64 16, .cs (iS .i64 a) 256] H (fun y H' => y = .tup [.cs (iS .i64 (coefL a)) 256, .int .i64 0] ∧ H' = H) := fun H => by
  have := Forward_ok 4 (by decide) a (by rw [h.len]) h.inA H
  unfold resV at this
  rw [h.len] at this
  have e : (toL (2 ^ 4) (fwd 4 (ofL (2 ^ 4) a))).length = 256 := coefL_len a
  dsimp only at this
  rw [e] at this
  exact this
 have hsI : I64L (sortL Z a) := sortL_ok hz h
 have hsl := sortL_len hz a
 have ic := fun H => cInts_c (sortL Z a) hsI (by omega) H
 obtain ⟨hil, hi0⟩ := ints_len hsI (m := 256) (by omega) (by omega)
 unfold k_resV at ic
 rw [hi0, hsl] at ic
 unfold bandP
 generalize (intsS (sortL Z a)).1 = B at *
 have hzl : (iS .i64 Z).length = 256 := by rw [iS_length]; exact hz.len
 have hcl : (iS .i64 (coefL a)).length = 256 := by rw [iS_length]; exact coefL_len a
 refine ACall.back ?_
 refine zQ zU (dok _) Tryz.func34 rfl (by decide) rfl ?_
 (repeat' ((conv => whnf); first | left | refine zd ?_ | (refine Both.mk ?_ ?_ <;> intro hc <;> try exact wX hc) | (intro c hc; (try (simp only [AH.zA] at hc; repeat (have hn := hc.1; replace hc := hc.2)))))) <;> (try (conv => whnf))
 refine Then.mk ?_
 (repeat' ((conv => whnf); first | left | refine zg ?_ (fw _) | refine zgg ?_ (fw _) | refine zd ?_ | (refine Both.mk ?_ ?_ <;> intro hc <;> try exact wX hc) | (intro c hc; (try (simp only [AH.zA] at hc; repeat (have hn := hc.1; replace hc := hc.2)))) | (refine ACall.to (fw _) ?_))) <;> (try (conv => whnf))
 refine Then.mk ?_
 (repeat' ((conv => whnf); first | left | refine zg ?_ (hzig _) | refine zgg ?_ (hzig _) | refine zd ?_ | (refine Both.mk ?_ ?_ <;> intro hc <;> try exact wX hc) | (intro c hc; (try (simp only [AH.zA] at hc; repeat (have hn := hc.1; replace hc := hc.2)))) | (refine ACall.to (hzig _) ?_))) <;> (try (conv => whnf))
 refine Then.mk ?_
 (repeat' ((conv => whnf); first | left | refine zd ?_ | (refine Both.mk ?_ ?_ <;> intro hc <;> try exact wX hc) | (intro c hc; (try (simp only [AH.zA] at hc; repeat (have hn := hc.1; replace hc := hc.2)))))) <;> (try (conv => whnf))
 refine Then.mk (AWq.in ?_)
 refine AWp_nilrow1 7 1 rfl rfl fun q hq => ?_
 refine AWp.of zU (dok _) rfl ?_
 (repeat' ((conv => whnf); first | refine Then.mk ?_ | left | refine zd ?_ | (refine Both.mk ?_ ?_ <;> intro hc <;> try exact wX hc) | (intro c hc; (try (simp only [AH.zA] at hc; repeat (have hn := hc.1; replace hc := hc.2)))))) <;> (try (conv => whnf))
 refine zT (σ := Nat) (7 :: 9 :: 23 :: 24 :: 25 :: 26 :: 27 :: 28 :: 29 :: 30 :: 31 :: 32 :: 33 :: 34 :: []) (fun i => [(23, .int .i64 i), (7, .sl q i 1 0 i none)]) (fun i => H.set q (.row (iS .i64 ((sortL Z a).take i)) i)) (fun i => i ≤ 256) (fun i => 256 - i) 0 rfl (Nat.zero_le _) ⟨rfl, rfl, trivial⟩ (HLe.refl _) ?_
 intro i hi
 refine AWp.of zU (dok _) rfl ?_
 dsimp only at hi ⊢
 have gq := AH.zC H q (.row (iS .i64 ((sortL Z a).take i)) i)
 have lR : (iS .i64 ((sortL Z a).take i)).length = i := by rw [iS_length, List.length_take]; omega
 by_cases hit : i < 256
 ·have hiz : i < Z.length := by rw [hz.len]; exact hit
  have gz : (iS .i64 Z)[(i : Int).toNat]? = some (.int .i64 (Z.getD i 0)) := iS_get hiz
  have hb := hz.bd _ (getD_mem hiz)
  have gc : (iS .i64 (coefL a))[(Z.getD i 0).toNat]? = some (.int .i64 ((coefL a).getD (Z.getD i 0).toNat 0)) := iS_get (by rw [coefL_len]; omega)
  rw [← sortL_at a hiz] at gc
  have ht : iS .i64 ((sortL Z a).take (i + 1)) = iS .i64 ((sortL Z a).take i) ++ [.int .i64 ((sortL Z a).getD i 0)] := by
   rw [take_snoc (x := (sortL Z a).getD i 0) (by rw [List.getD_eq_getElem?_getD, List.getElem?_eq_getElem (by omega)]; rfl), ← iS_snoc]
  generalize iS .i64 ((sortL Z a).take i) = R at *
  generalize (sortL Z a).getD i 0 = v at *
  generalize Z.getD i 0 = z at *
  (repeat' ((conv => whnf); first | refine Then.mk ?_ | left | refine zd ?_ | (refine Both.mk ?_ ?_ <;> intro hc <;> try exact wX hc) | (intro c hc; (try (simp only [AH.zA] at hc; repeat (have hn := hc.1; replace hc := hc.2)))))) <;> (try (conv => whnf))
  exact ⟨i + 1, hit, by omega, ⟨congrArg (AV.int .i64) (by omega), rfl, trivial⟩, HLe.of_eq (by rw [ht, AH.zS])⟩
 ·have hie : i = 256 := by omega
  subst hie
  rw [List.take_of_length_le (by omega)] at gq lR ⊢
  (repeat' ((conv => whnf); first | left | refine zd ?_ | (refine Both.mk ?_ ?_ <;> intro hc <;> try exact wX hc) | (intro c hc; (try (simp only [AH.zA] at hc; repeat (have hn := hc.1; replace hc := hc.2)))))) <;> (try (conv => whnf))
  refine Then.mk ?_
  (repeat' ((conv => whnf); first | left | refine zd ?_ | (refine Both.mk ?_ ?_ <;> intro hc <;> try exact wX hc) | (intro c hc; (try (simp only [AH.zA] at hc; repeat (have hn := hc.1; replace hc := hc.2)))))) <;> (try (conv => whnf))
  refine Then.mk (AWq.in ?_)
  refine AWp_freeze1 7 rfl rfl gq (by omega) ?_
  rw [AH.del_set _ _ _ hq]
  refine AWp.of zU (dok _) rfl ?_
  (repeat' ((conv => whnf); first | refine Then.mk ?_ | left | refine zg ?_ (ic _) | refine zgg ?_ (ic _) | refine zd ?_ | (refine Both.mk ?_ ?_ <;> intro hc <;> try exact wX hc) | (intro c hc; (try (simp only [AH.zA] at hc; repeat (have hn := hc.1; replace hc := hc.2)))) | (refine ACall.to (ic _) ?_))) <;> (try (conv => whnf))
  exact HLe.refl _
def pvL (ps : List (List UInt8)) : List AV := ps.map fun p => .cs (u8s p) p.length
@[simp] theorem pvL_len (ps : List (List UInt8)) : (pvL ps).length = ps.length := List.length_map ..
theorem pvL_get {ps : List (List UInt8)} {i : Nat} {p : List UInt8} (h : ps[i]? = some p) : (pvL ps)[i]? = some (.cs (u8s p) p.length) := by
 unfold pvL; rw [List.getElem?_map, h]; rfl
theorem pvL_snoc (ps : List (List UInt8)) (p : List UInt8) : pvL (ps ++ [p]) = pvL ps ++ [.cs (u8s p) p.length] := by unfold pvL; rw [List.map_append]; rfl
def encRs (ps : List (List UInt8)) : List UInt8 := ps.flatMap encR
def joinP (ps : List (List UInt8)) : List UInt8 := encI ((ps.length : Int) - 1) ++ encRs ps
theorem encRs_snoc (ps : List (List UInt8)) (p : List UInt8) : encRs (ps ++ [p]) = encRs ps ++ encR p := by unfold encRs; rw [List.flatMap_append]; simp
theorem encRs_len {ps : List (List UInt8)} {m : Nat} (h : ∀ p ∈ ps, p.length ≤ m) (hm : m < 2 ^ 40) : (encRs ps).length ≤ ps.length * (m + 10) := by
 induction ps with
 | nil => simp [encRs]
 | cons p ps ih =>
  have h1 := ih fun q hq => h q (List.mem_cons_of_mem _ hq)
  have h2 := encR_len (b := p) (by have := h p (by simp); omega)
  have h3 := h p (by simp)
  show (encR p ++ encRs ps).length ≤ _
  rw [List.length_append, List.length_cons, Nat.add_mul]
  omega
set_option maxRecDepth 8000 in
set_option maxHeartbeats 4000000 in
theorem join_c (ps : List (List UInt8)) (h1 : 1 ≤ ps.length) (h2 : ps.length ≤ 9) (hp : ∀ p ∈ ps, p.length ≤ 90000) (H : AH) :
  ACall Tryz.prog 35 [.cs (pvL ps) ps.length] H (fun y H' => y = .cs (u8s (joinP ps)) (joinP ps).length ∧ H' = H) := by
 have hn10 := encI_len (n := (ps.length : Int) - 1) (by unfold I64; omega)
 have hlt : ∀ i, (encRs (ps.take i)).length ≤ 9 * 90010 := fun i => by
  have := encRs_len (ps := ps.take i) (m := 90000) (fun p hp' => hp p (List.mem_of_mem_take hp')) (by decide)
  rw [List.length_take] at this
  have h3 : min i ps.length ≤ 9 := by omega
  exact Nat.le_trans this (Nat.mul_le_mul_right (90000 + 10) h3)
 have hpl := pvL_len ps
 refine ACall.back ?_
 refine zQ zU (dok _) Tryz.func35 rfl (by decide) rfl ?_
 (repeat' ((conv => whnf); first | left | refine zd ?_ | (refine Both.mk ?_ ?_ <;> intro hc <;> try exact wX hc) | (intro c hc; (try (simp only [AH.zA] at hc; repeat (have hn := hc.1; replace hc := hc.2)))))) <;> (try (conv => whnf))
 refine Then.mk ?_
 (repeat' ((conv => whnf); first | left | refine zd ?_ | (refine Both.mk ?_ ?_ <;> intro hc <;> try exact wX hc) | (intro c hc; (try (simp only [AH.zA] at hc; repeat (have hn := hc.1; replace hc := hc.2)))))) <;> (try (conv => whnf))
 (obtain ⟨w, hq_⟩ : ∃ w, w = c := ⟨_, rfl⟩); subst hq_
 have hcc : H w = none := hc
 refine Then.mk (AWq.in ?_)
 refine AWp_writer hcc fun r hcr hr => ?_
 have hle : ∀ v bs, HLe H (WrH H w r v bs) := fun v bs => HLe.set_of _ _ (HLe.set_of _ _ (HLe.refl _) hcc) hr
 refine AWp.of zU (dok _) rfl ?_
 have e1 : IntKind.i64.wrap ((ps.length : Int) - 1) = (ps.length : Int) - 1 := by rw [IntKind.wrap_i64]; omega
 have w1 := wInt_c w r 0 [] ((ps.length : Int) - 1) (by unfold I64; omega) (by simp) H hcr
 rw [List.nil_append] at w1
 generalize hG : WrH H w r 0 [] = G at *
 (repeat' ((conv => whnf); first | refine Then.mk ?_ | left | refine zd ?_ | (refine Both.mk ?_ ?_ <;> intro hc <;> try exact wX hc) | (intro c hc; (try (simp only [AH.zA] at hc; repeat (have hn := hc.1; replace hc := hc.2)))))) <;> (try (conv => whnf))
 refine w1.mono ?_
 rintro y H' ⟨rfl, v1, rfl⟩
 generalize hG1 : WrH H w r v1 (encI ((ps.length : Int) - 1)) = G1 at *
 (repeat' ((conv => whnf); first | refine Then.mk ?_ | left | refine zd ?_ | (refine Both.mk ?_ ?_ <;> intro hc <;> try exact wX hc) | (intro c hc; (try (simp only [AH.zA] at hc; repeat (have hn := hc.1; replace hc := hc.2)))))) <;> (try (conv => whnf))
 refine zT (σ := Nat × Nat) (5 :: 12 :: 13 :: 14 :: 15 :: 16 :: 17 :: 18 :: []) (fun (i, v) => [(12, .int .i64 i)]) (fun (i, v) => WrH H w r v (encI ((ps.length : Int) - 1) ++ encRs (ps.take i))) (fun (i, v) => i ≤ ps.length) (fun (i, v) => ps.length - i) (0, v1) rfl (Nat.zero_le _) ⟨rfl, trivial⟩ (HLe.of_eq (by show WrH H w r v1 (encI ((ps.length : Int) - 1) ++ encRs (ps.take 0)) = _; rw [List.take_zero]; show WrH H w r v1 (_ ++ []) = _; rw [List.append_nil, hG1])) ?_
 rintro ⟨i, v⟩ hi
 refine AWp.of zU (dok _) rfl ?_
 dsimp only at hi ⊢
 have hli := hlt i
 by_cases hit : i < ps.length
 ·obtain ⟨p, hpi⟩ : ∃ p, ps[i]? = some p := ⟨_, List.getElem?_eq_getElem hit⟩
  have gp : (pvL ps)[(i : Int).toNat]? = some (.cs (u8s p) p.length) := pvL_get hpi
  have w2 := wRaw_c w r v (encI ((ps.length : Int) - 1) ++ encRs (ps.take i)) p (by have := hp p (List.mem_of_getElem? hpi); omega) (by rw [List.length_append]; omega) H hcr
  have ht : ps.take (i + 1) = ps.take i ++ [p] := take_snoc hpi
  have hst : encI ((ps.length : Int) - 1) ++ encRs (ps.take i) ++ encR p = encI ((ps.length : Int) - 1) ++ encRs (ps.take (i + 1)) := by rw [ht, encRs_snoc, List.append_assoc]
  rw [hst] at w2
  generalize hG2 : WrH H w r v (encI ((ps.length : Int) - 1) ++ encRs (ps.take i)) = G2 at *
  (repeat' ((conv => whnf); first | refine Then.mk ?_ | left | refine zd ?_ | (refine Both.mk ?_ ?_ <;> intro hc <;> try exact wX hc) | (intro c hc; (try (simp only [AH.zA] at hc; repeat (have hn := hc.1; replace hc := hc.2)))))) <;> (try (conv => whnf))
  refine w2.mono ?_
  rintro y H' ⟨rfl, v2, rfl⟩
  generalize hG3 : WrH H w r v2 (encI ((ps.length : Int) - 1) ++ encRs (ps.take (i + 1))) = G3 at *
  (repeat' ((conv => whnf); first | refine Then.mk ?_ | left | refine zd ?_ | (refine Both.mk ?_ ?_ <;> intro hc <;> try exact wX hc) | (intro c hc; (try (simp only [AH.zA] at hc; repeat (have hn := hc.1; replace hc := hc.2)))))) <;> (try (conv => whnf))
  exact ⟨(i + 1, v2), hit, show ps.length - (i + 1) < ps.length - i by omega, ⟨congrArg (AV.int .i64) (by omega), trivial⟩, HLe.of_eq hG3⟩
 ·have hie : i = ps.length := by omega
  subst hie
  rw [List.take_length] at *
  have w3 := wDone_c w r v (encI ((ps.length : Int) - 1) ++ encRs ps) (by rw [List.length_append]; omega) H hcr
  have hle := hle v (encI ((ps.length : Int) - 1) ++ encRs ps)
  unfold joinP
  generalize hG2 : WrH H w r v (encI ((ps.length : Int) - 1) ++ encRs ps) = G2 at *
  (repeat' ((conv => whnf); first | refine Then.mk ?_ | left | refine zg ?_ (w3) | refine zgg ?_ (w3) | refine zd ?_ | (refine Both.mk ?_ ?_ <;> intro hc <;> try exact wX hc) | (intro c hc; (try (simp only [AH.zA] at hc; repeat (have hn := hc.1; replace hc := hc.2)))) | (refine ACall.to (w3) ?_))) <;> (try (conv => whnf))
  exact hle
open Go.Fw Go
def insI (x : Int) : List Int → List Int
 | [] => [x]
 | y :: l => if y ≤ x then y :: insI x l else x :: y :: l
def sortI (l : List Int) : List Int := l.foldl (fun a x => insI x a) []
def Srt : List Int → Prop
 | [] => True
 | x :: l => (∀ y ∈ l, x ≤ y) ∧ Srt l
@[simp] theorem insI_len (x : Int) (l : List Int) : (insI x l).length = l.length + 1 := by
 induction l with
 | nil => rfl
 | cons y l ih => unfold insI; split <;> simp [ih]
theorem insI_mem {x z : Int} {l : List Int} : z ∈ insI x l ↔ z = x ∨ z ∈ l := by
 induction l with
 | nil => simp [insI]
 | cons y l ih =>
  unfold insI; split
  ·simp only [List.mem_cons, ih]; exact ⟨fun h => by rcases h with h | h | h <;> simp [h], fun h => by rcases h with h | h | h <;> simp [h]⟩
  ·simp only [List.mem_cons]
theorem insI_srt {x : Int} {l : List Int} (h : Srt l) : Srt (insI x l) := by
 induction l with
 | nil => exact ⟨fun y hy => by simp at hy, trivial⟩
 | cons y l ih =>
  unfold insI; split
  ·refine ⟨fun z hz => ?_, ih h.2⟩
   rcases insI_mem.1 hz with rfl | hz
   ·assumption
   ·exact h.1 z hz
  ·refine ⟨fun z hz => ?_, h⟩
   rcases List.mem_cons.1 hz with rfl | hz
   ·omega
   ·have := h.1 z hz; omega
theorem sortI_snoc (l : List Int) (x : Int) : sortI (l ++ [x]) = insI x (sortI l) := by unfold sortI; rw [List.foldl_append]; rfl
theorem sortI_all : ∀ (k : List Int), Srt (sortI k.reverse) ∧ (sortI k.reverse).length = k.length ∧ ∀ z, z ∈ sortI k.reverse ↔ z ∈ k
 | [] => ⟨trivial, rfl, fun z => by simp [sortI]⟩
 | x :: k => by
  obtain ⟨h1, h2, h3⟩ := sortI_all k
  rw [List.reverse_cons, sortI_snoc]
  refine ⟨insI_srt h1, by rw [insI_len, h2]; rfl, fun z => ?_⟩
  rw [insI_mem, h3, List.mem_cons]
@[simp] theorem sortI_len (l : List Int) : (sortI l).length = l.length := by have := (sortI_all l.reverse).2.1; rwa [List.reverse_reverse, List.length_reverse] at this
theorem Srt.append {A B : List Int} : Srt (A ++ B) → Srt A ∧ Srt B := by
 induction A with
 | nil => exact fun h => ⟨trivial, h⟩
 | cons a A ih => exact fun h => ⟨⟨fun y hy => h.1 y (by simp [hy]), (ih h.2).1⟩, (ih h.2).2⟩
open Go.Fw Go
def J64 (x : Int) : Prop := -9223372036854775808 ≤ x ∧ x ≤ 9223372036854775807
instance (x : Int) : Decidable (J64 x) := by unfold J64; exact inferInstance
set_option maxRecDepth 8000 in
theorem btw_c (n lo hi : Int) (H : AH) : ACall Tryz.prog 62 [.int .i64 n, .int .i64 lo, .int .i64 hi] H (fun y H' => y = .bool (decide (lo ≤ n ∧ n ≤ hi)) ∧ H' = H) := by
 by_cases h1 : lo ≤ n
 ·by_cases h2 : n ≤ hi
  ·rw [decide_eq_true ⟨h1, h2⟩]
   refine zQ zU (dok _) Tryz.func62 rfl (by decide) rfl ?_
   (repeat' ((conv => whnf); first | refine Then.mk ?_ | left | refine zd ?_ | (refine Both.mk ?_ ?_ <;> intro hc <;> try exact wX hc) | (intro c hc; (try (simp only [AH.zA] at hc; repeat (have hn := hc.1; replace hc := hc.2)))))) <;> (try (conv => whnf))
  ·rw [decide_eq_false (fun h => h2 h.2)]
   refine zQ zU (dok _) Tryz.func62 rfl (by decide) rfl ?_
   (repeat' ((conv => whnf); first | refine Then.mk ?_ | left | refine zd ?_ | (refine Both.mk ?_ ?_ <;> intro hc <;> try exact wX hc) | (intro c hc; (try (simp only [AH.zA] at hc; repeat (have hn := hc.1; replace hc := hc.2)))))) <;> (try (conv => whnf))
 ·rw [decide_eq_false (fun h => h1 h.1)]
  refine zQ zU (dok _) Tryz.func62 rfl (by decide) rfl ?_
  (repeat' ((conv => whnf); first | refine Then.mk ?_ | left | refine zd ?_ | (refine Both.mk ?_ ?_ <;> intro hc <;> try exact wX hc) | (intro c hc; (try (simp only [AH.zA] at hc; repeat (have hn := hc.1; replace hc := hc.2)))))) <;> (try (conv => whnf))
end Go.Proofs.YtgpfmojlgejnhaaGreat
/- The frame of the abstract walk, part 31: drawn regions in which rows are made and cells are taken and written, beside loads from other rows. -/
set_option linter.unusedVariables false
set_option linter.unusedSimpArgs false
namespace Go.Fw
open Go.RowKit
variable {κ : KM} {F : FM} {B : Nat} {w0 w : World} {H : AH} {P : Program} {T : TT}
def cK (cl : List (Nat × Nat)) (o : Oper) : Option Nat :=
  match o.dst with
  | some t => cOf cl (some t)
  | none => match o.op with
    | .store _ (.tmp a) _ => cOf cl (some a)
    | _ => none
theorem cOf_in {cl : List (Nat × Nat)} {d : Option Nat} {c : Nat} : cOf cl d = some c → c ∈ cl.map (·.2) := by
  cases d with
  | none => intro h; cases cl <;> simp [cOf] at h
  | some t =>
    induction cl with
    | nil => intro h; simp [cOf] at h
    | cons y l ih =>
      obtain ⟨u, c'⟩ := y
      intro h
      simp only [cOf] at h
      cases hb : Nat.beq u t with
      | true => rw [hb] at h; simp only [cond_true, Option.some.injEq] at h; subst h; simp
      | false => rw [hb] at h; simp only [cond_false] at h; exact List.mem_cons_of_mem _ (ih h)
theorem cK_in {cl : List (Nat × Nat)} {o : Oper} {c : Nat} (h : cK cl o = some c) : c ∈ cl.map (·.2) := by
  unfold cK at h
  split at h
  · exact cOf_in h
  · split at h
    · exact cOf_in h
    · cases h
def OutK (cl : List (Nat × Nat)) (nm : Nat → Nat) (G H : AH) : Prop := ∀ q, (∀ c, c ∈ cl.map (·.2) → nm c ≠ q) → G q = H q
theorem OutK.refl {cl : List (Nat × Nat)} {nm : Nat → Nat} : OutK cl nm H H := fun _ _ => rfl
theorem OutK.set {cl : List (Nat × Nat)} {nm : Nat → Nat} {G : AH} {c : Nat} {o : AO} (hc : c ∈ cl.map (·.2)) (h : OutK cl nm G H) : OutK cl nm G (H.set (nm c) o) :=
  fun q hq => (h q hq).trans (AH.zR _ _ (fun e => hq c hc e.symm)).symm
theorem OutK.set' {cl : List (Nat × Nat)} {nm : Nat → Nat} {G : AH} {c : Nat} {o : AO} (hc : c ∈ cl.map (·.2)) (h : OutK cl nm G H) : OutK cl nm (G.set (nm c) o) H :=
  fun q hq => (AH.zR _ _ (fun e => hq c hc e.symm)).trans (h q hq)
theorem VR.renameP {κ κ' : KM} {r v q u off : Nat} {x : Value} {i : Inc} (hi : κ r v = some i) (hq : κ' q u = some i) (h : VR κ F (.ptr r v off) x) : VR κ' F (.ptr q u off) x := by
  cases h with
  | ptr h => rw [hi] at h; cases h; exact .ptr hq
def TakesP (P : Program) (T : TT) (o : Op) (e : Env) (G : AH) (cells : List AV) : Prop :=
  stepA P T o e G (fun v' H' => ∃ r, G r = none ∧ v' = .ptr r 0 0 ∧ H' = G.set r (.row cells 0))
def LStepK (P : Program) (T : TT) (o : Op) (e : Env) (G : AH) (q : Nat) (v : AV) (o' : AO) : Prop :=
  LStep1 P T o e G q v o' ∨ ∃ cells, v = .ptr q 1 0 ∧ o' = .row cells 1 ∧ G q = some (.row [] 0) ∧ TakesP P T o e G cells
theorem Left.namedP {x : Value} {w' : World} {cells : List AV} {q : Nat} (hq : H q = some (.row [] 0)) (h : Left κ F B w0 (fun v' H' => ∃ r, H r = none ∧ v' = .ptr r 0 0 ∧ H' = H.set r (.row cells 0)) x w') :
    Left κ F B w0 (fun v' H' => v' = .ptr q 1 0 ∧ H' = H.set q (.row cells 1)) x w' := by
  obtain ⟨y, H', κ', F', h1, h2, I, hv, r, hr, rfl, rfl⟩ := h
  have hne : q ≠ r := fun e => by rw [e, hr] at hq; cases hq
  obtain ⟨i, hi, _⟩ := I.objs _ _ (AH.zC H r (.row cells 0))
  obtain ⟨hle, I'⟩ := I.rename (q := q) (u := 0) (AH.zC H r (.row cells 0)) hi (by rw [AH.zR _ _ hne]; exact hq) hne
  rw [AH.del_set _ _ _ hr] at I'
  exact ⟨_, _, _, F', h1.trans hle, h2, I', VR.renameP hi (KM.put_same ..) hv, rfl, rfl⟩
def ordK (all : Array Oper) (cl : List (Nat × Nat)) : Bool :=
  let ah := aheadOf all
  (List.range all.size).all fun j => (List.range j).all fun i =>
    match (all[i]?).bind (cK cl), (all[j]?).bind (cK cl) with
    | some a, some b => !(Nat.beq a b) || (ah.getD j 0).testBit i
    | _, _ => true
theorem ordK_spec {all : Array Oper} {cl : List (Nat × Nat)} (h : ordK all cl = true) {i j c : Nat} (hlt : i < j) (hj : j < all.size) (h1 : (all[i]?).bind (cK cl) = some c) (h2 : (all[j]?).bind (cK cl) = some c) :
    ((aheadOf all).getD j 0).testBit i = true := by
  unfold ordK at h
  have a1 := List.all_eq_true.1 h j (by simpa using hj)
  have a2 := List.all_eq_true.1 a1 i (by simpa using hlt)
  simp only [h1, h2] at a2
  have : Nat.beq c c = true := Nat.beq_refl c
  simpa [this] using a2
def drawKS (N : Nat) (P : Program) (T : TT) (cl : List (Nat × Nat)) (nm : Nat → Nat) : List Oper → (St → AH → Prop) → St → AH → Prop
  | [], K, s, H => K s H
  | o :: rest, K, s, H => dstOk N o.dst = true ∧ o.guard = none ∧ match cK cl o with
    | none => ∃ v, (∀ G, OutK cl nm G H → LStep0 P T o.op s.e G v) ∧ drawKS N P T cl nm rest K (putS s o.dst v) H
    | some c => ∃ ob v o', H (nm c) = some ob ∧ (∀ G, OutK cl nm G H → G (nm c) = some ob → LStepK P T o.op s.e G (nm c) v o') ∧ drawKS N P T cl nm rest K (putS s o.dst v) (H.set (nm c) o')
def infK (cl : List (Nat × Nat)) (nm : Nat → Nat) (l : List Oper) (obs : List AO) (k : Nat) : Option (Nat × AO) :=
  ((l[k]?).bind (cK cl)).map fun c => (nm c, obs.getD k (.row [] 0))
theorem lookK_cons (cl : List (Nat × Nat)) (nm : Nat → Nat) (o : Oper) (l : List Oper) (x : AO) (xs : List AO) (H : AH) : ∀ k, lookG (infK cl nm (o :: l) (x :: xs)) H (fun _ => true) (k + 1) = lookG (infK cl nm l xs) (setO H (infK cl nm (o :: l) (x :: xs) 0)) (fun _ => true) k
  | 0 => rfl
  | k + 1 => by
    have ih := lookK_cons cl nm o l x xs H k
    have e : infK cl nm (o :: l) (x :: xs) (k + 1) = infK cl nm l xs k := by simp [infK]
    show setO (lookG (infK cl nm (o :: l) (x :: xs)) H (fun _ => true) (k + 1)) (infK cl nm (o :: l) (x :: xs) (k + 1)) = setO (lookG (infK cl nm l xs) _ (fun _ => true) k) (infK cl nm l xs k)
    rw [ih, e]
theorem chainK {N : Nat} {cl : List (Nat × Nat)} {nm : Nat → Nat} {K : St → AH → Prop} : ∀ (l : List Oper) (s : St) (H : AH), drawKS N P T cl nm l K s H → ∃ (vs : List AV) (obs : List AO),
    (∀ j o, l[j]? = some o → dstOk N o.dst = true ∧ o.guard = none ∧ match cK cl o with
      | none => ∀ G, OutK cl nm G H → LStep0 P T o.op (lookE (dstF l) (valF vs) s.e (fun _ => true) j) G (valF vs j)
      | some c => ∃ ob, lookG (infK cl nm l obs) H (fun _ => true) j (nm c) = some ob ∧ ∀ G, OutK cl nm G H → G (nm c) = some ob → LStepK P T o.op (lookE (dstF l) (valF vs) s.e (fun _ => true) j) G (nm c) (valF vs j) (obs.getD j (.row [] 0))) ∧
    K ⟨lookE (dstF l) (valF vs) s.e (fun _ => true) l.length, s.d⟩ (lookG (infK cl nm l obs) H (fun _ => true) l.length)
  | [], s, H, h => ⟨[], [], fun j o hj => by simp at hj, h⟩
  | o :: l, s, H, ⟨h1, h2, h3⟩ => by
    have build : ∀ (v : AV) (x : AO) (H2 : AH), (∀ G, OutK cl nm G H → OutK cl nm G H2) → (∀ obs : List AO, setO H (infK cl nm (o :: l) (x :: obs) 0) = H2) → drawKS N P T cl nm l K (putS s o.dst v) H2 →
        (match cK cl o with
          | none => ∀ G, OutK cl nm G H → LStep0 P T o.op s.e G v
          | some c => ∃ ob, H (nm c) = some ob ∧ ∀ G, OutK cl nm G H → G (nm c) = some ob → LStepK P T o.op s.e G (nm c) v x) →
        ∃ (vs : List AV) (obs : List AO), (∀ j o', (o :: l)[j]? = some o' → dstOk N o'.dst = true ∧ o'.guard = none ∧ match cK cl o' with
          | none => ∀ G, OutK cl nm G H → LStep0 P T o'.op (lookE (dstF (o :: l)) (valF vs) s.e (fun _ => true) j) G (valF vs j)
          | some c => ∃ ob, lookG (infK cl nm (o :: l) obs) H (fun _ => true) j (nm c) = some ob ∧ ∀ G, OutK cl nm G H → G (nm c) = some ob → LStepK P T o'.op (lookE (dstF (o :: l)) (valF vs) s.e (fun _ => true) j) G (nm c) (valF vs j) (obs.getD j (.row [] 0))) ∧
        K ⟨lookE (dstF (o :: l)) (valF vs) s.e (fun _ => true) (o :: l).length, s.d⟩ (lookG (infK cl nm (o :: l) obs) H (fun _ => true) (o :: l).length) := by
      intro v x H2 hout hH2 hr h0
      obtain ⟨vs, obs, ih1, ih2⟩ := chainK l _ _ hr
      refine ⟨v :: vs, x :: obs, fun j o' hj => ?_, ?_⟩
      · cases j with
        | zero =>
          simp at hj; subst hj
          exact ⟨h1, h2, h0⟩
        | succ j =>
          have := ih1 j o' (by simpa using hj)
          rw [lookE_cons, lookK_cons, hH2 obs]
          refine ⟨this.1, this.2.1, ?_⟩
          have t2 := this.2.2
          cases hc : cK cl o' with
          | none => rw [hc] at t2; exact fun G hG => by simpa [valF, putS] using t2 G (hout G hG)
          | some c => rw [hc] at t2; obtain ⟨ob, t3, t4⟩ := t2; exact ⟨ob, t3, fun G hG hq => by simpa [valF, putS] using t4 G (hout G hG) hq⟩
      · rw [List.length_cons, lookE_cons, lookK_cons, hH2 obs]
        exact ih2
    cases hc : cK cl o with
    | none =>
      rw [hc] at h3 build
      obtain ⟨v, h3, h4⟩ := h3
      exact build v (.row [] 0) H (fun _ h => h) (fun obs => by simp [infK, hc, setO]) h4 h3
    | some c =>
      rw [hc] at h3 build
      obtain ⟨ob, v, o', h3, h4, h5⟩ := h3
      exact build v o' (H.set (nm c) o') (fun _ h => h.set (cK_in hc)) (fun obs => by simp [infK, hc, setO]) h5 ⟨ob, h3, h4⟩
theorem anyK_ok (hT : T.ok P = true) (ro : Option Nat) {N : Nat} {ws : Nat → Bool} {ops : Array Oper} {cl : List (Nat × Nat)} {nm : Nat → Nat} {K R : St → AH → Prop} {X : Nat → St → AH → Prop} {s : St} {vs : List AV} {obs : List AO} (hord : orderOk ops = true) (hcls : ordK ops cl = true)
    (hnm : ∀ c c', c ∈ cl.map (·.2) → c' ∈ cl.map (·.2) → nm c = nm c' → c = c') (hws : ∀ t, t ∈ dstsOf ops.toList → ws t = true)
    (hstep : ∀ j o, ops.toList[j]? = some o → dstOk N o.dst = true ∧ o.guard = none ∧ match cK cl o with
      | none => ∀ G, OutK cl nm G H → LStep0 P T o.op (lookE (dstF ops.toList) (valF vs) s.e (fun _ => true) j) G (valF vs j)
      | some c => ∃ ob, lookG (infK cl nm ops.toList obs) H (fun _ => true) j (nm c) = some ob ∧ ∀ G, OutK cl nm G H → G (nm c) = some ob → LStepK P T o.op (lookE (dstF ops.toList) (valF vs) s.e (fun _ => true) j) G (nm c) (valF vs j) (obs.getD j (.row [] 0)))
    (hend : K ⟨lookE (dstF ops.toList) (valF vs) s.e (fun _ => true) ops.toList.length, s.d⟩ (lookG (infK cl nm ops.toList obs) H (fun _ => true) ops.toList.length)) :
    ∀ (fuel : Nat) (listed : Array Bool) (κ : KM) (F : FM) (w : World) (a : Act), listed.size = ops.size → (∀ j, doneP listed ops.size j = true → Waited ops (doneP listed ops.size) j) →
      ((List.range ops.size).filter fun k => !doneP listed ops.size k).length = fuel → Inv κ F B w0 (lookG (infK cl nm ops.toList obs) H (doneP listed ops.size) ops.size) w →
      ER κ F N ⟨lookE (dstF ops.toList) (valF vs) s.e (doneP listed ops.size) ops.size, s.d⟩ a → wpAnyIn (fence ro) 0 P .any ops (QOk κ F B w0 N ws s K R X) fuel listed a w := by
  have hinf : ∀ k q o, infK cl nm ops.toList obs k = some (q, o) → ∃ c, k < ops.size ∧ (ops[k]?).bind (cK cl) = some c ∧ q = nm c ∧ c ∈ cl.map (·.2) := by
    intro k q o h
    unfold infK at h
    rw [Array.getElem?_toList] at h
    cases hx : (ops[k]?).bind (cK cl) with
    | none => rw [hx] at h; simp at h
    | some c =>
      rw [hx] at h
      simp at h
      refine ⟨c, ?_, rfl, h.1.symm, ?_⟩
      · cases hk : ops[k]? with
        | none => rw [hk] at hx; simp at hx
        | some x => exact (Array.getElem?_eq_some_iff.1 hk).1
      · cases hk : ops[k]? with
        | none => rw [hk] at hx; simp at hx
        | some x =>
          rw [hk] at hx
          simp only [Option.bind_some] at hx
          exact cK_in hx
  have hsame : ∀ k k' q o o', infK cl nm ops.toList obs k = some (q, o) → infK cl nm ops.toList obs k' = some (q, o') → k < k' → ((aheadOf ops).getD k' 0).testBit k = true := by
    intro k k' q o o' h1 h2 hlt
    obtain ⟨c, hk, hc, e1, hm⟩ := hinf _ _ _ h1
    obtain ⟨c', hk', hc', e2, hm'⟩ := hinf _ _ _ h2
    have : c = c' := hnm c c' hm hm' (e1.symm.trans e2)
    subst this
    exact ordK_spec hcls hlt hk' hc hc'
  have hout : ∀ (p : Nat → Bool) n, OutK cl nm (lookG (infK cl nm ops.toList obs) H p n) H := by
    intro p n
    induction n with
    | zero => exact .refl
    | succ n ih =>
      simp only [lookG]
      cases p n with
      | false => exact ih
      | true =>
        simp only [cond_true]
        cases hi : infK cl nm ops.toList obs n with
        | none => exact ih
        | some x =>
          obtain ⟨q, o⟩ := x
          obtain ⟨c, _, _, e, hm⟩ := hinf _ _ _ hi
          subst e
          exact ih.set' hm
  have hlow := orderOk_low hord
  have hdst : ∀ k, dstF ops.toList k = (ops[k]?).bind (·.dst) := fun k => by simp [dstF]
  have hagree : ∀ p : Nat → Bool, Agree ws s ⟨lookE (dstF ops.toList) (valF vs) s.e p ops.size, s.d⟩ := by
    intro p t ht
    show lookE _ _ _ p ops.size t = s.e t
    have : ∀ n, lookE (dstF ops.toList) (valF vs) s.e p n t = s.e t := by
      intro n
      induction n with
      | zero => rfl
      | succ n ih =>
        simp only [lookE]
        cases p n with
        | false => exact ih
        | true =>
          have hne : dstF ops.toList n ≠ some t := by
            intro e
            have : t ∈ dstsOf ops.toList := by
              simp only [dstF] at e
              cases hx : ops.toList[n]? with
              | none => rw [hx] at e; simp at e
              | some o =>
                rw [hx] at e
                simp at e
                exact List.mem_filterMap.2 ⟨o, List.mem_of_getElem? hx, e⟩
            rw [hws t this] at ht; cases ht
          simp only [cond_true, putA_ne _ _ _ hne, ih]
    exact this _
  have ready : ∀ (listed : Array Bool), listed.size = ops.size → ∀ i, i ∈ Region.ready .any ops listed → i < ops.size ∧ doneP listed ops.size i = false ∧ Waited ops (doneP listed ops.size) i := by
    intro listed hsz i hi
    simp only [Region.ready, List.mem_filter, List.mem_range, Bool.and_eq_true, Bool.not_eq_true'] at hi
    obtain ⟨hi, hl, ha⟩ := hi
    have hdone : doneP listed ops.size i = false := by
      have e : listed.getD i false = listed.getD i true := by simp [Array.getD_eq_getD_getElem?, show i < listed.size by omega]
      simp [doneP, e, hl]
    refine ⟨hi, hdone, fun o ho e he hb => ?_⟩
    rw [ho] at ha
    simp only [Option.map_some, Option.getD_some] at ha
    have := Array.all_eq_true'.1 ha e (by simpa using he)
    simp only [hb, Bool.not_true, Bool.false_or] at this
    have hlt := hlow i o ho e he hb
    simp [doneP, this, blt_of (show e.on < ops.size by omega)]
  intro fuel
  induction fuel with
  | zero =>
    intro listed κ F w a hsz hcl hcount I hE
    have hall : ∀ k, k < ops.size → doneP listed ops.size k = true := by
      intro k hk
      cases hd : doneP listed ops.size k with
      | true => rfl
      | false =>
        have : k ∈ (List.range ops.size).filter fun k => !doneP listed ops.size k := by simp [hk, hd]
        rw [List.length_eq_zero_iff.1 hcount] at this
        cases this
    refine ⟨?_, ?_⟩
    · cases hr : Region.ready .any ops listed with
      | nil => rfl
      | cons i r =>
        obtain ⟨h1, h2, _⟩ := ready listed hsz i (by rw [hr]; simp)
        rw [hall i h1] at h2; cases h2
    · have heq : lookE (dstF ops.toList) (valF vs) s.e (doneP listed ops.size) ops.size = lookE (dstF ops.toList) (valF vs) s.e (fun _ => true) ops.size := by
        funext t; exact lookE_congr _ (fun k hk _ => hall k hk)
      have hH : lookG (infK cl nm ops.toList obs) H (doneP listed ops.size) ops.size = lookG (infK cl nm ops.toList obs) H (fun _ => true) ops.size := by
        funext q; exact lookG_at _ (fun k o hk _ => hall k hk)
      refine ⟨_, _, κ, F, KLe.refl _, FLe.refl _, I, hE, hagree _, ?_⟩
      rw [heq, hH]
      simpa using hend
  | succ fuel ih =>
    intro listed κ F w a hsz hcl hcount I hE
    refine ⟨fun hr => ?_, fun i hi => ?_⟩
    · -- somebody is ready
      exfalso
      obtain ⟨k, hk⟩ : ∃ k, k ∈ (List.range ops.size).filter fun k => !doneP listed ops.size k := by
        cases hx : (List.range ops.size).filter fun k => !doneP listed ops.size k with
        | nil => rw [hx] at hcount; simp at hcount
        | cons k _ => exact ⟨k, by simp⟩
      have key : ∀ k, k < ops.size → doneP listed ops.size k = false → False := by
        intro k
        induction k using Nat.strongRecOn with
        | _ k ih2 =>
          intro hk hd
          have : k ∈ Region.ready .any ops listed := by
            simp only [Region.ready, List.mem_filter, List.mem_range, Bool.and_eq_true, Bool.not_eq_true']
            refine ⟨hk, ?_, ?_⟩
            · simp only [doneP, blt_of hk, Bool.true_and] at hd
              have e : listed.getD k false = listed.getD k true := by simp [Array.getD_eq_getD_getElem?, show k < listed.size by omega]
              rw [← e]; exact hd
            · have ho : ops[k]? = some ops[k] := by simp [hk]
              rw [ho]
              simp only [Option.map_some, Option.getD_some]
              refine Array.all_eq_true'.2 fun e he => ?_
              cases hb : Region.binds .any e with
              | false => rfl
              | true =>
                have hlt := hlow k _ ho e (by simpa using he) hb
                cases hd' : doneP listed ops.size e.on with
                | false => exact (ih2 e.on hlt (by omega) hd').elim
                | true => simp only [doneP, Bool.and_eq_true] at hd'; simp [hd'.2]
          rw [hr] at this; cases this
      simp only [List.mem_filter, List.mem_range, Bool.not_eq_true'] at hk
      exact key k hk.1 hk.2
    · obtain ⟨hil, hdi, hwi⟩ := ready listed hsz i hi
      have ho : ops[i]? = some ops[i] := by simp [hil]
      obtain ⟨o, rfl⟩ : ∃ o, o = ops[i] := ⟨_, rfl⟩
      obtain ⟨hdst0, hgd, hg⟩ := hstep i ops[i] (by simp [hil])
      have hahead := ahead_done hlow hcl i hil hwi
      -- what the operation looks at stands there
      have sees : ∀ t, t ∈ looks ops ops[i] → lookE (dstF ops.toList) (valF vs) s.e (doneP listed ops.size) ops.size t = lookE (dstF ops.toList) (valF vs) s.e (fun _ => true) i t := by
        intro t ht
        refine lookE_lt ops.size (by omega) (fun k hk hkd => ?_)
        rw [hdst] at hkd
        by_cases hki : k = i
        · subst hki; constructor
          · intro h; rw [hdi] at h; cases h
          · intro h; omega
        · obtain ⟨h1, h2⟩ := orderOk_spec hord hkd ho (.inl ht) hki
          constructor
          · intro hp
            rcases Nat.lt_or_ge k i with hlt | hge
            · exact hlt
            · have := ahead_done hlow hcl k hk (hcl k hp) i (h2 (by omega))
              rw [hdi] at this; cases this
          · intro hlt; exact hahead k (h1 hlt)
      have hev : ∀ x, x ∈ (ops[i]).op.operands → ev (lookE (dstF ops.toList) (valF vs) s.e (fun _ => true) i) x = ev (lookE (dstF ops.toList) (valF vs) s.e (doneP listed ops.size) ops.size) x := by
        intro x hx
        cases x with
        | tmp t => exact (sees t (List.mem_append_left _ (List.mem_filterMap.2 ⟨.tmp t, by simpa using hx, rfl⟩))).symm
        | _ => rfl
      have hwt : Region.wanted ops[i] (yielded ops a.tmps) = true := wanted_of (K := fun b => b = true) hE (by rw [hgd]; rfl)
      have hlset : ∀ k, doneP (listed.setIfInBounds i true) ops.size k = (doneP listed ops.size k || Nat.beq k i) := by
        intro k
        simp only [doneP, Array.getD_eq_getD_getElem?, Array.getElem?_setIfInBounds]
        by_cases hki : i = k
        · subst hki; simp [show i < listed.size by omega, blt_of hil, Nat.beq_refl]
        · have : Nat.beq k i = false := by cases hb : Nat.beq k i with
            | false => rfl
            | true => exact absurd (Nat.eq_of_beq_eq_true hb).symm hki
          simp [hki, this]
      have hlsetf : doneP (listed.setIfInBounds i true) ops.size = fun k => doneP listed ops.size k || Nat.beq k i := funext hlset
      have hput : lookE (dstF ops.toList) (valF vs) s.e (doneP (listed.setIfInBounds i true) ops.size) ops.size = putA (lookE (dstF ops.toList) (valF vs) s.e (doneP listed ops.size) ops.size) (dstF ops.toList i) (valF vs i) := by
        rw [hlsetf]
        refine lookE_put hdi ops.size hil (fun k hk hki hkd hnn hp => ?_)
        rcases Nat.lt_or_ge k i with hlt | hge
        · exact hlt
        · exfalso
          cases hdn : dstF ops.toList i with
          | none => exact hnn hdn
          | some t =>
            rw [hdn] at hkd
            have hoi : (ops[i]).dst = some t := by rw [hdst, ho] at hdn; simpa using hdn
            obtain ⟨_, h2⟩ := orderOk_spec hord (by rw [← hdst]; exact hkd) ho (.inr hoi) hki
            have := ahead_done hlow hcl k hk (hcl k hp) i (h2 (by omega))
            rw [hdi] at this; cases this
      have hcl' : ∀ j, doneP (listed.setIfInBounds i true) ops.size j = true → Waited ops (doneP (listed.setIfInBounds i true) ops.size) j := by
        intro j hj o' ho' e he hbe
        rw [hlset] at hj ⊢
        rw [Bool.or_eq_true] at hj
        rcases hj with h | h
        · rw [hcl j h o' ho' e he hbe]; rfl
        · obtain rfl := Nat.eq_of_beq_eq_true h
          rw [hwi o' ho' e he hbe]; rfl
      have hcount' : ((List.range ops.size).filter fun k => !doneP (listed.setIfInBounds i true) ops.size k).length = fuel := by
        have key : ∀ (l : List Nat), l.Nodup → i ∈ l → (l.filter fun k => !doneP listed ops.size k).length = (l.filter fun k => !doneP (listed.setIfInBounds i true) ops.size k).length + 1 := by
          intro l
          induction l with
          | nil => intro _ h; cases h
          | cons k l ih =>
            intro hnd hm
            obtain ⟨hk, hnd⟩ := List.nodup_cons.1 hnd
            by_cases hki : k = i
            · subst hki
              have hrest : (l.filter fun k' => !doneP listed ops.size k') = l.filter fun k' => !doneP (listed.setIfInBounds k true) ops.size k' := by
                refine List.filter_congr fun k' hk' => ?_
                rw [hlset]
                have : Nat.beq k' k = false := by cases hb : Nat.beq k' k with
                  | false => rfl
                  | true => exact absurd (Nat.eq_of_beq_eq_true hb ▸ hk') hk
                simp [this]
              rw [List.filter_cons, List.filter_cons, hlset, hdi, Nat.beq_refl, hrest]
              simp
            · have hm' : i ∈ l := by rcases List.mem_cons.1 hm with h | h; · exact absurd h.symm hki
                                     · exact h
              have hb : Nat.beq k i = false := by cases hb : Nat.beq k i with
                | false => rfl
                | true => exact absurd (Nat.eq_of_beq_eq_true hb) hki
              have := ih hnd hm'
              rw [List.filter_cons, List.filter_cons, hlset, hb, Bool.or_false]
              cases doneP listed ops.size k <;> simp [this]
        have := key (List.range ops.size) List.nodup_range (by simpa using hil)
        omega
      have hdi' : dstF ops.toList i = (ops[i]).dst := by rw [hdst, ho]; rfl
      have hG : lookG (infK cl nm ops.toList obs) H (doneP (listed.setIfInBounds i true) ops.size) ops.size = setO (lookG (infK cl nm ops.toList obs) H (doneP listed ops.size) ops.size) (infK cl nm ops.toList obs i) := by
        rw [hlsetf]
        refine lookG_put hdi ops.size hil (fun k q o o' h1 h2 h3 h4 => ?_)
        cases hd : doneP listed ops.size k with
        | false => rfl
        | true =>
          have := ahead_done hlow hcl k h2 (hcl k hd) i (hsame _ _ _ _ _ h3 h4 h1)
          rw [hdi] at this; cases this
      unfold wpOpIn
      rw [ho]
      simp only
      rw [if_pos hwt]
      have go : ∀ v w', Left κ F B w0 (fun v' H' => v' = valF vs i ∧ H' = lookG (infK cl nm ops.toList obs) H (doneP (listed.setIfInBounds i true) ops.size) ops.size) v w' →
          wpAnyIn (fence ro) 0 P .any ops (QOk κ F B w0 N ws s K R X) fuel (listed.setIfInBounds i true) (a.put (ops[i]).dst v) w' := by
        rintro v w' ⟨y, H', κ', F', hk, hf, I', hv, rfl, rfl⟩
        have hE' := (hE.mono hk hf).put hdst0 hv
        have := ih (listed.setIfInBounds i true) κ' F' w' _ (by simp [hsz]) hcl' hcount' I' (by rw [hput, hdi']; exact hE')
        exact wpAnyIn_mono (fun e a w hq => QOk.from hk hf (Agree.refl _ _) hq) _ _ _ _ this
      have hinfi : infK cl nm ops.toList obs i = (cK cl ops[i]).map fun c => (nm c, obs.getD i (.row [] 0)) := by simp [infK, hil]
      rw [hG, hinfi] at go
      have hcong := fun (G : AH) (KK : AV → AH → Prop) => stepA_congr (P := P) (T := T) (H := G) (K := KK) hev
      cases hc : cK cl ops[i] with
      | none =>
        rw [hc] at hg go
        simp only [Option.map_none, setO] at go
        rcases hg (lookG (infK cl nm ops.toList obs) H (doneP listed ops.size) ops.size) (hout _ _) with h | ⟨cells, n, es, hv, hlen, h⟩
        · rw [hcong] at h
          exact stepA_ok hT ro I hE.e h go
        · unfold Makes at h
          rw [hcong] at h
          refine stepA_ok hT ro I hE.e h fun v w' hL => go v w' ?_
          rw [hv]
          exact Left.cold hlen hL
      | some c =>
        rw [hc] at hg go
        simp only [Option.map_some, setO] at go
        obtain ⟨ob, h1, h2⟩ := hg
        have hat : lookG (infK cl nm ops.toList obs) H (doneP listed ops.size) ops.size (nm c) = some ob := by
          rw [← h1]
          have hii : infK cl nm ops.toList obs i = some (nm c, obs.getD i (.row [] 0)) := by rw [hinfi, hc]; rfl
          refine (lookG_up (i := i) ops.size (by omega) (fun k o h3 h4 h5 => ?_)).trans (lookG_at i (fun k o h3 h5 => ?_))
          · by_cases e : k = i
            · rw [e]; exact hdi
            · cases hd : doneP listed ops.size k with
              | false => rfl
              | true =>
                have := ahead_done hlow hcl k h4 (hcl k hd) i (hsame _ _ _ _ _ hii h5 (by omega))
                rw [hdi] at this; cases this
          · exact hahead k (hsame _ _ _ _ _ h5 hii h3)
        rcases h2 _ (hout _ _) hat with (h | ⟨cells, n, es, hv, ho', hq, h⟩) | ⟨cells, hv, ho', hq, h⟩
        · rw [hcong] at h
          exact stepA_ok hT ro I hE.e h go
        · unfold Makes at h
          rw [hcong] at h
          refine stepA_ok hT ro I hE.e h fun v w' hL => go v w' ?_
          rw [hv, ho']
          exact Left.named hq hL
        · unfold TakesP at h
          rw [hcong] at h
          refine stepA_ok hT ro I hE.e h fun v w' hL => go v w' ?_
          rw [hv, ho']
          exact Left.namedP hq hL
theorem AWp_drawK (hT : T.ok P = true) (hm : P.follows .mixedOrders = true) {N : Nat} {ro : Option Nat} {ws : Nat → Bool} {id : Nat} {ops : Array Oper} {K R : St → AH → Prop} {X : Nat → St → AH → Prop} {s : St} (cl : List (Nat × Nat)) (nm : Nat → Nat)
    (hnm : ∀ c c', c ∈ cl.map (·.2) → c' ∈ cl.map (·.2) → nm c = nm c' → c = c') (hws : (writes (.region id ops true)).all ws = true) (hord : (orderOk ops && ordK ops cl) = true) (h : drawKS N P T cl nm ops.toList K s H) :
    AWp N P ro ws (.region id ops true) K R X s H := by
  refine ⟨fun κ F B w0 w a I hE => wpIn_region_any hm ?_⟩
  obtain ⟨vs, obs, hstep, hend⟩ := chainK _ _ _ h
  rw [Bool.and_eq_true] at hord
  have hz : ∀ k, doneP (Array.replicate ops.size false) ops.size k = false := by
    intro k
    simp only [doneP, Array.getD_eq_getD_getElem?]
    by_cases hk : k < ops.size
    · simp [hk]
    · simp [hk]
  refine anyK_ok hT ro hord.1 hord.2 hnm (all_mem hws) hstep hend ops.size _ κ F _ a (by simp) (fun j hj => by rw [hz] at hj; cases hj) ?_ ?_ ?_
  · have : ((List.range ops.size).filter fun k => !doneP (Array.replicate ops.size false) ops.size k) = List.range ops.size := List.filter_eq_self.2 fun k _ => by simp [hz]
    rw [this]; simp
  · have : ∀ n, lookG (infK cl nm ops.toList obs) H (doneP (Array.replicate ops.size false) ops.size) n = H := by
      intro n
      induction n with
      | zero => rfl
      | succ n ih => simp only [lookG, hz, cond_false, ih]
    rw [this]; exact I.drew
  · have : ∀ n, lookE (dstF ops.toList) (valF vs) s.e (doneP (Array.replicate ops.size false) ops.size) n = s.e := by
      intro n
      induction n with
      | zero => rfl
      | succ n ih => simp only [lookE, hz, cond_false, ih]
    rw [this]; exact hE
structure DrawK (N : Nat) (P : Program) (T : TT) (cl : List (Nat × Nat)) (nm : Nat → Nat) (l : List Oper) (K : St → AH → Prop) (s : St) (H : AH) : Prop where
  out : drawKS N P T cl nm l K s H
def offR (nm : Nat → Nat) (r : Nat) : List (Nat × Nat) → Prop
  | [] => True
  | p :: l => nm p.2 ≠ r ∧ offR nm r l
theorem offR_iff {nm : Nat → Nat} {r : Nat} : ∀ {l : List (Nat × Nat)}, offR nm r l → ∀ c, c ∈ l.map (·.2) → nm c ≠ r
  | [], _, c, hc => by cases hc
  | p :: l, ⟨h1, h2⟩, c, hc => by
    rcases List.mem_cons.1 hc with rfl | hc
    · exact h1
    · exact offR_iff h2 c hc
def offK (P : Program) (T : TT) (cl : List (Nat × Nat)) (nm : Nat → Nat) (o : Op) (e : Env) (H : AH) (K : AV → Prop) : Prop :=
  match o with
  | .load t a =>
    (match T.get t with
     | some tr => (match ev e a with
       | .ptr r v off => offR nm r cl ∧ loadA tr (.ptr r v off) H K
       | b => loadC tr b K)
     | none => False)
  | o => pureL P T o e K
theorem loadA_det {tr : TR} {r v off : Nat} {K : AV → Prop} (h : loadA tr (.ptr r v off) H K) : ∃ x, K x ∧ ∀ G : AH, G r = H r → loadA tr (.ptr r v off) G (fun y => y = x) := by
  unfold loadA at h
  simp only at h
  obtain ⟨cells, hH, h⟩ := h
  cases hag : tr.agg with
  | true =>
    rw [hag] at h
    obtain ⟨h1, h2⟩ := h
    refine ⟨_, h2, fun G hG => ?_⟩
    unfold loadA
    simp only
    refine ⟨cells, hG.trans hH, ?_⟩
    rw [hag]
    exact ⟨h1, rfl⟩
  | false =>
    rw [hag] at h
    obtain ⟨h1, x, h2, h3⟩ := when_iff.1 h
    refine ⟨x, h3, fun G hG => ?_⟩
    unfold loadA
    simp only
    refine ⟨cells, hG.trans hH, ?_⟩
    rw [hag]
    exact when_iff.2 ⟨h1, x, h2, rfl⟩
theorem offK_ok {cl : List (Nat × Nat)} {nm : Nat → Nat} {o : Op} {e : Env} {K : AV → Prop} (h : offK P T cl nm o e H K) : ∃ v, (∀ G, OutK cl nm G H → LStep0 P T o e G v) ∧ K v := by
  unfold offK at h
  split at h
  · rename_i t a
    split at h
    · rename_i tr hg
      split at h
      · rename_i r v off ha
        obtain ⟨h1, h2⟩ := h
        obtain ⟨x, h3, h4⟩ := loadA_det h2
        refine ⟨x, fun G hG => .inl ?_, h3⟩
        have := h4 G (hG r (offR_iff h1))
        show opA T (.load t a) e G (fun v' H' => v' = x ∧ H' = G)
        simp only [opA, hg, ha]
        simpa using this
      · obtain ⟨v, h1, h2⟩ := det_loadC _ _ _ h
        refine ⟨v, fun G _ => .inl ?_, h2⟩
        show opA T (.load t a) e G (fun v' H' => v' = v ∧ H' = G)
        simp only [opA, hg]
        simpa using loadC_ok (H := G) h1
    · exact h.elim
  · obtain ⟨v, h1, h2⟩ := pureL_ok h
    exact ⟨v, fun G _ => h1 G, h2⟩
def onK (P : Program) (T : TT) (q : Nat) (ob : AO) (o : Op) (e : Env) (K : AV → AO → Prop) : Prop :=
  match o with
  | .alloc t => (match T.get t with | some tr => ob = .row [] 0 ∧ K (.ptr q 1 0) (.row tr.zero 1) | none => False)
  | .store t a x =>
    (match T.get t, ev e a, cellsOf (ev e x) with
     | some tr, .ptr r v off, some l => r = q ∧ ∃ cells, ob = .row cells v ∧ off + tr.size ≤ cells.length ∧ l.length = tr.size ∧ l.all one = true ∧ K .junk (.row (wrA cells off l) v)
     | _, _, _ => False)
  | .load t a =>
    (match T.get t, ev e a with
     | some tr, .ptr r v off => r = q ∧ loadA tr (.ptr r v off) (fun _ => some ob) fun x => K x ob
     | _, _ => False)
  | .fieldAddr t x f => when (isPure T (.fieldAddr t x f) && isDet T (.fieldAddr t x f)) (opA T (.fieldAddr t x f) e (fun _ => none) fun v _ => K v ob)
  | .indexAddr t x i => when (isPure T (.indexAddr t x i) && isDet T (.indexAddr t x i)) (opA T (.indexAddr t x i) e (fun _ => none) fun v _ => K v ob)
  | o => appL T q ob o e K ∨ ∃ cells n es, ob = .row [] 0 ∧ (∀ G, Makes P T o e G cells n es) ∧ K (.sl q 1 es 0 n none) (.row cells 1)
theorem pure_on {q : Nat} {ob : AO} {o : Op} {e : Env} {K : AV → AO → Prop} (h : when (isPure T o && isDet T o) (opA T o e (fun _ => none) fun v _ => K v ob)) : ∃ v o', (∀ G, G q = some ob → LStepK P T o e G q v o') ∧ K v o' := by
  obtain ⟨h1, h2⟩ := when_iff.1 h
  rw [Bool.and_eq_true] at h1
  obtain ⟨v, h3, h4⟩ := opA_det (H := fun _ => none) (K := fun v _ => K v ob) h1.2 h2
  obtain ⟨_, h5⟩ := opA_pure h1.1 h3
  refine ⟨v, ob, fun G hG => .inl (.inl ?_), h4⟩
  rw [stepA_pure h1.1, AH.set_id hG]
  exact h5 G
theorem onK_ok {q : Nat} {ob : AO} {o : Op} {e : Env} {K : AV → AO → Prop} (h : onK P T q ob o e K) : ∃ v o', (∀ G, G q = some ob → LStepK P T o e G q v o') ∧ K v o' := by
  unfold onK at h
  split at h
  · rename_i t
    split at h
    · rename_i tr hg
      obtain ⟨h1, h2⟩ := h
      refine ⟨_, _, fun G hG => .inr ⟨tr.zero, rfl, rfl, by rw [hG, h1], ?_⟩, h2⟩
      show opA T (.alloc t) e G (fun v' H' => ∃ r, G r = none ∧ v' = .ptr r 0 0 ∧ H' = G.set r (.row tr.zero 0))
      simp only [opA, hg]
      exact fun r hr => ⟨r, hr, rfl, rfl⟩
    · exact h.elim
  · rename_i t a x
    split at h
    · rename_i tr r v off l hg ha hx
      obtain ⟨rfl, cells, h1, h2, h3, h4, h5⟩ := h
      refine ⟨_, _, fun G hG => .inl (.inl ?_), h5⟩
      show opA T (.store t a x) e G (fun v' H' => v' = AV.junk ∧ H' = G.set r (AO.row (wrA cells off l) v))
      simp only [opA, hg, ha]
      unfold storeA
      simp only [hx]
      exact ⟨cells, by rw [hG, h1], h2, h3, h4, by simp⟩
    · exact h.elim
  · rename_i t a
    split at h
    · rename_i tr r v off hg ha
      obtain ⟨rfl, h2⟩ := h
      obtain ⟨x, h3, h4⟩ := loadA_det h2
      refine ⟨x, ob, fun G hG => .inl (.inl ?_), h3⟩
      show opA T (.load t a) e G (fun v' H' => v' = x ∧ H' = G.set r ob)
      simp only [opA, hg, ha]
      rw [AH.set_id hG]
      simpa using h4 G hG
    · exact h.elim
  · exact pure_on h
  · exact pure_on h
  · rcases h with h | ⟨cells, n, es, h1, h2, h3⟩
    · obtain ⟨v, o', h1, h2⟩ := appL_ok (P := P) h
      exact ⟨v, o', fun G hG => .inl (h1 G hG), h2⟩
    · exact ⟨_, _, fun G hG => .inl (.inr ⟨cells, n, es, rfl, rfl, by rw [hG, h1], h2 G⟩), h3⟩
def drawKD (N : Nat) (P : Program) (T : TT) (cl : List (Nat × Nat)) (nm : Nat → Nat) (o : Oper) (rest : List Oper) (K : St → AH → Prop) (e : Env) (d : List Nat) (H : AH) : Prop :=
  when (dstOk N o.dst && o.guard.isNone) (match cK cl o with
    | none => offK P T cl nm o.op e H fun v => force v fun v => DrawK N P T cl nm rest K ⟨putA e o.dst v, d⟩ H
    | some c => ∃ ob, H (nm c) = some ob ∧ onK P T (nm c) ob o.op e fun v o' => force v fun v => DrawK N P T cl nm rest K ⟨putA e o.dst v, d⟩ (H.set (nm c) o'))
theorem DrawK.nil {N : Nat} {cl : List (Nat × Nat)} {nm : Nat → Nat} {K : St → AH → Prop} {s : St} (h : K s H) : DrawK N P T cl nm [] K s H := ⟨h⟩
theorem DrawK.consD {N : Nat} {cl : List (Nat × Nat)} {nm : Nat → Nat} {o : Oper} {rest : List Oper} {K : St → AH → Prop} {e : Env} {d : List Nat} (h : drawKD N P T cl nm o rest K e d H) : DrawK N P T cl nm (o :: rest) K ⟨e, d⟩ H := by
  refine ⟨?_⟩
  unfold drawKD at h
  unfold drawKS
  obtain ⟨h1, h2⟩ := when_iff.1 h
  rw [Bool.and_eq_true] at h1
  refine ⟨h1.1, by simpa using h1.2, ?_⟩
  split at h2
  · rename_i hc
    obtain ⟨v, h3, h4⟩ := offK_ok h2
    rw [force_eq] at h4
    exact ⟨v, h3, h4.out⟩
  · rename_i c hc
    obtain ⟨ob, h3, h4⟩ := h2
    obtain ⟨v, o', h5, h6⟩ := onK_ok (P := P) h4
    rw [force_eq] at h6
    exact ⟨ob, v, o', h3, fun G _ hG => h5 G hG, h6.out⟩
theorem AWq.drawK (hm : P.follows .mixedOrders = true) {N : Nat} {ro : Option Nat} {ws : Nat → Bool} {id : Nat} {ops : Array Oper} {K R : St → AH → Prop} {X : Nat → St → AH → Prop} {s : St} (cl : List (Nat × Nat)) (nm : Nat → Nat)
    (hnm : ∀ c c', c ∈ cl.map (·.2) → c' ∈ cl.map (·.2) → nm c = nm c' → c = c') (hord : (orderOk ops && ordK ops cl) = true) (h : DrawK N P T cl nm ops.toList K s H) :
    AWq N P T ro ws (.region id ops true) K R X s H :=
  ⟨fun hT hdraw hw => AWp_drawK hT hm cl nm hnm (List.all_eq_true.2 hw) hord h.out⟩
end Go.Fw
/- The frame of the abstract walk, part 32: a cell that nobody writes any more is told as a constant. -/
set_option linter.unusedVariables false
set_option linter.unusedSimpArgs false
namespace Go.Fw
open Go.RowKit
variable {κ : KM} {F : FM} {B : Nat} {w0 w : World} {H : AH} {P : Program} {T : TT}
theorem wrA_all {z x : List AV} (h : z.length = x.length) : wrA z 0 x = x := by
  unfold wrA; rw [Nat.zero_add, List.drop_of_length_le (by omega)]; simp
theorem AVles.of_eq {a b : List AV} (h : a = b) : AVles a b := h ▸ AVles.refl _
theorem Inv.coolP (I : Inv κ F B w0 H w) {r v : Nat} {cells : List AV} (hH : H r = some (.row cells v)) :
    ∃ F', FLe F F' ∧ Inv κ F' B w0 (H.del r) w ∧ ∀ F2 x, VR κ F2 (.ptr r v 0) x → VR κ F' (.cp cells) x := by
  obtain ⟨i, hi, hrow, hn0⟩ := I.objs _ _ hH
  have hi' : κ r v = some i := hi
  cases hb : i.blk with
  | none =>
    refine ⟨F, FLe.refl _, I.drop r, fun F2 x hv => ?_⟩
    cases hv with
    | ptr h => rw [hi'] at h; cases h; cases hb
  | some b =>
    obtain ⟨arr, hsz, hlen', hcv, hFle, I'⟩ := I.freeze hH hi' hb
    refine ⟨_, hFle, I', fun F2 x hv => ?_⟩
    cases hv with
    | ptr h =>
      rw [hi'] at h; cases h; cases hb
      refine .cp (arr := arr) (by simp) (by omega) (fun j hj => ?_)
      have := (hcv j hj).mono (KLe.refl _) hFle
      simpa using this
theorem AWp_freezeP {N : Nat} {ro : Option Nat} {ws : Nat → Bool} {c : Code} {K R : St → AH → Prop} {X : Nat → St → AH → Prop} {s : St} {H : AH} (t : Nat) {r v : Nat} {cells : List AV} (hts : ws t = true)
    (he : s.e t = .ptr r v 0) (hH : H r = some (.row cells v)) (h : AWp N P ro ws c K R X ⟨retold [t] (.cp cells) s.e, s.d⟩ (H.del r)) : AWp N P ro ws c K R X s H := by
  refine ⟨fun κ F B w0 w a I hE => ?_⟩
  obtain ⟨F', hF, I', hall⟩ := I.coolP hH
  have hag : Agree ws s ⟨retold [t] (.cp cells) s.e, s.d⟩ := by
    intro u hu
    simp only [retold]
    cases hm : memA [t] u with
    | false => rfl
    | true =>
      have : u = t := by have := (memA_iff _ _).1 hm; simpa using this
      rw [this, hts] at hu; cases hu
  have hE' : ER κ F' N ⟨retold [t] (.cp cells) s.e, s.d⟩ a := by
    refine ⟨fun u => ?_, hE.size, hE.d⟩
    simp only [retold]
    cases hm : memA [t] u with
    | false => exact (hE.e u).mono (KLe.refl _) hF
    | true =>
      have hut : u = t := by have := (memA_iff _ _).1 hm; simpa using this
      have hx := hE.e u
      rw [hut, he] at hx
      rw [hut]
      exact hall _ _ hx
  exact wpIn_mono (h.out κ F' B w0 w a I' hE') (fun e a w hq => QOk.from (KLe.refl _) hF hag hq)
theorem AWp_seg {N : Nat} {ro : Option Nat} {ws : Nat → Bool} {c : Code} {K R : St → AH → Prop} {X : Nat → St → AH → Prop} {s : St} {G : AH} {p u : Nat} {o : AO} {z x : List AV} (y : List AV)
    (hx : x = y) (hl : z.length = y.length) (h : AWp N P ro ws c K R X s (G.set p (.row y u))) : AWp N P ro ws c K R X s ((G.set p o).set p (.row (wrA z 0 x) u)) := by
  rw [AH.zS, hx, wrA_all hl]; exact h
theorem AWp_segP {N : Nat} {ro : Option Nat} {ws : Nat → Bool} {c : Code} {K R : St → AH → Prop} {X : Nat → St → AH → Prop} {s : St} {G : AH} {p u : Nat} {o : AO} {z x : List AV} (t : Nat) (y : List AV)
    (hts : ws t = true) (he : s.e t = .ptr p u 0) (hG : G p = none) (hx : x = y) (hl : z.length = y.length) (h : AWp N P ro ws c K R X ⟨retold [t] (.cp y) s.e, s.d⟩ G) : AWp N P ro ws c K R X s ((G.set p o).set p (.row (wrA z 0 x) u)) := by
  refine AWp_seg y hx hl (AWp_freezeP t hts he (AH.zC _ _ _) ?_)
  rw [AH.del_set _ _ _ hG]; exact h
theorem HLe.push {G H : AH} {r : Nat} {o o' : AO} (h : HLe (G.set r o) H) : HLe (G.set r o') (H.set r o') := by
  refine ⟨fun s x hs => ?_⟩
  by_cases e : s = r
  · rw [e, AH.zC] at hs ⊢; exact hs
  · rw [AH.zR _ _ e] at hs ⊢
    exact h.le s x (by rw [AH.zR _ _ e]; exact hs)
end Go.Fw
/- The frame of the abstract walk, part 33: a call that is told of constants alone may be made with rows that are written later; it leaves them as they were. -/
set_option linter.unusedVariables false
set_option linter.unusedSimpArgs false
namespace Go.Fw
open Go.RowKit
variable {κ : KM} {F : FM} {B : Nat} {w0 w : World} {H : AH} {P : Program} {T : TT}
inductive Flat : AV → Prop where
  | junk : Flat .junk
  | int (k : IntKind) (n : Int) : Flat (.int k n)
  | bool (b : Bool) : Flat (.bool b)
  | str (s : List UInt8) : Flat (.str s)
  | nilp : Flat .nilp
  | nils : Flat .nils
  | cs (l : List AV) (n : Nat) (h : ∀ x, x ∈ l → Flat x) : Flat (.cs l n)
  | cp (l : List AV) (h : ∀ x, x ∈ l → Flat x) : Flat (.cp l)
  | agg (l : List AV) (h : ∀ x, x ∈ l → Flat x) : Flat (.agg l)
  | tup (l : List AV) (h : ∀ x, x ∈ l → Flat x) : Flat (.tup l)
theorem Flat.vr {κ' : KM} {F' : FM} (hF : FLe F F') {a : AV} {v : Value} (hf : Flat a) (h : VR κ F a v) : VR κ' F' a v := by
  induction h with
  | junk v => exact .junk v
  | int k n => exact .int k n
  | bool b => exact .bool b
  | str s => exact .str s
  | nilp => exact .nilp
  | ptr h => cases hf
  | cp hFb hle _ ih => cases hf with | cp _ hf => exact .cp (hF _ _ hFb) hle fun i hi => ih i hi (hf _ (List.getElem_mem hi))
  | nils a => exact .nils a
  | cs0 a c => exact .cs0 a c
  | cs hFb hle hc _ ih => cases hf with | cs _ _ hf => exact .cs (hF _ _ hFb) hle hc fun i hi => ih i hi (hf _ (List.getElem_mem hi))
  | sl h hoff hlo hc hlen ha => cases hf
  | mapNil => exact .mapNil
  | map h => cases hf
  | fn hA hC _ _ ih1 ih2 => cases hf
  | nilf => exact .nilf
  | agg hA _ ih => cases hf with | agg _ hf => exact .agg hA fun i hi => ih i hi (hf _ (List.getElem_mem hi))
  | tup hA _ ih => cases hf with | tup _ hf => exact .tup hA fun i hi => ih i hi (hf _ (List.getElem_mem hi))
inductive NoF : AV → Prop where
  | junk : NoF .junk
  | int (k : IntKind) (n : Int) : NoF (.int k n)
  | bool (b : Bool) : NoF (.bool b)
  | str (s : List UInt8) : NoF (.str s)
  | nilp : NoF .nilp
  | nils : NoF .nils
  | agg (l : List AV) (h : ∀ x, x ∈ l → NoF x) : NoF (.agg l)
  | tup (l : List AV) (h : ∀ x, x ∈ l → NoF x) : NoF (.tup l)
theorem NoF.vr {κ' : KM} {F' : FM} {a : AV} {v : Value} (hf : NoF a) (h : VR κ F a v) : VR κ' F' a v := by
  induction h with
  | junk v => exact .junk v
  | int k n => exact .int k n
  | bool b => exact .bool b
  | str s => exact .str s
  | nilp => exact .nilp
  | ptr h => cases hf
  | cp hFb hle _ ih => cases hf
  | nils a => exact .nils a
  | cs0 a c => exact .cs0 a c
  | cs hFb hle hc _ ih => cases hf
  | sl h hoff hlo hc hlen ha => cases hf
  | mapNil => exact .mapNil
  | map h => cases hf
  | fn hA hC _ _ ih1 ih2 => cases hf
  | nilf => exact .nilf
  | agg hA _ ih => cases hf with | agg _ hf => exact .agg hA fun i hi => ih i hi (hf _ (List.getElem_mem hi))
  | tup hA _ ih => cases hf with | tup _ hf => exact .tup hA fun i hi => ih i hi (hf _ (List.getElem_mem hi))
inductive Frz (H : AH) : AV → AV → Prop where
  | flat (a : AV) (h : Flat a) : Frz H a a
  | sl {r v es n : Nat} {lim : Option Nat} {cells : List AV} (hr : H r = some (.row cells v)) (hl : cells.length = n * es) (h : ∀ x, x ∈ cells → Flat x) : Frz H (.sl r v es 0 n lim) (.cs cells n)
inductive Frzs (H : AH) : List AV → List AV → Prop where
  | nil : Frzs H [] []
  | cons {a b : AV} {l m : List AV} (h : Frz H a b) (k : Frzs H l m) : Frzs H (a :: l) (b :: m)
theorem Frz.vr (I : Inv κ F B w0 H w) {a b : AV} (h : Frz H a b) {x : Value} (hv : VR κ F a x) : VR (fun _ _ => none) (startF w) b x := by
  have hF : FLe F (startF w) := fun c arr hc => by
    obtain ⟨e, fr, hh⟩ := I.fz c arr hc
    unfold startF
    rw [hh]
  cases h with
  | flat _ hf => exact hf.vr hF hv
  | sl hr hl hf =>
    rename_i r v es n lim cells
    obtain ⟨i, adr, c, rfl, hi, hie, hlc, hrow, hnx, hadr, lo, hlo0, hlo, hlim⟩ := VR.slOf I hv hr
    rcases hadr with hc | ⟨b', hb', rfl⟩
    · have hn : n = 0 := by omega
      subst hn
      have : cells = [] := List.eq_nil_of_length_eq_zero (by simpa using hl)
      rw [this]; exact .cs0 _ _
    · obtain ⟨i2, hi2, hrow2, _⟩ := I.objs _ _ hr
      have hi2 : κ r v = some i2 := hi2
      rw [hi] at hi2; cases hi2
      simp only [RowOk, hb'] at hrow2
      obtain ⟨hB, hFb, arr, e, fr, hh, hlo2, hsz, hlen, hcell⟩ := hrow2
      refine .cs (arr := arr) (by unfold startF; rw [hh]) (by omega) hlc fun j hj => ?_
      have := hcell j hj
      rw [Nat.zero_add]
      exact (hf _ (List.getElem_mem hj)).vr hF this
theorem Frzs.vrs (I : Inv κ F B w0 H w) : ∀ {l m : List AV}, Frzs H l m → m.length = l.length ∧ ∀ i (hi : i < l.length) (hj : i < m.length), Frz H l[i] m[i]
  | _, _, .nil => ⟨rfl, fun i hi => by simp at hi⟩
  | _, _, .cons h k => by
    obtain ⟨k1, k2⟩ := Frzs.vrs I k
    refine ⟨by simp [k1], fun i hi hj => ?_⟩
    cases i with
    | zero => exact h
    | succ i => exact k2 i (by simpa using hi) (by simpa using hj)
theorem Frzs.cargs (I : Inv κ F B w0 H w) {args args' : List AV} {cargs : Array Value} (ha : Frzs H args args') (hA : VRs κ F args cargs) : VRs (fun _ _ => none) (startF w) args' cargs := by
  obtain ⟨k1, k2⟩ := ha.vrs I
  exact ⟨by rw [hA.1, k1], fun i hi => (k2 i (by rw [← k1]; exact hi) hi).vr I (hA.2 i (by rw [← k1]; exact hi))⟩
end Go.Fw
/- Tiles: the walks of Valid. -/
namespace Go.Proofs.YtgpfmojlgejnhaaGreat
open Go.Fw Go
set_option linter.unusedVariables false
set_option linter.unusedSimpArgs false
def tV (b : Int) (L P : List Int) : AV := .agg [.int .i64 b, .cs (iS .i64 L) L.length, .cs (iS .i64 P) P.length]
def vOk (l v : Int) : Prop := (0 ≤ v ∧ v ≤ 65535) ∧ (l < 0 → v = 0)
def pxOk (n : Nat) (L P : List Int) (i k : Nat) : Prop := ∀ j, j < k → vOk (L.getD i 0) (P.getD (i * n + j) 0)
def lbOk (n : Nat) (L P : List Int) (i : Nat) : Prop := ∀ j, j < i → (-1 ≤ L.getD j 0 ∧ L.getD j 0 ≤ 4095) ∧ pxOk n L P j n
def tForm (b : Int) (L P : List Int) : Prop := (1 ≤ b ∧ b ≤ 4) ∧ L.length = 256 ∧ (P.length : Int) = 256 * b
open Classical in
noncomputable def tileE (b : Int) (L P : List Int) : Int := if ¬ tForm b L P then 1 else if lbOk b.toNat L P 256 then 0 else 5
def tI (L : List Int) : Prop := L.length ≤ 1000000
theorem iS_mid {P : List Int} {Q k n : Nat} (hk : k < n) (hP : Q + n ≤ P.length) :
  (List.drop ((k : Int).toNat * 1) (List.take ((((Q + n : Nat) : Int).toNat - ((Q : Nat) : Int).toNat) * 1) (List.drop (((Q : Nat) : Int).toNat * 1) (iS .i64 P))))[0]? = some (.int .i64 (P.getD (Q + k) 0)) := by
 rw [Int.toNat_natCast, Int.toNat_natCast, Int.toNat_natCast, List.getElem?_drop, List.getElem?_take_of_lt (by omega), List.getElem?_drop, show Q * 1 + (k * 1 + 0) = Q + k by omega]
 exact iS_get (by omega)
theorem pxOk_snoc {n : Nat} {L P : List Int} {i k : Nat} (h : pxOk n L P i k) (hk : vOk (L.getD i 0) (P.getD (i * n + k) 0)) : pxOk n L P i (k + 1) := fun j hj => by
 by_cases e : j = k
 ·rw [e]; exact hk
 ·exact h j (by omega)
theorem lbOk_snoc {n : Nat} {L P : List Int} {i : Nat} (h : lbOk n L P i) (hl : -1 ≤ L.getD i 0 ∧ L.getD i 0 ≤ 4095) (hp : pxOk n L P i n) : lbOk n L P (i + 1) := fun j hj => by
 by_cases e : j = i
 ·rw [e]; exact ⟨hl, hp⟩
 ·exact h j (by omega)
set_option maxRecDepth 8000 in
set_option maxHeartbeats 8000000 in
theorem valid_c (b : Int) (L P : List Int) (hb : J64 b) (hL : tI L) (hP : tI P) (H : AH) :
  ACall Tryz.prog 25 [tV b L P] H (fun z H' => z = .int .i64 (tileE b L P) ∧ H' = H) := by
 unfold tileE
 unfold tI at hL hP
 have b0 := fun H => btw_c b 1 4 H
 unfold J64 at hb
 by_cases hf : tForm b L P
 ·rw [if_neg (fun h => h hf)]
  obtain ⟨h1, h2, h3⟩ := hf
  rw [decide_eq_true h1] at b0
  obtain ⟨n, rfl⟩ : ∃ n : Nat, b = n := ⟨b.toNat, by omega⟩
  rw [Int.toNat_natCast]
  have hn : P.length = 256 * n := by omega
  have hLl : (iS .i64 L).length = L.length := by simp
  have hPl : (iS .i64 P).length = P.length := by simp
  refine zQ zU (dok _) Tryz.func25 rfl (by decide) rfl ?_
  (repeat' ((conv => whnf); first | left | refine zd ?_ | (refine Both.mk ?_ ?_ <;> intro hc <;> try exact wX hc) | (intro c hc; (try (simp only [AH.zA] at hc; repeat (have hn := hc.1; replace hc := hc.2)))))) <;> (try (conv => whnf))
  refine Then.mk (AWq.in ?_)
  refine AWp_freezeP 1 rfl rfl (AH.zC _ _ _) ?_
  rw [AH.del_set _ _ _ (by assumption)]
  refine AWp.of zU (dok _) rfl ?_
  (repeat' ((conv => whnf); first | refine Then.mk ?_ | left | refine zg ?_ (b0 _) | refine zgg ?_ (b0 _) | refine zd ?_ | (refine Both.mk ?_ ?_ <;> intro hc <;> try exact wX hc) | (intro c hc; (try (simp only [AH.zA] at hc; repeat (have hn := hc.1; replace hc := hc.2)))) | (refine ACall.to (b0 _) ?_))) <;> (try (conv => whnf))
  refine zT (σ := Nat) (2 :: 3 :: 4 :: 6 :: 29 :: 30 :: 31 :: 32 :: 33 :: 34 :: 35 :: 36 :: 37 :: 38 :: 39 :: 40 :: 41 :: 42 :: 43 :: 44 :: 45 :: 46 :: 47 :: 48 :: 49 :: 50 :: 51 :: 52 :: 53 :: 54 :: 55 :: 56 :: 57 :: 58 :: 59 :: 60 :: 61 :: 62 :: 63 :: 64 :: 65 :: 66 :: []) (fun i => [(29, .int .i64 i)]) (fun _ => H) (fun i => i ≤ 256 ∧ lbOk n L P i) (fun i => 256 - i) 0 rfl ⟨Nat.zero_le _, fun j hj => absurd hj (Nat.not_lt_zero j)⟩ ⟨rfl, trivial⟩ (HLe.refl _) ?_
  rintro i ⟨hi, hio⟩
  refine AWp.of zU (dok _) rfl ?_
  dsimp only at hi ⊢
  by_cases hit : i < 256
  ·have gl : (iS .i64 L)[(i : Int).toNat]? = some (.int .i64 (L.getD i 0)) := iS_get (by omega)
   have b1 := fun H => btw_c (L.getD i 0) (-1) 4095 H
   by_cases hl : -1 ≤ L.getD i 0 ∧ L.getD i 0 ≤ 4095
   ·rw [decide_eq_true hl] at b1
    have hq : i * n + n ≤ 256 * n := by
     have := Nat.mul_le_mul_right n (show i + 1 ≤ 256 by omega)
     rwa [Nat.add_mul, Nat.one_mul] at this
    have w1 : IntKind.i64.wrap ((i : Int) * (n : Int)) = ((i * n : Nat) : Int) := by rw [← Int.natCast_mul, IntKind.wrap_i64]; omega
    have w2 : IntKind.i64.wrap (((i : Int) + 1) * (n : Int)) = ((i * n + n : Nat) : Int) := by
     rw [show ((i : Int) + 1) * (n : Int) = ((i * n + n : Nat) : Int) by rw [Int.add_mul, Int.natCast_add, Int.natCast_mul]; omega, IntKind.wrap_i64]; omega
    have hst := fun hp => lbOk_snoc (n := n) (P := P) hio hl hp
    have hpx : ∀ k, lbOk n L P 256 → k < n → vOk (L.getD i 0) (P.getD (i * n + k) 0) := fun k h hk => (h i hit).2 k hk
    obtain ⟨Q, hQ⟩ : ∃ Q, Q = i * n := ⟨_, rfl⟩
    have hsn : ∀ k, pxOk n L P i k → vOk (L.getD i 0) (P.getD (i * n + k) 0) → pxOk n L P i (k + 1) := fun k => pxOk_snoc
    rw [← hQ] at hq w1 w2 hpx hsn
    generalize hl0 : L.getD i 0 = l at *
    (repeat' ((conv => whnf); first | refine Then.mk ?_ | left | refine zg ?_ (b1 _) | refine zgg ?_ (b1 _) | refine zd ?_ | (refine Both.mk ?_ ?_ <;> intro hc <;> try exact wX hc) | (intro c hc; (try (simp only [AH.zA] at hc; repeat (have hn := hc.1; replace hc := hc.2)))) | (refine ACall.to (b1 _) ?_))) <;> (try (conv => whnf))
    refine zT (σ := Nat) (2 :: 6 :: 50 :: 51 :: 52 :: 53 :: 54 :: 55 :: 56 :: 57 :: 58 :: 59 :: 60 :: 61 :: 62 :: 63 :: 64 :: 65 :: []) (fun k => [(50, .int .i64 k)]) (fun _ => H) (fun k => k ≤ n ∧ pxOk n L P i k) (fun k => n - k) 0 rfl ⟨Nat.zero_le _, fun j hj => absurd hj (Nat.not_lt_zero j)⟩ ⟨rfl, trivial⟩ (HLe.refl _) ?_
    rintro k ⟨hk, hko⟩
    refine AWp.of zU (dok _) rfl ?_
    dsimp only at hk ⊢
    by_cases hkt : k < n
    ·have gp := iS_mid (P := P) (Q := Q) hkt (by omega)
     have b2 := fun H => btw_c (P.getD (Q + k) 0) 0 65535 H
     have hsk := hsn k hko
     have hpk := fun h => hpx k h hkt
     unfold vOk at hsk hpk
     generalize P.getD (Q + k) 0 = v at *
     by_cases hv : 0 ≤ v ∧ v ≤ 65535
     ·rw [decide_eq_true hv] at b2
      by_cases hv2 : l < 0 ∧ v ≠ 0
      ·rw [if_neg (fun h => hv2.2 ((hpk h).2 hv2.1))]
       obtain ⟨hv3, hv4⟩ := hv2
       (repeat' ((conv => whnf); first | refine Then.mk ?_ | left | refine zg ?_ (b2 _) | refine zgg ?_ (b2 _) | refine zd ?_ | (refine Both.mk ?_ ?_ <;> intro hc <;> try exact wX hc) | (intro c hc; (try (simp only [AH.zA] at hc; repeat (have hn := hc.1; replace hc := hc.2)))) | (refine ACall.to (b2 _) ?_))) <;> (try (conv => whnf))
       done
      ·have hsk2 := hsk ⟨hv, fun h => Decidable.byContradiction fun h2 => hv2 ⟨h, h2⟩⟩
       (repeat' ((conv => whnf); first | refine Then.mk ?_ | left | refine zg ?_ (b2 _) | refine zgg ?_ (b2 _) | refine zd ?_ | (refine Both.mk ?_ ?_ <;> intro hc <;> try exact wX hc) | (intro c hc; (try (simp only [AH.zA] at hc; repeat (have hn := hc.1; replace hc := hc.2)))) | (refine ACall.to (b2 _) ?_))) <;> (try (conv => whnf))
       all_goals exact ⟨k + 1, ⟨hkt, hsk2⟩, show n - (k + 1) < n - k by omega, ⟨congrArg (AV.int .i64) (by omega), trivial⟩, HLe.refl _⟩
     ·rw [decide_eq_false hv] at b2
      rw [if_neg (fun h => hv (hpk h).1)]
      (repeat' ((conv => whnf); first | refine Then.mk ?_ | left | refine zg ?_ (b2 _) | refine zgg ?_ (b2 _) | refine zd ?_ | (refine Both.mk ?_ ?_ <;> intro hc <;> try exact wX hc) | (intro c hc; (try (simp only [AH.zA] at hc; repeat (have hn := hc.1; replace hc := hc.2)))) | (refine ACall.to (b2 _) ?_))) <;> (try (conv => whnf))
      done
    ·have hke : k = n := by omega
     subst hke
     (repeat' ((conv => whnf); first | refine Then.mk ?_ | left | refine zd ?_ | (refine Both.mk ?_ ?_ <;> intro hc <;> try exact wX hc) | (intro c hc; (try (simp only [AH.zA] at hc; repeat (have hn := hc.1; replace hc := hc.2)))))) <;> (try (conv => whnf))
     exact ⟨i + 1, ⟨hit, hst hko⟩, show 256 - (i + 1) < 256 - i by omega, ⟨congrArg (AV.int .i64) (by omega), trivial⟩, HLe.refl _⟩
   ·rw [decide_eq_false hl] at b1
    rw [if_neg (fun h => hl (h i hit).1)]
    (repeat' ((conv => whnf); first | refine Then.mk ?_ | left | refine zg ?_ (b1 _) | refine zgg ?_ (b1 _) | refine zd ?_ | (refine Both.mk ?_ ?_ <;> intro hc <;> try exact wX hc) | (intro c hc; (try (simp only [AH.zA] at hc; repeat (have hn := hc.1; replace hc := hc.2)))) | (refine ACall.to (b1 _) ?_))) <;> (try (conv => whnf))
    done
  ·have hie : i = 256 := by omega
   subst hie
   rw [if_pos hio]
   (repeat' ((conv => whnf); first | refine Then.mk ?_ | left | refine zd ?_ | (refine Both.mk ?_ ?_ <;> intro hc <;> try exact wX hc) | (intro c hc; (try (simp only [AH.zA] at hc; repeat (have hn := hc.1; replace hc := hc.2)))))) <;> (try (conv => whnf))
   done
 ·rw [if_pos hf]
  unfold tForm at hf
  refine zQ zU (dok _) Tryz.func25 rfl (by decide) rfl ?_
  (repeat' ((conv => whnf); first | left | refine zd ?_ | (refine Both.mk ?_ ?_ <;> intro hc <;> try exact wX hc) | (intro c hc; (try (simp only [AH.zA] at hc; repeat (have hn := hc.1; replace hc := hc.2)))))) <;> (try (conv => whnf))
  refine Then.mk (AWq.in ?_)
  refine AWp_freezeP 1 rfl rfl (AH.zC _ _ _) ?_
  rw [AH.del_set _ _ _ (by assumption)]
  refine AWp.of zU (dok _) rfl ?_
  by_cases h1 : 1 ≤ b ∧ b ≤ 4
  ·rw [decide_eq_true h1] at b0
   have w1 : IntKind.i64.wrap (256 * b) = 256 * b := by rw [IntKind.wrap_i64]; omega
   by_cases h2 : L.length = 256
   ·(repeat' ((conv => whnf); first | refine Then.mk ?_ | left | refine zg ?_ (b0 _) | refine zgg ?_ (b0 _) | refine zd ?_ | (refine Both.mk ?_ ?_ <;> intro hc <;> try exact wX hc) | (intro c hc; (try (simp only [AH.zA] at hc; repeat (have hn := hc.1; replace hc := hc.2)))) | (refine ACall.to (b0 _) ?_))) <;> (try (conv => whnf))
    done
   ·(repeat' ((conv => whnf); first | refine Then.mk ?_ | left | refine zg ?_ (b0 _) | refine zgg ?_ (b0 _) | refine zd ?_ | (refine Both.mk ?_ ?_ <;> intro hc <;> try exact wX hc) | (intro c hc; (try (simp only [AH.zA] at hc; repeat (have hn := hc.1; replace hc := hc.2)))) | (refine ACall.to (b0 _) ?_))) <;> (try (conv => whnf))
    done
  ·rw [decide_eq_false h1] at b0
   (repeat' ((conv => whnf); first | refine Then.mk ?_ | left | refine zg ?_ (b0 _) | refine zgg ?_ (b0 _) | refine zd ?_ | (refine Both.mk ?_ ?_ <;> intro hc <;> try exact wX hc) | (intro c hc; (try (simp only [AH.zA] at hc; repeat (have hn := hc.1; replace hc := hc.2)))) | (refine ACall.to (b0 _) ?_))) <;> (try (conv => whnf))
   done
open Go.Fw Go
def grH (H : AH) (p q1 q2 : Nat) (b : Int) (A B : List Int) : AH :=
 ((H.set p (.row [.int .i64 b, .sl q1 A.length 1 0 A.length none, .sl q2 B.length 1 0 B.length none] 0)).set q1 (.row (iS .i64 A) A.length)).set q2 (.row (iS .i64 B) B.length)
structure Gr (H : AH) (p q1 q2 : Nat) : Prop where
 hp : H p = none
 ha : H q1 = none
 hb : H q2 = none
 pa : p ≠ q1
 pb : p ≠ q2
 ab : q1 ≠ q2
theorem Gr.atp {H : AH} {p q1 q2 : Nat} (g : Gr H p q1 q2) (b : Int) (A B : List Int) : grH H p q1 q2 b A B p = some (.row [.int .i64 b, .sl q1 A.length 1 0 A.length none, .sl q2 B.length 1 0 B.length none] 0) := by
 unfold grH; rw [AH.zR _ _ g.pb, AH.zR _ _ g.pa, AH.zC]
theorem Gr.ata {H : AH} {p q1 q2 : Nat} (g : Gr H p q1 q2) (b : Int) (A B : List Int) : grH H p q1 q2 b A B q1 = some (.row (iS .i64 A) A.length) := by
 unfold grH; rw [AH.zR _ _ g.ab, AH.zC]
theorem Gr.atb {H : AH} {p q1 q2 : Nat} (g : Gr H p q1 q2) (b : Int) (A B : List Int) : grH H p q1 q2 b A B q2 = some (.row (iS .i64 B) B.length) := by
 unfold grH; rw [AH.zC]
theorem Gr.stepA {H : AH} {p q1 q2 : Nat} (g : Gr H p q1 q2) (b : Int) (A B : List Int) (x : Int) :
  HLe (grH H p q1 q2 b (A ++ [x]) B) (((grH H p q1 q2 b A B).set q1 (.row (iS .i64 A ++ [.int .i64 x]) (A.length + 1))).set p (.row [.int .i64 b, .sl q1 (A.length + 1) 1 0 (A.length + 1) none, .sl q2 B.length 1 0 B.length none] 0)) := by
 obtain ⟨_, _, _, n1, n2, n3⟩ := g
 unfold grH
 rw [← iS_snoc, List.length_append]
 exact HLe.of_eq (by ((funext s; simp only [AH.set, AH.del]; repeat' split) <;> (first | rfl | (exfalso; omega))))
theorem Gr.stepB {H : AH} {p q1 q2 : Nat} (g : Gr H p q1 q2) (b : Int) (A B : List Int) (x : Int) :
  HLe (grH H p q1 q2 b A (B ++ [x])) (((grH H p q1 q2 b A B).set q2 (.row (iS .i64 B ++ [.int .i64 x]) (B.length + 1))).set p (.row [.int .i64 b, .sl q1 A.length 1 0 A.length none, .sl q2 (B.length + 1) 1 0 (B.length + 1) none] 0)) := by
 obtain ⟨_, _, _, n1, n2, n3⟩ := g
 unfold grH
 rw [← iS_snoc, List.length_append]
 exact HLe.of_eq (by ((funext s; simp only [AH.set, AH.del]; repeat' split) <;> (first | rfl | (exfalso; omega))))
theorem AWp_grown {N : Nat} {P : Program} {ro : Option Nat} {ws : Nat → Bool} {c : Code} {K R : St → AH → Prop} {X : Nat → St → AH → Prop} {s : St} {H : AH} {p q1 q2 : Nat} (g : Gr H p q1 q2) (b : Int) (A B : List Int)
  (h : AWp (P := P) N ro ws c K R X s (H.set p (.row [.int .i64 b, .cs (iS .i64 A) A.length, .cs (iS .i64 B) B.length] 0))) : AWp (P := P) N ro ws c K R X s (grH H p q1 q2 b A B) := by
 refine AWp_freezeC [.int .i64 b] [.sl q2 B.length 1 0 B.length none] g.pa (g.atp b A B) (g.ata b A B) (by simp) ?_
 have n1 := g.pa
 have n2 := g.pb
 have n3 := g.ab
 have hb := g.atb b A B
 refine AWp_freezeC (p := p) (r := q2) (u := 0) (v := B.length) (es := 1) (n := B.length) (lim := none) (cells := iS .i64 B) [.int .i64 b, .cs (iS .i64 A) A.length] [] g.pb (AH.zC _ _ _) (by rw [AH.zR _ _ (Ne.symm n2)]; unfold AH.del; rw [if_neg (Ne.symm n3)]; exact hb) (by simp) ?_
 refine AWp_less _ ?_ h
 refine ⟨fun r o hr => ?_⟩
 by_cases e : r = p
 ·subst e; rw [AH.zC] at hr ⊢; exact hr
 ·rw [AH.zR _ _ e] at hr ⊢
  have e1 : r ≠ q1 := fun e1 => by rw [e1, g.ha] at hr; cases hr
  have e2 : r ≠ q2 := fun e2 => by rw [e2, g.hb] at hr; cases hr
  unfold AH.del
  rw [if_neg e2, AH.zR _ _ e, if_neg e1]
  unfold grH
  rw [AH.zR _ _ e2, AH.zR _ _ e1, AH.zR _ _ e]
  exact hr
theorem AWp_grow {N : Nat} {P : Program} {ro : Option Nat} {ws : Nat → Bool} {c : Code} {K R : St → AH → Prop} {X : Nat → St → AH → Prop} {s : St} {H : AH} {p : Nat} (b : Int) (hp : H p = none)
  (h : ∀ q1 q2, Gr H p q1 q2 → AWp (P := P) N ro ws c K R X s (grH H p q1 q2 b [] [])) : AWp (P := P) N ro ws c K R X s (H.set p (.row [.int .i64 b, .nils, .nils] 0)) := by
 refine AWp_nilC 1 [.int .i64 b] [.nils] (AH.zC _ _ _) fun q1 h1 n1 => ?_
 refine AWp_nilC 1 [.int .i64 b, .sl q1 0 1 0 0 none] [] (AH.zC _ _ _) fun q2 h2 n2 => ?_
 have h1' : H q1 = none := (AH.none_set h1).2
 have h2a := (AH.none_set h2).2
 have n21 : q2 ≠ q1 := (AH.none_set h2a).1
 have h2' : H q2 = none := (AH.none_set (AH.none_set h2a).2).2
 refine AWp_less _ ?_ (h q1 q2 ⟨hp, h1', h2', Ne.symm n1, Ne.symm n2, Ne.symm n21⟩)
 unfold grH
 have n1' := Ne.symm n1
 have n2' := Ne.symm n2
 have n12 := Ne.symm n21
 exact HLe.of_eq (by ((funext s; simp only [AH.set, AH.del]; repeat' split) <;> (first | rfl | (exfalso; omega))))
open Go.Fw Go
def sumN (f : Nat → Int) : Nat → Int
 | 0 => 0
 | k + 1 => sumN f k + f k
def okW (w v : Int) : Prop := (0 ≤ w ∧ w ≤ 65536) ∧ (-1073741824 ≤ v ∧ v ≤ 1073741824)
instance (w v : Int) : Decidable (okW w v) := by unfold okW; exact inferInstance
open Classical in
open Go.Fw Go
theorem getD_fnL (f : Nat → Int) {n i : Nat} (h : i < n) : (fnL n f).getD i 0 = f i := by
 rw [List.getD_eq_getElem?_getD, fnL_get f h]; rfl
structure Btw (f g : Nat → Int) (k : Nat) (lo hi : Int) : Prop where
 nn : 0 ≤ sumN f k
 l : sumN f k * lo ≤ sumN (fun i => f i * g i) k
 h : sumN (fun i => f i * g i) k ≤ sumN f k * hi
theorem Btw.zero (f g : Nat → Int) : Btw f g 0 0 0 := ⟨Int.le_refl _, Int.le_refl _, Int.le_refl _⟩
open Go.Fw Go
abbrev Wl := List (Int × Int)
def prA (p : Int × Int) : List AV := [.int .i64 p.1, .int .i64 p.2]
theorem prA_len (p : Int × Int) : (prA p).length = 2 := rfl
def prL (l : Wl) : List AV := fL prA l
@[simp] theorem prL_len (l : Wl) : (prL l).length = l.length * 2 := fL_len prA_len l
theorem prL_get {l : Wl} {i : Nat} {x : Int × Int} (h : l[i]? = some x) (j : Nat) (hj : j < 2) : (prL l)[i * 2 + j]? = (prA x)[j]? := fL_get prA_len h hj
theorem prL_seg {l : Wl} {i : Nat} {x : Int × Int} (h : l[i]? = some x) : ((prL l).drop (i * 2)).take 2 = prA x := fL_seg prA_len h
theorem prL_snoc (l : Wl) (x : Int × Int) : prL (l ++ [x]) = prL l ++ prA x := (fL_snoc prA l x).symm
def cntI (x : Int) : Wl → Wl
 | [] => [(x, 1)]
 | p :: l => if p.1 = x then (x, p.2 + 1) :: l else if x < p.1 then (x, 1) :: p :: l else p :: cntI x l
structure WtOk (m : Int) (l : Wl) : Prop where
 s : l.Pairwise (fun a b => a.1 < b.1)
 c : ∀ p ∈ l, (0 ≤ p.1 ∧ p.1 ≤ 11) ∧ (1 ≤ p.2 ∧ p.2 ≤ m)
theorem WtOk.nil {m : Int} : WtOk m [] := ⟨List.Pairwise.nil, fun p hp => by simp at hp⟩
theorem wok_len : ∀ {l : Wl} {a b : Int}, l.Pairwise (fun a b => a.1 < b.1) → (∀ p ∈ l, a ≤ p.1 ∧ p.1 ≤ b) → a ≤ b + 1 → (l.length : Int) ≤ b + 1 - a
 | [], a, b, _, _, h => by simp; omega
 | p :: l, a, b, hs, hp, h => by
  rw [List.pairwise_cons] at hs
  have h1 := hp p (by simp)
  have := wok_len (a := p.1 + 1) (b := b) hs.2 (fun q hq => by have := hs.1 q hq; have := hp q (by simp [hq]); omega) (by omega)
  simp only [List.length_cons]; omega
theorem WtOk.len {m : Int} {l : Wl} (h : WtOk m l) : l.length ≤ 12 := by
 have := wok_len (a := 0) (b := 11) h.s (fun p hp => (h.c p hp).1) (by decide); omega
open Go.Fw Go
def LOk (L : List Int) : Prop := L.length ≤ 1000000 ∧ ∀ x ∈ L, -9223372036854775808 ≤ x ∧ x ≤ 11
theorem LOk.at {L : List Int} (h : LOk L) (i : Nat) : L.getD i 0 ≤ 11 := by
 by_cases hi : i < L.length
 ·exact (h.2 _ (getD_mem hi)).2
 ·rw [List.getD_eq_getElem?_getD, List.getElem?_eq_none (by omega)]; decide
def wBad (w h : Int) (L : List Int) : Prop := ¬ (1 ≤ w ∧ w ≤ 256) ∨ ¬ (1 ≤ h ∧ h ≤ 256) ∨ (L.length : Int) ≠ w * h
def wOut (w h x y r : Int) : Prop := ¬ (0 ≤ x ∧ x < w) ∨ ¬ (0 ≤ y ∧ y < h) ∨ ¬ (0 ≤ r ∧ r ≤ 4)
instance (w h : Int) (L : List Int) : Decidable (wBad w h L) := by unfold wBad; exact inferInstance
instance (w h x y r : Int) : Decidable (wOut w h x y r) := by unfold wOut; exact inferInstance
open Go.Fw Go
theorem nodup_len {α : Type} [DecidableEq α] : ∀ {A B : List α}, A.Nodup → (∀ a ∈ A, a ∈ B) → A.length ≤ B.length
 | [], B, _, _ => Nat.zero_le _
 | a :: A, B, hn, h => by
  rw [List.nodup_cons] at hn
  have ha := h a (by simp)
  have := nodup_len (A := A) (B := B.erase a) hn.2 fun x hx => by
   have hne : x ≠ a := fun e => hn.1 (e ▸ hx)
   exact (List.mem_erase_of_ne hne).2 (h x (by simp [hx]))
  rw [List.length_erase_of_mem ha] at this
  have := List.length_pos_of_mem ha
  simp only [List.length_cons]; omega
open Go.Fw Go
def wget (W : Wl) (n : Int) : Option Int := match W with
 | [] => none
 | p :: l => if p.1 = n then some p.2 else wget l n
theorem wget_none {n : Int} : ∀ {W : Wl}, wget W n = none ↔ n ∉ W.map (·.1)
 | [] => by simp [wget]
 | p :: l => by
  unfold wget
  by_cases h : p.1 = n
  ·rw [if_pos h]; simp [h]
  ·rw [if_neg h, wget_none (W := l)]
   simp [Ne.symm h]
theorem wget_cnt {x : Int} (n : Int) : ∀ {W : Wl}, W.Pairwise (fun a b => a.1 < b.1) → wget (cntI x W) n = if n = x then some ((wget W x).getD 0 + 1) else wget W n
 | [], _ => by
  show (if x = n then some 1 else none) = _
  by_cases h : n = x
  ·rw [if_pos h.symm, if_pos h]; rfl
  ·rw [if_neg (Ne.symm h), if_neg h]; rfl
 | p :: l, hp => by
  rw [List.pairwise_cons] at hp
  unfold cntI
  by_cases h1 : p.1 = x
  ·rw [if_pos h1]
   show (if x = n then some (p.2 + 1) else wget l n) = if n = x then some ((if p.1 = x then some p.2 else wget l x).getD 0 + 1) else if p.1 = n then some p.2 else wget l n
   rw [if_pos h1]
   by_cases h : n = x
   ·rw [if_pos h.symm, if_pos h]; rfl
   ·rw [if_neg (Ne.symm h), if_neg h, if_neg (by omega)]
  ·rw [if_neg h1]
   have hnx : wget l x = none ∨ p.1 < x := by
    by_cases h2 : p.1 < x
    ·exact .inr h2
    ·refine .inl (wget_none.2 fun hm => ?_)
     obtain ⟨q, hq, e⟩ := List.mem_map.1 hm
     have := hp.1 q hq; omega
   by_cases h2 : x < p.1
   ·rw [if_pos h2]
    have hn : wget l x = none := by rcases hnx with h | h; exact h; omega
    show (if x = n then some 1 else if p.1 = n then some p.2 else wget l n) = if n = x then some ((if p.1 = x then some p.2 else wget l x).getD 0 + 1) else if p.1 = n then some p.2 else wget l n
    rw [if_neg h1, hn]
    by_cases h : n = x
    ·rw [if_pos h.symm, if_pos h]; rfl
    ·rw [if_neg (Ne.symm h), if_neg h]
   ·rw [if_neg h2]
    show (if p.1 = n then some p.2 else wget (cntI x l) n) = if n = x then some ((if p.1 = x then some p.2 else wget l x).getD 0 + 1) else if p.1 = n then some p.2 else wget l n
    rw [wget_cnt n hp.2, if_neg h1]
    by_cases h : n = x
    ·rw [if_pos h, if_pos h, if_neg (by omega)]
    ·rw [if_neg h, if_neg h]
theorem mget_none {n : Int} : ∀ {es : List ME}, mget es n = none ↔ n ∉ es.map (·.k)
 | [] => by simp [mget]
 | p :: l => by
  unfold mget
  by_cases h : p.k = n
  ·rw [if_pos h]; simp [h]
  ·rw [if_neg h, mget_none (es := l)]
   simp [Ne.symm h]
theorem mget_push {y : ME} (n : Int) : ∀ (es : List ME), mget (es ++ [y]) n = (mget es n).orElse fun _ => if y.k = n then some y else none
 | [] => rfl
 | p :: l => by
  show (if p.k = n then some p else mget (l ++ [y]) n) = (if p.k = n then some p else mget l n).orElse _
  by_cases h : p.k = n
  ·rw [if_pos h, if_pos h]; rfl
  ·rw [if_neg h, if_neg h, mget_push n l]
structure MOk (es : List ME) (cl : Nat) (W : Wl) : Prop where
 b : ∀ x, x ∈ es → x.b < cl
 d : (es.map (·.b)).Nodup
 k : (es.map (·.k)).Nodup
 g : ∀ n, (mget es n).map (·.v) = (wget W n).map fun c => AV.int .i64 c
theorem MOk.nil : MOk [] 0 [] := ⟨fun x hx => by simp at hx, List.nodup_nil, List.nodup_nil, fun n => rfl⟩
theorem MOk.km {es : List ME} {cl : Nat} {W : Wl} (h : MOk es cl W) (z : Int) : z ∈ W.map (·.1) ↔ z ∈ es.map (·.k) := by
 have := h.g z
 constructor
 ·intro hz
  refine Classical.byContradiction fun hn => ?_
  rw [mget_none.2 hn] at this
  cases hw : wget W z with
  | none => exact wget_none.1 hw hz
  | some c => rw [hw] at this; cases this
 ·intro hz
  refine Classical.byContradiction fun hn => ?_
  rw [wget_none.2 hn] at this
  cases hw : mget es z with
  | none => exact mget_none.1 hw hz
  | some c => rw [hw] at this; cases this
theorem MOk.len {es : List ME} {cl : Nat} {W : Wl} {m : Int} (h : MOk es cl W) (hW : WtOk m W) : es.length ≤ 12 := by
 have h1 := hW.len
 have := nodup_len (A := es.map (·.k)) (B := W.map (·.1)) h.k fun a ha => (h.km a).2 ha
 simp at this; omega
theorem MOk.gs {es : List ME} {cl : Nat} {W : Wl} (h : MOk es cl W) {n c : Int} (hw : wget W n = some c) : ∃ k b, mget es n = some ⟨k, .int .i64 c, b⟩ := by
 have := h.g n
 rw [hw] at this
 cases hm : mget es n with
 | none => rw [hm] at this; cases this
 | some x =>
  obtain ⟨k, v, b⟩ := x
  rw [hm] at this
  have : v = .int .i64 c := by simpa using this
  subst this
  exact ⟨k, b, rfl⟩
theorem MOk.gn {es : List ME} {cl : Nat} {W : Wl} (h : MOk es cl W) {n : Int} (hw : wget W n = none) : mget es n = none := by
 have := h.g n
 rw [hw] at this
 cases hm : mget es n with
 | none => rfl
 | some x => rw [hm] at this; cases this
theorem MOk.new {es : List ME} {cl : Nat} {W : Wl} (h : MOk es cl W) (hs : W.Pairwise (fun a b => a.1 < b.1)) {n : Int} (hw : wget W n = none) : MOk (es ++ [⟨n, .int .i64 1, cl⟩]) (cl + 1) (cntI n W) := by
 have hm := h.gn hw
 refine ⟨push_lt h.b, ?_, ?_, fun m => ?_⟩
 ·rw [List.map_append, List.nodup_append]
  refine ⟨h.d, by simp, fun a ha z hz => ?_⟩
  obtain ⟨x, hx, rfl⟩ := List.mem_map.1 ha
  have : z = cl := by simpa using hz
  have := h.b x hx; omega
 ·rw [List.map_append, List.nodup_append]
  refine ⟨h.k, by simp, fun a ha z hz => ?_⟩
  have : z = n := by simpa using hz
  subst this
  intro e
  exact mget_none.1 hm (e ▸ ha)
 ·rw [mget_push, wget_cnt m hs, hw]
  by_cases e : m = n
  ·subst e
   rw [if_pos rfl, hm]
   simp
  ·rw [if_neg e]
   have := h.g m
   cases hmm : mget es m with
   | none =>
    rw [hmm] at this
    rw [← this]
    simp [Ne.symm e]
   | some x => rw [hmm] at this; exact this
open Go.Fw Go
def mostI (l : Int) : Int := 65536 / 2 ^ l.toNat
def kOk (l x y : Int) : Prop := (0 ≤ l ∧ l ≤ 16) ∧ (-mostI l ≤ x ∧ x ≤ mostI l - 1) ∧ (-mostI l ≤ y ∧ y ≤ mostI l - 1)
instance (l x y : Int) : Decidable (kOk l x y) := by unfold kOk; exact inferInstance
end Go.Proofs.YtgpfmojlgejnhaaGreat
