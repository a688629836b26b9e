/- For the law CodecBands, part 6 of 7: the frame of the walk, the walks of the functions, the plain law, the row. No conditions. -/
import Derived.Test.YtgpfmojlgejnhaaGreatCodecBandsM5
/- The walks of the reference's coder: Step, Symbol. -/
namespace Go.Proofs.YtgpfmojlgejnhaaGreat
open Go.Fw Go
set_option linter.unusedVariables false
set_option linter.unusedSimpArgs false
theorem ofN_c (m : Nat) (hm : m ≤ 9223372036854775807) (H : AH) : ACall Tryz.prog 117 [.int .i64 (m : Nat)] H (fun y H' => y = nR false m ∧ H' = H) := by
 have := of_c (m : Int) (by omega) H
 rw [show decide ((m : Int) < 0) = false from by simp, show ab (m : Int) = m from rfl, nN_false] at this
 exact this
theorem addN_c (x y : Nat) (hx : (dg x).length ≤ 50000000) (hy : (dg y).length ≤ 50000000) (H : AH) : ACall Tryz.prog 124 [nR false x, nR false y] H (fun v H' => v = nR false (x + y) ∧ H' = H) := by
 have := add_c false false x y hx hy H
 rwa [if_pos rfl, nN_false] at this
theorem mulN_c (x y : Nat) (hx : (dg x).length ≤ 50000000) (hy0 : y ≠ 0) (hy : y < 10000) (H : AH) : ACall Tryz.prog 119 [nR false x, nR false y] H (fun v H' => v = nR false (x * y) ∧ H' = H) := mul_c false false x y hx hy0 hy H
theorem divN_c (x d : Nat) (hx : (dg x).length ≤ 50000000) (hd0 : d ≠ 0) (hd : d < 10000) (H : AH) : ACall Tryz.prog 116 [nR false x, nR false d] H (fun y H' => y = .tup [nR false (x / d), nR false (x % d)] ∧ H' = H) := div_c x d hx hd0 hd H
theorem dg_room {V L : Nat} (h : V < 4294967296 * 256 ^ L) : (dg V).length ≤ L + 3 := by
 refine dg_len (k := L + 3) (Nat.lt_of_lt_of_le h ?_)
 rw [Nat.pow_add, Nat.mul_comm]
 exact Nat.mul_le_mul (Nat.pow_le_pow_left (by decide) _) (by decide)
def rcL (σ : Cs) : List AV := [.bool false, .cs (dA (dg σ.V)) (dg σ.V).length, .int .i64 σ.W, .int .i64 σ.L]
def rcG (G : AH) (c : Nat) (σ : Cs) : AH := G.set c (.row (rcL σ) 0)
set_option maxRecDepth 8000 in
set_option maxHeartbeats 4000000 in
theorem cstep_c {G : AH} {w : Nat} {σ : Cs} {p k t : Nat} (hG : G w = some (.row (rcL σ) 0)) (hc : CsOk σ) (hs : StOk p k t) (hL : σ.L ≤ 20000000) :
  ACall Tryz.prog 97 [.ptr w 0 0, .int .i64 p, .int .i64 k, .int .i64 t] G (fun y H' => y = .tup [] ∧ H' = rcG G w (stp σ p k t)) := by
 obtain ⟨s1, s2, s3⟩ := hs
 obtain ⟨r1, r2, r3⟩ := nrw_r hc (t := t) (by omega) s3
 obtain ⟨n1, n2, n3, n4⟩ := nrw_ok hc ⟨s1, s2, s3⟩
 have hroom := hc.room
 have hlo := hc.lo
 have hhi := hc.hi
 have e1 : IntKind.i64.wrap ((σ.W : Int).tdiv t) = (σ.W / t : Nat) := by
  rw [← Int.ofNat_tdiv, IntKind.wrap_i64]; omega
 have hb2 : σ.W / t * k ≤ σ.W := by
  have : (nrw σ p k t).W = σ.W / t * k := rfl
  omega
 have hVn : σ.V + σ.W / t * p + σ.W / t * k ≤ σ.V + σ.W := n3
 have hW5 : 512 ≤ σ.W / t * k := n1
 have hst : stp σ p k t = shf 3 ⟨σ.V + σ.W / t * p, σ.W / t * k, σ.L⟩ := rfl
 rw [hst]
 clear hst n1 n2 n3
 have e2 : IntKind.i64.wrap (((σ.W / t : Nat) : Int) * p) = (σ.W / t * p : Nat) := by
  rw [← Int.natCast_mul, IntKind.wrap_i64]; omega
 have e3 : IntKind.i64.wrap (((σ.W / t : Nat) : Int) * k) = (σ.W / t * k : Nat) := by
  rw [← Int.natCast_mul, IntKind.wrap_i64]; omega
 have hd1 : (dg σ.V).length ≤ σ.L + 3 := dg_room (by omega)
 have o1 := fun H => ofN_c (σ.W / t * p) (by omega) H
 have hd2 : (dg (σ.W / t * p)).length ≤ 3 := dg_len (k := 3) (by omega)
 have ad := fun H => addN_c σ.V (σ.W / t * p) (by omega) (by omega) H
 generalize σ.W / t * p = mp at *
 generalize σ.W / t * k = mk at *
 generalize σ.W / t = q at *
 unfold rcL at hG
 have o2 := fun H => ofN_c 256 (by decide) H
 refine zQ zU (dok _) Tryz.func97 rfl (by decide) rfl ?_
 (repeat' ((conv => whnf); first | left | refine zg ?_ (o1 _) | refine zg ?_ (ad _) | refine zgg ?_ (o1 _) | refine zgg ?_ (ad _) | refine zd ?_ | (refine Both.mk ?_ ?_ <;> intro hc <;> try exact wX hc) | (intro c hc; (try (simp only [AH.zA] at hc; repeat (have hn := hc.1; replace hc := hc.2)))) | (refine ACall.to (o1 _) ?_) | (refine ACall.to (ad _) ?_))) <;> (try (conv => whnf))
 repeat (refine Then.mk ?_; (repeat' ((conv => whnf); first | left | refine zg ?_ (o1 _) | refine zg ?_ (ad _) | refine zgg ?_ (o1 _) | refine zgg ?_ (ad _) | refine zd ?_ | (refine Both.mk ?_ ?_ <;> intro hc <;> try exact wX hc) | (intro c hc; (try (simp only [AH.zA] at hc; repeat (have hn := hc.1; replace hc := hc.2)))) | (refine ACall.to (o1 _) ?_) | (refine ACall.to (ad _) ?_))) <;> (try (conv => whnf)))
 refine zT (σ := Nat × Cs) (33 :: 34 :: 35 :: 36 :: 37 :: 38 :: 39 :: 40 :: 41 :: 42 :: 43 :: 44 :: 45 :: 46 :: 47 :: 48 :: 49 :: 50 :: 51 :: 52 :: 53 :: 54 :: 55 :: 56 :: 57 :: 58 :: 59 :: 60 :: 61 :: []) (fun _ => []) (fun (f, τ) => rcG G w τ) (fun (f, τ) => f ≤ 3 ∧ shf f τ = shf 3 ⟨σ.V + mp, mk, σ.L⟩ ∧ 16777216 ≤ τ.W * 256 ^ f ∧ τ.W ≤ 4294967296 ∧ 1 ≤ τ.W ∧ τ.V + τ.W ≤ 4294967296 * 256 ^ τ.L ∧ τ.L + f ≤ σ.L + 3) (fun (f, τ) => f) (3, ⟨σ.V + mp, mk, σ.L⟩) rfl ?_ trivial ?_ ?_
 ·refine ⟨Nat.le_refl _, rfl, ?_, by show mk ≤ _; omega, by show 1 ≤ mk; omega, ?_, Nat.le_refl _⟩
  ·show 16777216 ≤ mk * 256 ^ 3
   rw [show (256 : Nat) ^ 3 = 16777216 by decide]; omega
  ·show σ.V + mp + mk ≤ 4294967296 * 256 ^ σ.L
   omega
 ·refine HLe.of_eq ?_
  unfold rcG
  rw [AH.zS]
  rfl
 ·rintro ⟨f, τ⟩ ⟨i1, i2, i3, i4, i5, i6, i7⟩
  dsimp only at i1 i2 i3 i4 i5 i6 i7 ⊢
  refine AWp.of zU (dok _) rfl ?_
  have kw : rcG G w τ w = some (.row [.bool false, .cs (dA (dg τ.V)) (dg τ.V).length, .int .i64 τ.W, .int .i64 τ.L] 0) := AH.zC _ _ _
  have hg : ∀ o, (rcG G w τ).set w o = G.set w o := fun o => AH.zS _ _ _ _
  by_cases hlt : τ.W < 16777216
  ·obtain ⟨j, rfl⟩ : ∃ j, f = j + 1 := ⟨f - 1, by
    have : f ≠ 0 := fun e => by rw [e, Nat.pow_zero, Nat.mul_one] at i3; omega
    omega⟩
   have hsh : shf (j + 1) τ = shf j ⟨τ.V * 256, τ.W * 256, τ.L + 1⟩ := by
    show (if τ.W < 16777216 then _ else _) = _
    rw [if_pos hlt]
   have hd3 : (dg τ.V).length ≤ τ.L + 3 := dg_room (by omega)
   have ml := fun H => mulN_c τ.V 256 (by omega) (by decide) (by decide) H
   have hdw : IntKind.i64.wrap (256 * (τ.W : Int)) = ((τ.W * 256 : Nat) : Int) := by rw [IntKind.wrap_i64]; omega
   have hp : (256 : Nat) ^ (j + 1) = 256 ^ j * 256 := Nat.pow_succ _ _
   have hpl : (256 : Nat) ^ (τ.L + 1) = 256 ^ τ.L * 256 := Nat.pow_succ _ _
   have hnext : j ≤ 3 ∧ shf j ⟨τ.V * 256, τ.W * 256, τ.L + 1⟩ = shf 3 ⟨σ.V + mp, mk, σ.L⟩ ∧ 16777216 ≤ τ.W * 256 * 256 ^ j ∧ τ.W * 256 ≤ 4294967296 ∧ 1 ≤ τ.W * 256 ∧ τ.V * 256 + τ.W * 256 ≤ 4294967296 * 256 ^ (τ.L + 1) ∧ τ.L + 1 + j ≤ σ.L + 3 := by
    refine ⟨by omega, by rw [← hsh]; exact i2, ?_, by omega, by omega, ?_, by omega⟩
    ·rw [hp] at i3
     rw [Nat.mul_assoc, Nat.mul_comm 256]; exact i3
    ·rw [hpl]
     generalize 256 ^ τ.L = P at *
     omega
   generalize rcG G w τ = G1 at *
   (repeat' ((conv => whnf); first | refine Then.mk ?_ | left | refine zg ?_ (o2 _) | refine zg ?_ (ml _) | refine zgg ?_ (o2 _) | refine zgg ?_ (ml _) | refine zd ?_ | (refine Both.mk ?_ ?_ <;> intro hc <;> try exact wX hc) | (intro c hc; (try (simp only [AH.zA] at hc; repeat (have hn := hc.1; replace hc := hc.2)))) | (refine ACall.to (o2 _) ?_) | (refine ACall.to (ml _) ?_))) <;> (try (conv => whnf))
   refine ⟨(j, ⟨τ.V * 256, τ.W * 256, τ.L + 1⟩), hnext, Nat.lt_succ_self _, trivial, HLe.of_eq ?_⟩
   dsimp only
   rw [AH.zS, AH.zS, hg]
   rfl
  ·have hdone := shf_done (σ := τ) (by omega) f
   have hfin : shf 3 ⟨σ.V + mp, mk, σ.L⟩ = τ := by rw [← i2, hdone]
   rw [hfin]
   generalize rcG G w τ = G1 at *
   (repeat' ((conv => whnf); first | refine Then.mk ?_ | left | refine zd ?_ | (refine Both.mk ?_ ?_ <;> intro hc <;> try exact wX hc) | (intro c hc; (try (simp only [AH.zA] at hc; repeat (have hn := hc.1; replace hc := hc.2)))))) <;> (try (conv => whnf))
set_option maxRecDepth 8000 in
theorem csym_c {G : AH} {w p q n : Nat} {σ : Cs} {c : Nat → Nat} {s : Nat} (hG : G w = some (.row (rcL σ) 0)) (hm : RmAt G p q n c) (h1 : p ≠ w) (h2 : q ≠ w) (hs : s < n) (hc : CsOk σ) (hL : σ.L ≤ 20000000) :
  ACall Tryz.prog 96 [.ptr w 0 0, .ptr p 0 0, .int .i64 s] G (fun y H' => y = .tup [] ∧ H' = rmG (rcG G w (stp σ (plc c s) (c s) (plc c n))) q n (seeM n c s)) := by
 have hb : ∀ k, k < n → c k ≤ 40000 := fun k hk => by have := hm.ok.le hk; omega
 have hn := hm.ok.hn
 have hp := rplace_c hm.hp hm.hq hn hb s (by omega)
 have hpn := rplace_c hm.hp hm.hq hn hb n (by omega)
 have hst : StOk (plc c s) (c s) (plc c n) := ⟨hm.ok.pos s hs, plc_one hs, hm.ok.sum⟩
 have hstep := cstep_c hG hc hst hL
 have hsee := rsee_c (hm.same (G' := rcG G w (stp σ (plc c s) (c s) (plc c n))) (AH.zR _ _ h1) (AH.zR _ _ h2)) s hs
 have hmp := hm.hp
 have hmq := hm.hq
 have hcell := iL_gi (fun k => (c k : Int)) hs
 have hlen : (iL n fun k => (c k : Int)).length = n := iL_len _ _
 generalize (iL n fun k => (c k : Int)) = cells at *
 generalize plc c n = T at *
 generalize plc c s = A at *
 refine zQ zU (dok _) Tryz.func96 rfl (by decide) rfl ?_
 (repeat' ((conv => whnf); first | refine AWq.drawM ([24], []) (by decide +kernel) ?_ | refine Then.mk ?_ | left | refine zg ?_ (hp) | refine zg ?_ (hpn) | refine zg ?_ (hstep) | refine zg ?_ (hsee) | refine zgg ?_ (hp) | refine zgg ?_ (hpn) | refine zgg ?_ (hstep) | refine zgg ?_ (hsee) | refine zd ?_ | (refine Both.mk ?_ ?_ <;> intro hc <;> try exact wX hc) | (intro c hc; (try (simp only [AH.zA] at hc; repeat (have hn := hc.1; replace hc := hc.2)))) | (refine ACall.to (hp) ?_) | (refine ACall.to (hpn) ?_) | (refine ACall.to (hstep) ?_) | (refine ACall.to (hsee) ?_))) <;> (try (conv => whnf))
 done
open Go.Fw Go
def led (V : Nat) (n : Nat) : List Nat := (List.range n).map fun i => V / 256 ^ i % 256
@[simp] theorem led_len (V n : Nat) : (led V n).length = n := by simp [led]
theorem led_succ (V n : Nat) : led V (n + 1) = led V n ++ [V / 256 ^ n % 256] := by simp [led, List.range_succ]
theorem led_at {V n i : Nat} (h : i < n) : (led V n).getD i 0 = V / 256 ^ i % 256 := by
 unfold led
 rw [List.getD_eq_getElem?_getD, List.getElem?_map, List.getElem?_range h]; rfl
theorem dig_led (V N i : Nat) (h : i < N) : ((dig N V).getD (N - 1 - i) 0).toNat = V / 256 ^ i % 256 := by
 rw [dig_getD _ _ _ (by omega), show N - 1 - (N - 1 - i) = i by omega]
 simp
theorem dg_le {x y : Nat} (h : x ≤ y) : (dg x).length ≤ (dg y).length := by
 by_cases hl : (dg y).length < (dg x).length
 ·have := dg_short hl; omega
 ·omega
set_option maxRecDepth 8000 in
set_option maxHeartbeats 4000000 in
theorem ccode_c {G : AH} {w : Nat} {σ : Cs} (hG : G w = some (.row (rcL σ) 0)) (hc : CsOk σ) (hL : σ.L ≤ 20000000) :
  ACall Tryz.prog 98 [.ptr w 0 0] G (fun y H' => y = .cs (u8s (codeS σ)) (codeS σ).length ∧ H' = G) := by
 refine ACall.back ?_
 have hroom := hc.room
 have hlo := hc.lo
 have hd1 : (dg σ.V).length ≤ σ.L + 3 := dg_room (by omega)
 unfold rcL at hG
 have o2 := fun H => ofN_c 256 (by decide) H
 obtain ⟨N, hN⟩ : ∃ N, N = σ.L + 4 := ⟨_, rfl⟩
 obtain ⟨V, hV⟩ : ∃ V, V = σ.V := ⟨_, rfl⟩
 have hcs : codeS σ = (dig N V).take (trimN (dig N V) N) := by
  unfold codeS trim
  rw [dig_len, ← hN, ← hV]
 rw [hcs]
 rw [← hV] at hd1 hG
 refine zQ zU (dok _) Tryz.func98 rfl (by decide) rfl ?_
 (repeat' ((conv => whnf); first | left | refine zd ?_ | (refine Both.mk ?_ ?_ <;> intro hc <;> try exact wX hc) | (intro c hc; (try (simp only [AH.zA] at hc; repeat (have hn := hc.1; replace hc := hc.2)))))) <;> (try (conv => whnf))
 refine Then.mk ?_
 (repeat' ((conv => whnf); first | left | refine zd ?_ | (refine Both.mk ?_ ?_ <;> intro hc <;> try exact wX hc) | (intro c hc; (try (simp only [AH.zA] at hc; repeat (have hn := hc.1; replace hc := hc.2)))))) <;> (try (conv => whnf))
 refine Then.mk ?_
 (repeat' ((conv => whnf); first | left | refine zd ?_ | (refine Both.mk ?_ ?_ <;> intro hc <;> try exact wX hc) | (intro c hc; (try (simp only [AH.zA] at hc; repeat (have hn := hc.1; replace hc := hc.2)))))) <;> (try (conv => whnf))
 obtain ⟨r3, hr3⟩ : ∃ r, r = c := ⟨c, rfl⟩
 have h3 : G r3 = none := by rw [hr3]; assumption
 rw [← hr3]
 have h3w : r3 ≠ w := AH.ne_none' h3 hG
 refine Then.mk (AWq.in ?_)
 refine AWp_nilrow1 4 1 rfl rfl fun r4 hr4 => ?_
 obtain ⟨h43, h4⟩ := AH.none_set (AH.none_set hr4).2
 have h4w : r4 ≠ w := AH.ne_none' h4 hG
 refine AWp.of zU (dok _) rfl ?_
 (repeat' ((conv => whnf); first | left | refine zd ?_ | (refine Both.mk ?_ ?_ <;> intro hc <;> try exact wX hc) | (intro c hc; (try (simp only [AH.zA] at hc; repeat (have hn := hc.1; replace hc := hc.2)))))) <;> (try (conv => whnf))
 refine Then.mk ?_
 (repeat' ((conv => whnf); first | left | refine zd ?_ | (refine Both.mk ?_ ?_ <;> intro hc <;> try exact wX hc) | (intro c hc; (try (simp only [AH.zA] at hc; repeat (have hn := hc.1; replace hc := hc.2)))))) <;> (try (conv => whnf))
 refine zT (σ := Nat) (4 :: 5 :: 6 :: 7 :: 8 :: 9 :: 17 :: 18 :: 19 :: 20 :: 21 :: 22 :: 23 :: 24 :: 25 :: 26 :: 27 :: 28 :: 29 :: 30 :: 31 :: 32 :: 33 :: 34 :: 35 :: 36 :: 37 :: 38 :: 39 :: 40 :: 41 :: []) (fun i => [(4, .sl r4 i 1 0 i none), (5, .int .i64 i)]) (fun i => (AH.set G r3 (.row [.bool false, .cs (dA (dg (V / 256 ^ i))) (dg (V / 256 ^ i)).length] 0)).set r4 (.row (dA (led V i)) i)) (fun i => i ≤ N) (fun i => N - i) 0 rfl (Nat.zero_le _) ⟨rfl, rfl, trivial⟩ ?_ ?_
 ·refine HLe.of_eq ?_
  rw [Nat.pow_zero, Nat.div_one, AH.zS]
  rfl
 ·intro i hi
  dsimp only at hi ⊢
  refine AWp.of zU (dok _) rfl ?_
  have k4 : ((AH.set G r3 (.row [.bool false, .cs (dA (dg (V / 256 ^ i))) (dg (V / 256 ^ i)).length] 0)).set r4 (.row (dA (led V i)) i)) r4 = some (.row (dA (led V i)) i) := AH.zC _ _ _
  have k3 : ((AH.set G r3 (.row [.bool false, .cs (dA (dg (V / 256 ^ i))) (dg (V / 256 ^ i)).length] 0)).set r4 (.row (dA (led V i)) i)) r3 = some (.row [.bool false, .cs (dA (dg (V / 256 ^ i))) (dg (V / 256 ^ i)).length] 0) := by rw [AH.zR _ _ (Ne.symm h43), AH.zC]
  have kw : ((AH.set G r3 (.row [.bool false, .cs (dA (dg (V / 256 ^ i))) (dg (V / 256 ^ i)).length] 0)).set r4 (.row (dA (led V i)) i)) w = some (.row [.bool false, .cs (dA (dg V)) (dg V).length, .int .i64 σ.W, .int .i64 σ.L] 0) := by rw [AH.zR _ _ (Ne.symm h4w), AH.zR _ _ (Ne.symm h3w)]; exact hG
  by_cases hin : i < N
  ·have hset : ∀ X Y, ((((AH.set G r3 (.row [.bool false, .cs (dA (dg (V / 256 ^ i))) (dg (V / 256 ^ i)).length] 0)).set r4 (.row (dA (led V i)) i)).set r4 Y).set r3 X) = (AH.set G r3 X).set r4 Y := fun X Y => by
    rw [AH.zS, AH.set_back _ (Ne.symm h43)]
   generalize ((AH.set G r3 (.row [.bool false, .cs (dA (dg (V / 256 ^ i))) (dg (V / 256 ^ i)).length] 0)).set r4 (.row (dA (led V i)) i)) = B at *
   have hdl := dg_le (Nat.div_le_self V (256 ^ i))
   have dv := fun H => divN_c (V / 256 ^ i) 256 (by omega) (by decide) (by decide) H
   have hm := Nat.mod_lt (V / 256 ^ i) (show 0 < 256 by decide)
   have sm := fun H => smallI_c (V / 256 ^ i % 256) (by omega) H
   have hq : V / 256 ^ i / 256 = V / 256 ^ (i + 1) := by rw [Nat.pow_succ, Nat.div_div_eq_div_mul]
   rw [hq] at dv
   have hls := led_succ V i
   have hll := led_len V i
   generalize V / 256 ^ i % 256 = m at *
   generalize hqq : V / 256 ^ (i + 1) = q at *
   generalize V / 256 ^ i = x at *
   generalize led V i = ls at *
   unfold nR at dv
   unfold nR at sm
   (repeat' ((conv => whnf); first | refine Then.mk ?_ | left | refine zs ?_ | (refine Both.mk ?_ ?_ <;> intro hc <;> try exact wX hc) | (intro c hc; (try (simp only [AH.zA] at hc; repeat (have hn := hc.1; replace hc := hc.2)))))) <;> (try (conv => whnf))
   refine AWq.in ?_
   refine AWp_spare fun a ha => ?_
   refine AWp_spare fun b hb => ?_
   obtain ⟨nm, k0, k1⟩ : ∃ nm : Nat → Nat, nm 0 = a ∧ nm 1 = b := ⟨fun k => if k = 0 then a else b, rfl, rfl⟩
   subst k0 k1
   obtain ⟨n10, hb⟩ := AH.none_set hb
   have n30 : nm 0 ≠ r3 := AH.ne_none' ha k3
   have n31 : nm 1 ≠ r3 := AH.ne_none' hb k3
   have n40 : nm 0 ≠ r4 := AH.ne_none' ha k4
   have n41 : nm 1 ≠ r4 := AH.ne_none' hb k4
   refine AWp.of zU (dok _) rfl ?_
   refine AWq.drawK mo [(6, 0), (7, 1)] nm ?_ (by decide +kernel) ?_
   ·intro a b ha hb hab
    simp at ha hb
    rcases ha with rfl | rfl <;> rcases hb with rfl | rfl <;> first | rfl | exact absurd hab n10 | exact absurd hab (Ne.symm n10)
   (repeat' ((conv => whnf); first | refine DrawK.consD ?_ | refine DrawK.nil ?_ | (apply And.intro; (focus (repeat (first | exact trivial | (refine And.intro (a := _ ≠ _) (b := offR _ _ _) ?_ ?_; (first | assumption | omega | exact Ne.symm (by assumption) | exact AH.ne_none (by assumption) (by assumption) | exact AH.none_ne (by assumption) (by assumption) | exact (AH.none_set (by assumption)).1 | exact Ne.symm (AH.none_set (by assumption)).1)))); done)) | (apply And.intro; exact o2 _) | (apply And.intro; exact dv _) | (apply And.intro; exact sm _) | refine Then.mk ?_ | left | refine zg ?_ (o2 _) | refine zg ?_ (dv _) | refine zg ?_ (sm _) | refine zgg ?_ (o2 _) | refine zgg ?_ (dv _) | refine zgg ?_ (sm _) | refine zd ?_ | (refine Both.mk ?_ ?_ <;> intro hc <;> try exact wX hc) | (intro c hc; (try (simp only [AH.zA] at hc; repeat (have hn := hc.1; replace hc := hc.2)))) | (refine ACall.to (o2 _) ?_) | (refine ACall.to (dv _) ?_) | (refine ACall.to (sm _) ?_))) <;> (try (conv => whnf))
   refine ⟨i + 1, hin, by omega, ⟨?_, congrArg (AV.int .i64) (by omega), trivial⟩, ?_⟩
   ·rfl
   ·dsimp only
    rw [hls, ← hset, hqq, ← dA_snoc]
    refine HLe.set (HLe.set ?_ _ _) _ _
    (first | ((repeat' (first | (with_reducible exact HLe.refl _) | (with_reducible assumption) | apply HLe.push | refine HLe.set_of _ _ ?_ ?_ | refine HLe.del _ ?_ ?_ | rw [AH.zR _ _ (by (first | assumption | omega | exact Ne.symm (by assumption) | exact AH.ne_none (by assumption) (by assumption) | exact AH.none_ne (by assumption) (by assumption) | exact (AH.none_set (by assumption)).1 | exact Ne.symm (AH.none_set (by assumption)).1))])); done) | ((repeat' (first | refine HLe.set_of _ _ ?_ ?_ | refine HLe.del _ ?_ ?_)) <;> (first | assumption | exact HLe.refl _ | exact HLe.none (by assumption) (by assumption) | (simp_all; done))))
  ·have hie : i = N := by omega
   subst hie
   have hle : HLe G ((AH.set G r3 (.row [.bool false, .cs (dA (dg (V / 256 ^ i))) (dg (V / 256 ^ i)).length] 0)).set r4 (.row (dA (led V i)) i)) := HLe.set_of _ _ (HLe.set_of _ _ (HLe.refl _) h3) h4
   have hlen : (dA (led V i)).length = i := by simp
   generalize ((AH.set G r3 (.row [.bool false, .cs (dA (dg (V / 256 ^ i))) (dg (V / 256 ^ i)).length] 0)).set r4 (.row (dA (led V i)) i)) = B at *
   have hcell : ∀ j, j < i → (dA (led V i))[(j : Int).toNat]? = some (.int .i64 (V / 256 ^ j % 256 : Nat)) := fun j hj => by
    rw [dA_gi (by rw [led_len]; exact hj), led_at hj]
   have hdig : ∀ j, j < i → ((dig i V).getD (i - 1 - j) 0).toNat = V / 256 ^ j % 256 := fun j hj => dig_led V i j hj
   have hdl := dig_len i V
   generalize dA (led V i) = cells at *
   generalize dig i V = bs at *
   (repeat' ((conv => whnf); first | refine Then.mk ?_ | left | refine zd ?_ | (refine Both.mk ?_ ?_ <;> intro hc <;> try exact wX hc) | (intro c hc; (try (simp only [AH.zA] at hc; repeat (have hn := hc.1; replace hc := hc.2)))))) <;> (try (conv => whnf))
   refine zT (σ := Nat) (10 :: 42 :: 43 :: 44 :: 45 :: 46 :: 47 :: 48 :: 49 :: 50 :: 51 :: 52 :: 53 :: 54 :: []) (fun j => [(10, .int .i64 j)]) (fun _ => B) (fun j => j ≤ i ∧ trimN bs i = trimN bs (i - j)) (fun j => i - j) 0 rfl ⟨Nat.zero_le _, rfl⟩ ⟨rfl, trivial⟩ (HLe.refl _) ?_
   rintro j ⟨hj, htr⟩
   dsimp only at hj htr ⊢
   refine AWp.of zU (dok _) rfl ?_
   by_cases hmore : j < i ∧ V / 256 ^ j % 256 = 0
   ·obtain ⟨m1, m2⟩ := hmore
    have hcl := hcell j m1
    have hnx : trimN bs (i - j) = trimN bs (i - (j + 1)) := by
     have hz : bs.getD (i - 1 - j) 0 = 0 := UInt8.toNat_inj.1 (by rw [hdig j m1, m2]; rfl)
     rw [show i - j = (i - 1 - j) + 1 by omega, show i - (j + 1) = i - 1 - j by omega]
     show (if bs.getD (i - 1 - j) 0 = 0 then _ else _) = _
     rw [if_pos hz]
    rw [m2] at hcl
    (repeat' ((conv => whnf); first | refine Then.mk ?_ | left | refine zd ?_ | (refine Both.mk ?_ ?_ <;> intro hc <;> try exact wX hc) | (intro c hc; (try (simp only [AH.zA] at hc; repeat (have hn := hc.1; replace hc := hc.2)))))) <;> (try (conv => whnf))
    exact ⟨j + 1, ⟨by omega, by rw [htr, hnx]⟩, by omega, ⟨congrArg (AV.int .i64) (by omega), trivial⟩, HLe.refl _⟩
   ·have htn : trimN bs i = i - j := by
     rw [htr]
     by_cases hji : j < i
     ·have hz : ¬ bs.getD (i - 1 - j) 0 = 0 := fun e => hmore ⟨hji, by rw [← hdig j hji, e]; rfl⟩
      rw [show i - j = (i - 1 - j) + 1 by omega]
      show (if bs.getD (i - 1 - j) 0 = 0 then _ else _) = _
      rw [if_neg hz]
     ·rw [show i - j = 0 by omega]; rfl
    rw [htn]
    have hz : ∃ z : Nat, z < 256 ∧ (j < i → cells[(j : Int).toNat]? = some (.int .i64 (z : Nat)) ∧ z ≠ 0) :=
     ⟨V / 256 ^ j % 256, Nat.mod_lt _ (by decide), fun h => ⟨hcell j h, fun e => hmore ⟨h, e⟩⟩⟩
    obtain ⟨z, hz1, hz2⟩ := hz
    clear hmore
    apply Kept_split
    case main =>
     intro tail
     by_cases hji : j < i
     ·obtain ⟨hcl, hnz⟩ := hz2 hji
      (repeat' ((conv => whnf); first | left | refine zd ?_ | (refine Both.mk ?_ ?_ <;> intro hc <;> try exact wX hc) | (intro c hc; (try (simp only [AH.zA] at hc; repeat (have hn := hc.1; replace hc := hc.2)))))) <;> (try (conv => whnf))
      refine Then.mk ?_
      (repeat' ((conv => whnf); first | left | refine zd ?_ | (refine Both.mk ?_ ?_ <;> intro hc <;> try exact wX hc) | (intro c hc; (try (simp only [AH.zA] at hc; repeat (have hn := hc.1; replace hc := hc.2)))))) <;> (try (conv => whnf))
      refine Then.mk (AWq.in ?_)
      refine AWp_cutd [(4, .sl r4 i 1 0 i none), (10, .int .i64 j)] rfl ⟨rfl, rfl, trivial⟩ (fun _ => rfl) (HLe.refl _) ?_
      exact tail.out
     ·(repeat' ((conv => whnf); first | left | refine zd ?_ | (refine Both.mk ?_ ?_ <;> intro hc <;> try exact wX hc) | (intro c hc; (try (simp only [AH.zA] at hc; repeat (have hn := hc.1; replace hc := hc.2)))))) <;> (try (conv => whnf))
      refine Then.mk ?_
      (repeat' ((conv => whnf); first | left | refine zd ?_ | (refine Both.mk ?_ ?_ <;> intro hc <;> try exact wX hc) | (intro c hc; (try (simp only [AH.zA] at hc; repeat (have hn := hc.1; replace hc := hc.2)))))) <;> (try (conv => whnf))
      refine Then.mk (AWq.in ?_)
      refine AWp_cutd [(4, .sl r4 i 1 0 i none), (10, .int .i64 j)] rfl ⟨rfl, rfl, trivial⟩ (fun _ => rfl) (HLe.refl _) ?_
      exact tail.out
    case tl =>
    clear hz2 z hz1
    refine AWp.of zU (dok _) rfl ?_
    (repeat' ((conv => whnf); first | left | refine zd ?_ | (refine Both.mk ?_ ?_ <;> intro hc <;> try exact wX hc) | (intro c hc; (try (simp only [AH.zA] at hc; repeat (have hn := hc.1; replace hc := hc.2)))))) <;> (try (conv => whnf))
    refine Then.mk (AWq.in ?_)
    refine AWp_nilrow1 11 1 rfl rfl fun r hr => ?_
    have hle2 : HLe G B := hle
    have hrG : G r = none := HLe.none hle hr
    have hr4 : r4 ≠ r := AH.ne_none hr k4
    refine AWp.of zU (dok _) rfl ?_
    (repeat' ((conv => whnf); first | left | refine zd ?_ | (refine Both.mk ?_ ?_ <;> intro hc <;> try exact wX hc) | (intro c hc; (try (simp only [AH.zA] at hc; repeat (have hn := hc.1; replace hc := hc.2)))))) <;> (try (conv => whnf))
    refine Then.mk ?_
    (repeat' ((conv => whnf); first | left | refine zd ?_ | (refine Both.mk ?_ ?_ <;> intro hc <;> try exact wX hc) | (intro c hc; (try (simp only [AH.zA] at hc; repeat (have hn := hc.1; replace hc := hc.2)))))) <;> (try (conv => whnf))
    refine zT (σ := Nat) (11 :: 12 :: 58 :: 59 :: 60 :: 61 :: 62 :: 63 :: 64 :: 65 :: 66 :: 67 :: 68 :: 69 :: 70 :: []) (fun k => [(11, .sl r k 1 0 k none), (12, .int .i64 ((i : Int) - 1 - k))]) (fun k => B.set r (.row (u8s (bs.take k)) k)) (fun k => k ≤ i - j) (fun k => i - j - k) 0 rfl (Nat.zero_le _) ⟨rfl, congrArg (AV.int .i64) (by omega), trivial⟩ ?_ ?_
    ·exact HLe.refl _
    ·intro k hk
     dsimp only at hk ⊢
     refine AWp.of zU (dok _) rfl ?_
     have kr : (B.set r (.row (u8s (bs.take k)) k)) r = some (.row (u8s (bs.take k)) k) := AH.zC _ _ _
     have k4' : (B.set r (.row (u8s (bs.take k)) k)) r4 = some (.row cells i) := by rw [AH.zR _ _ hr4]; exact k4
     have hul : (u8s (bs.take k)).length = k * 1 := by simp; omega
     by_cases hkj : k < i - j
     ·have hcl := hcell (i - 1 - k) (by omega)
      have hdk := hdig (i - 1 - k) (by omega)
      rw [show i - 1 - (i - 1 - k) = k by omega] at hdk
      rw [show ((i - 1 - k : Nat) : Int) = (i : Int) - 1 - k by omega] at hcl
      have hm := Nat.mod_lt (V / 256 ^ (i - 1 - k)) (show 0 < 256 by decide)
      generalize V / 256 ^ (i - 1 - k) % 256 = z at *
      have e8 : IntKind.u8.wrap (z : Nat) = (z : Nat) := by rw [wrap_u8']; omega
      have hsn : u8s (bs.take k) ++ [.int .u8 (z : Nat)] = u8s (bs.take (k + 1)) := by
       rw [List.take_add_one, u8s, u8s, List.map_append]
       have : bs[k]? = some (bs.getD k 0) := by rw [List.getD_eq_getElem?_getD, List.getElem?_eq_getElem (by omega)]; rfl
       rw [this, ← hdk]
       rfl
      have hfin : ∀ o, (B.set r (.row (u8s (bs.take k)) k)).set r o = B.set r o := fun o => AH.zS _ _ _ _
      generalize (B.set r (.row (u8s (bs.take k)) k)) = C at *
      (repeat' ((conv => whnf); first | refine Then.mk ?_ | left | refine zd ?_ | (refine Both.mk ?_ ?_ <;> intro hc <;> try exact wX hc) | (intro c hc; (try (simp only [AH.zA] at hc; repeat (have hn := hc.1; replace hc := hc.2)))))) <;> (try (conv => whnf))
      refine ⟨k + 1, hkj, by omega, ⟨rfl, congrArg (AV.int .i64) (by omega), trivial⟩, HLe.of_eq ?_⟩
      rw [hfin, ← hsn]
     ·have hke : k = i - j := by omega
      subst hke
      have htl : (bs.take (i - j)).length = i - j := by simp; omega
      rw [htl]
      (repeat' ((conv => whnf); first | left | refine zd ?_ | (refine Both.mk ?_ ?_ <;> intro hc <;> try exact wX hc) | (intro c hc; (try (simp only [AH.zA] at hc; repeat (have hn := hc.1; replace hc := hc.2)))))) <;> (try (conv => whnf))
      refine Then.mk (AWq.in ?_)
      refine AWp_freeze1 (r := r) (v := i - j) (es := 1) (n := i - j) (lim := none) (cells := u8s (bs.take (i - j))) 11 rfl rfl kr hul ?_
      refine AWp.of zU (dok _) rfl ?_
      rw [AH.del_set _ _ _ hr]
      (repeat' ((conv => whnf); first | refine Then.mk ?_ | left | refine zd ?_ | (refine Both.mk ?_ ?_ <;> intro hc <;> try exact wX hc) | (intro c hc; (try (simp only [AH.zA] at hc; repeat (have hn := hc.1; replace hc := hc.2)))))) <;> (try (conv => whnf))
      exact hle
open Go.Fw Go
structure Rms (G : AH) (P Q : Nat → Nat) (m n : Nat) (M : Nat → Nat → Nat) : Prop where
 md : ∀ k, k < m → RmAt G (P k) (Q k) n (M k)
 pp : ∀ j k, j < m → k < m → j ≠ k → P j ≠ P k
 qq : ∀ j k, j < m → k < m → j ≠ k → Q j ≠ Q k
 pq : ∀ j k, j < m → k < m → P j ≠ Q k
theorem Rms.same {G G' : AH} {P Q : Nat → Nat} {m n : Nat} {M : Nat → Nat → Nat} (h : Rms G P Q m n M) (hs : ∀ k, k < m → G' (P k) = G (P k) ∧ G' (Q k) = G (Q k)) : Rms G' P Q m n M :=
 ⟨fun k hk => (h.md k hk).same (hs k hk).1 (hs k hk).2, h.pp, h.qq, h.pq⟩
theorem rmG_ne {G : AH} {q n a : Nat} {c : Nat → Nat} (h : a ≠ q) : rmG G q n c a = G a := AH.zR _ _ h
theorem Rms.set {G : AH} {P Q : Nat → Nat} {m n : Nat} {M : Nat → Nat → Nat} (h : Rms G P Q m n M) {k : Nat} (hk : k < m) {c : Nat → Nat} (hc : MdOk n c) :
  Rms (rmG G (Q k) n c) P Q m n (fun j => if j = k then c else M j) := by
 refine ⟨fun j hj => ?_, h.pp, h.qq, h.pq⟩
 by_cases e : j = k
 ·subst e
  rw [if_pos rfl]
  exact (h.md j hj).set hc
 ·rw [if_neg e]
  exact (h.md j hj).same (rmG_ne (h.pq _ _ hj hk)) (rmG_ne (h.qq _ _ hj hk e))
theorem Rms.fresh {G : AH} {P Q : Nat → Nat} {m n : Nat} {M : Nat → Nat → Nat} (h : Rms G P Q m n M) {a : Nat} (ha : G a = Option.none) {k : Nat} (hk : k < m) : P k ≠ a ∧ Q k ≠ a :=
 ⟨Ne.symm (AH.ne_none' ha (h.md k hk).hp), Ne.symm (AH.ne_none' ha (h.md k hk).hq)⟩
def rnG (G : AH) (p q n : Nat) (c : Nat → Nat) : AH := (rmG G q n c).set p (.row [.sl q n 1 0 n none] 0)
theorem rnG_ne {G : AH} {p q n a : Nat} {c : Nat → Nat} (h1 : a ≠ p) (h2 : a ≠ q) : rnG G p q n c a = G a := (AH.zR _ _ h1).trans (rmG_ne h2)
theorem Rms.more {G : AH} {P Q : Nat → Nat} {m n : Nat} {M : Nat → Nat → Nat} (h : Rms G P Q m n M) {p q : Nat} (hp : G p = Option.none) (hq : G q = Option.none) (hne : p ≠ q) (hM : MdOk n (M m)) :
  Rms (rnG G p q n (M m)) (putF P m p) (putF Q m q) (m + 1) n M := by
 have a1 : ∀ k, k < m → putF P m p k = P k := fun k hk => putF_ne _ _ (by omega)
 have a2 : ∀ k, k < m → putF Q m q k = Q k := fun k hk => putF_ne _ _ (by omega)
 have b1 : ∀ k, k < m + 1 → k < m ∨ k = m := fun k hk => by omega
 refine ⟨fun k hk => ?_, fun j k hj hk hjk => ?_, fun j k hj hk hjk => ?_, fun j k hj hk => ?_⟩
 ·rcases b1 k hk with hk | rfl
  ·rw [a1 k hk, a2 k hk]
   exact (h.md k hk).same (rnG_ne (h.fresh hp hk).1 (h.fresh hq hk).1) (rnG_ne (h.fresh hp hk).2 (h.fresh hq hk).2)
  ·rw [putF_at, putF_at]
   exact ⟨AH.zC _ _ _, by unfold rnG; rw [AH.zR _ _ (Ne.symm hne)]; exact AH.zC _ _ _, hne, hM⟩
 ·rcases b1 j hj with hj | rfl <;> rcases b1 k hk with hk | rfl
  ·rw [a1 j hj, a1 k hk]; exact h.pp j k hj hk hjk
  ·rw [a1 j hj, putF_at]; exact (h.fresh hp hj).1
  ·rw [a1 k hk, putF_at]; exact Ne.symm (h.fresh hp hk).1
  ·exact absurd rfl hjk
 ·rcases b1 j hj with hj | rfl <;> rcases b1 k hk with hk | rfl
  ·rw [a2 j hj, a2 k hk]; exact h.qq j k hj hk hjk
  ·rw [a2 j hj, putF_at]; exact (h.fresh hq hj).2
  ·rw [a2 k hk, putF_at]; exact Ne.symm (h.fresh hq hk).2
  ·exact absurd rfl hjk
 ·rcases b1 j hj with hj | rfl <;> rcases b1 k hk with hk | rfl
  ·rw [a1 j hj, a2 k hk]; exact h.pq j k hj hk
  ·rw [a1 j hj, putF_at]; exact (h.fresh hq hj).1
  ·rw [a2 k hk, putF_at]; exact Ne.symm (h.fresh hp hk).2
  ·rw [putF_at, putF_at]; exact hne
structure RmsOk (H G : AH) (a n i : Nat) (P Q : Nat → Nat) : Prop where
 mods : Rms G P Q i n fun _ _ => 1
 row : G a = some (.row (psL P i) i)
 le : HLe H G
 na : ∀ k, k < i → P k ≠ a ∧ Q k ≠ a
 new : ∀ k, k < i → H (P k) = none ∧ H (Q k) = none
set_option maxRecDepth 8000 in
theorem rmodels_c (n m : Nat) (hn2 : n ≤ 1024) (hm2 : m ≤ 256) (H : AH) :
  ACall Tryz.prog 92 [.int .i64 n, .int .i64 m] H (fun y H' => ∃ P Q, y = .cs (psL P m) m ∧ Rms H' P Q m n (fun _ _ => 1) ∧ HLe H H' ∧ ∀ k, k < m → H (P k) = none ∧ H (Q k) = none) := by
 refine zQ zU (dok _) Tryz.func92 rfl (by decide) rfl ?_
 (repeat' ((conv => whnf); first | left | refine zd ?_ | (refine Both.mk ?_ ?_ <;> intro hc <;> try exact wX hc) | (intro c hc; (try (simp only [AH.zA] at hc; repeat (have hn := hc.1; replace hc := hc.2)))))) <;> (try (conv => whnf))
 refine Then.mk ?_
 (repeat' ((conv => whnf); first | left | refine zd ?_ | (refine Both.mk ?_ ?_ <;> intro hc <;> try exact wX hc) | (intro c hc; (try (simp only [AH.zA] at hc; repeat (have hn := hc.1; replace hc := hc.2)))))) <;> (try (conv => whnf))
 refine Then.mk (AWq.in ?_)
 refine AWp_nilrow1 5 1 rfl rfl fun a ha => ?_
 refine AWp.of zU (dok _) rfl ?_
 (repeat' ((conv => whnf); first | refine Then.mk ?_ | left | refine zd ?_ | (refine Both.mk ?_ ?_ <;> intro hc <;> try exact wX hc) | (intro c hc; (try (simp only [AH.zA] at hc; repeat (have hn := hc.1; replace hc := hc.2)))))) <;> (try (conv => whnf))
 refine zT (σ := AH × Nat × (Nat → Nat) × (Nat → Nat)) (5 :: 6 :: 7 :: 8 :: 9 :: 10 :: 11 :: 12 :: 13 :: 14 :: 15 :: 16 :: []) (fun (G, i, P, Q) => [(5, .sl a i 1 0 i none), (6, .int .i64 i)]) (fun (G, i, P, Q) => G) (fun (G, i, P, Q) => i ≤ m ∧ RmsOk H G a n i P Q) (fun (G, i, P, Q) => m - i) (_, 0, fun _ => 0, fun _ => 0) rfl ?_ ?_ (HLe.refl _) ?_
 ·refine ⟨Nat.zero_le _, ⟨⟨fun k hk => absurd hk (by omega), fun j k hj => absurd hj (by omega), fun j k hj => absurd hj (by omega), fun j k hj => absurd hj (by omega)⟩, AH.zC _ _ _, HLe.fresh _ ha, fun k hk => absurd hk (by omega), fun k hk => absurd hk (by omega)⟩⟩
 ·exact ⟨rfl, rfl, trivial⟩
 ·rintro ⟨G, i, P, Q⟩ ⟨hi, hok⟩
  dsimp only at hi hok ⊢
  obtain ⟨hmods, hrow, hle, hna, hnew⟩ := hok
  refine AWp.of zU (dok _) rfl ?_
  have hpl : (psL P i).length = i := psL_len _ _
  by_cases him : i < m
  ·(repeat' ((conv => whnf); first | refine Then.mk ?_ | left | refine zd ?_ | (refine Both.mk ?_ ?_ <;> intro hc <;> try exact wX hc) | (intro c hc; (try (simp only [AH.zA] at hc; repeat (have hn := hc.1; replace hc := hc.2)))))) <;> (try (conv => whnf))
   refine (rnew_c n (by omega) _).mono ?_
   rintro y H' ⟨p, q, hp, hq, hpq, rfl, rfl⟩
   have hap : a ≠ p := AH.ne_none hp hrow
   have haq : a ≠ q := AH.ne_none hq hrow
   show force _ _
   have hrow2 : rnG G p q n (fun _ => 1) a = some (.row (psL P i) i) := by rw [rnG_ne hap haq]; exact hrow
   have hm2 := hmods.more hp hq hpq (MdOk.new hn2)
   have hHp : H p = none := HLe.none hle hp
   have hHq : H q = none := HLe.none hle hq
   have hle2 : HLe H (rnG G p q n fun _ => 1) := HLe.set_of _ _ (HLe.set_of _ _ hle hHq) hHp
   generalize hR : rnG G p q n (fun _ => 1) = R at *
   have hR2 : (rmG G q n fun _ => 1).set p (.row [.sl q n 1 0 n none] 0) = R := hR
   rw [hR2]
   (repeat' ((conv => whnf); first | refine Then.mk ?_ | left | refine zd ?_ | (refine Both.mk ?_ ?_ <;> intro hc <;> try exact wX hc) | (intro c hc; (try (simp only [AH.zA] at hc; repeat (have hn := hc.1; replace hc := hc.2)))))) <;> (try (conv => whnf))
   have hna2 : ∀ k, k < i + 1 → putF P i p k ≠ a ∧ putF Q i q k ≠ a := fun k hk => by
    by_cases e : k = i
    ·subst e; rw [putF_at, putF_at]; exact ⟨Ne.symm hap, Ne.symm haq⟩
    ·rw [putF_ne _ _ e, putF_ne _ _ e]; exact hna k (by omega)
   refine ⟨(R.set a (.row (psL P i ++ [.ptr p 0 0]) (i + 1)), i + 1, putF P i p, putF Q i q), ⟨?_, ?_⟩, ?_, ⟨rfl, congrArg (AV.int .i64) ?_, trivial⟩, HLe.refl _⟩
   ·show i + 1 ≤ m
    omega
   ·refine ⟨?_, ?_, ?_, hna2, ?_⟩
    ·exact hm2.same fun k hk => ⟨AH.zR _ _ (hna2 k hk).1, AH.zR _ _ (hna2 k hk).2⟩
    ·dsimp only
     rw [AH.zC, ← psL_snoc]
    ·exact HLe.set_of _ _ hle2 ha
    ·intro k hk
     show H (putF P i p k) = none ∧ H (putF Q i q k) = none
     by_cases e : k = i
     ·subst e; rw [putF_at, putF_at]; exact ⟨hHp, hHq⟩
     ·rw [putF_ne _ _ e, putF_ne _ _ e]; exact hnew k (by have : k < i + 1 := hk; omega)
   ·show m - (i + 1) < m - i
    omega
   ·show (i : Int) + 1 = (i + 1 : Nat)
    omega
  ·have hie : i = m := by omega
   subst hie
   (repeat' ((conv => whnf); first | left | refine zd ?_ | (refine Both.mk ?_ ?_ <;> intro hc <;> try exact wX hc) | (intro c hc; (try (simp only [AH.zA] at hc; repeat (have hn := hc.1; replace hc := hc.2)))))) <;> (try (conv => whnf))
   refine Then.mk (AWq.in ?_)
   refine AWp_freeze1 (r := a) (v := i) (es := 1) (n := i) (lim := none) (cells := psL P i) 5 rfl rfl hrow (by simp) ?_
   refine AWp.of zU (dok _) rfl ?_
   (repeat' ((conv => whnf); first | refine Then.mk ?_ | left | refine zd ?_ | (refine Both.mk ?_ ?_ <;> intro hc <;> try exact wX hc) | (intro c hc; (try (simp only [AH.zA] at hc; repeat (have hn := hc.1; replace hc := hc.2)))))) <;> (try (conv => whnf))
   exact ⟨P, Q, rfl, hmods.same fun k hk => ⟨AH.del_ne _ (hna k hk).1, AH.del_ne _ (hna k hk).2⟩, HLe.del _ hle ha, hnew⟩
open Go.Fw Go
set_option maxRecDepth 8000 in
theorem rbegin_c (H : AH) : ACall Tryz.prog 93 [] H (fun y H' => ∃ w, y = .ptr w 0 0 ∧ H w = none ∧ H' = rcG H w cs0) := by
 refine zQ zU (dok _) Tryz.func93 rfl (by decide) rfl ?_
 (repeat' ((conv => whnf); first | left | refine zd ?_ | (refine Both.mk ?_ ?_ <;> intro hc <;> try exact wX hc) | (intro c hc; (try (simp only [AH.zA] at hc; repeat (have hn := hc.1; replace hc := hc.2)))))) <;> (try (conv => whnf))
 refine Then.mk ?_
 (repeat' ((conv => whnf); first | left | refine zd ?_ | (refine Both.mk ?_ ?_ <;> intro hc <;> try exact wX hc) | (intro c hc; (try (simp only [AH.zA] at hc; repeat (have hn := hc.1; replace hc := hc.2)))))) <;> (try (conv => whnf))
 refine Then.mk (AWq.in ?_)
 refine AWp_rowTo (p := c) (u := 0) (cells := [.bool false, .nils, .int .i64 4294967296, .int .i64 0]) (rcL cs0) (AH.zC _ _ _) ?_ ?_
 ·unfold rcL
  have e : dg cs0.V = [] := dg_zero
  rw [e]
  exact AVles.cons (AVle.refl _) (AVles.cons AVle.nils (AVles.refl _))
 ·rw [AH.zS]
  refine AWp.of zU (dok _) rfl ?_
  (repeat' ((conv => whnf); first | refine Then.mk ?_ | left | refine zd ?_ | (refine Both.mk ?_ ?_ <;> intro hc <;> try exact wX hc) | (intro c hc; (try (simp only [AH.zA] at hc; repeat (have hn := hc.1; replace hc := hc.2)))))) <;> (try (conv => whnf))
  rfl
structure RdC (H G : AH) (P Q : Nat → Nat) (w m n : Nat) (E : Es) : Prop where
 mods : Rms G P Q m n E.M
 wr : G w = some (.row (rcL E.σ) 0)
 dj : ∀ k, k < m → P k ≠ w ∧ Q k ≠ w
 le : HLe H G
 new : ∀ k, k < m → H (P k) = none ∧ H (Q k) = none
 hw : H w = none
theorem RdC.step {H G : AH} {P Q : Nat → Nat} {w m n : Nat} {E : Es} (h : RdC H G P Q w m n E) (σ : Cs) : RdC H (rcG G w σ) P Q w m n ⟨E.M, σ⟩ := by
 refine ⟨h.mods.same fun k hk => ?_, AH.zC _ _ _, h.dj, HLe.set_of _ _ h.le h.hw, h.new, h.hw⟩
 obtain ⟨a, b⟩ := h.dj k hk
 exact ⟨AH.zR _ _ a, AH.zR _ _ b⟩
def reG (G : AH) (Q : Nat → Nat) (w n : Nat) (E : Es) (k s : Nat) : AH := rmG (rcG G w (symE n E k s).σ) (Q k) n (seeM n (E.M k) s)
theorem RdC.sym {H G : AH} {P Q : Nat → Nat} {w m n : Nat} {E : Es} (h : RdC H G P Q w m n E) {k s : Nat} (hk : k < m) (hs : s < n) : RdC H (reG G Q w n E k s) P Q w m n (symE n E k s) := by
 have h1 := h.step (symE n E k s).σ
 obtain ⟨a, b⟩ := h.dj k hk
 exact ⟨h1.mods.set hk ((h.mods.md k hk).ok.see hs), (rmG_ne (Ne.symm b)).trans h1.wr, h.dj, HLe.set_of _ _ h1.le (h.new k hk).2, h.new, h.hw⟩
theorem RdC.symbol {H G : AH} {P Q : Nat → Nat} {w m n : Nat} {E : Es} (h : RdC H G P Q w m n E) (hc : CsOk E.σ) (hL : E.σ.L ≤ 20000000) {k s : Nat} (hk : k < m) (hs : s < n) :
  ACall Tryz.prog 96 [.ptr w 0 0, .ptr (P k) 0 0, .int .i64 s] G (fun y H' => y = .tup [] ∧ H' = reG G Q w n E k s) := by
 obtain ⟨a, b⟩ := h.dj k hk
 exact csym_c h.wr (h.mods.md k hk) a b hs hc hL
open Go.Fw Go
set_option maxRecDepth 8000 in
theorem rfold_c (x : Int) (hx : -9223372036854775808 ≤ x ∧ x ≤ 9223372036854775807) (H : AH) :
  ACall Tryz.prog 95 [.int .i64 x] H (fun y H' => y = nR false (fold x) ∧ H' = H) := by
 refine ACall.back ?_
 have o2 := fun H => ofN_c 2 (by decide) H
 have o1 := fun H => ofN_c 1 (by decide) H
 by_cases h0 : 0 ≤ x
 ·obtain ⟨X, rfl⟩ : ∃ X : Nat, x = (X : Int) := ⟨x.toNat, by omega⟩
  have oX := fun H => ofN_c X (by omega) H
  have hl : (dg X).length ≤ 5 := dg_len (k := 5) (Nat.lt_of_lt_of_le (show X < 9223372036854775808 by omega) (by decide))
  have ml := fun H => mulN_c X 2 (by omega) (by decide) (by decide) H
  have hf : fold (X : Int) = X * 2 := by unfold fold; rw [if_pos h0]; omega
  rw [hf]
  generalize X * 2 = Y at *
  unfold nR at *
  refine zQ zU (dok _) Tryz.func95 rfl (by decide) rfl ?_
  (repeat' ((conv => whnf); first | refine Then.mk ?_ | left | refine zg ?_ (o2 _) | refine zg ?_ (oX _) | refine zg ?_ (ml _) | refine zgg ?_ (o2 _) | refine zgg ?_ (oX _) | refine zgg ?_ (ml _) | refine zd ?_ | (refine Both.mk ?_ ?_ <;> intro hc <;> try exact wX hc) | (intro c hc; (try (simp only [AH.zA] at hc; repeat (have hn := hc.1; replace hc := hc.2)))) | (refine ACall.to (o2 _) ?_) | (refine ACall.to (oX _) ?_) | (refine ACall.to (ml _) ?_))) <;> (try (conv => whnf))
  (first | ((repeat' (first | (with_reducible exact HLe.refl _) | (with_reducible assumption) | apply HLe.push | refine HLe.set_of _ _ ?_ ?_ | refine HLe.del _ ?_ ?_ | rw [AH.zR _ _ (by (first | assumption | omega | exact Ne.symm (by assumption) | exact AH.ne_none (by assumption) (by assumption) | exact AH.none_ne (by assumption) (by assumption) | exact (AH.none_set (by assumption)).1 | exact Ne.symm (AH.none_set (by assumption)).1))])); done) | ((repeat' (first | refine HLe.set_of _ _ ?_ ?_ | refine HLe.del _ ?_ ?_)) <;> (first | assumption | exact HLe.refl _ | exact HLe.none (by assumption) (by assumption) | (simp_all; done))))
 ·obtain ⟨X, hX⟩ : ∃ X : Nat, x = -(X : Int) := ⟨(-x).toNat, by omega⟩
  have oX := fun H => of_c x hx H
  rw [show decide (x < 0) = true from by simp; omega, show ab x = X from by unfold ab; omega, nN_R, show (true && !decide (X = 0)) = true from by simp; omega] at oX
  have hl : (dg X).length ≤ 5 := dg_len (k := 5) (Nat.lt_of_lt_of_le (show X < 9223372036854775809 by omega) (by decide))
  have ml := fun H => mul_c true false X 2 (by omega) (by decide) (by decide) H
  have hl2 : (dg (X * 2)).length ≤ 6 := dg_len (k := 6) (Nat.lt_of_lt_of_le (show X * 2 < 18446744073709551618 by omega) (by decide))
  rw [nN_R, show ((true != false) && !decide (X * 2 = 0)) = true from by simp; omega] at ml
  have ng := fun H => neg_c true (X * 2) (by omega) H
  rw [show (!true) = false from rfl, nN_false] at ng
  have sb := fun H => sub_c false false (X * 2) 1 (by omega) (Nat.le_trans (dg_len (n := 1) (k := 1) (by decide)) (by decide)) H
  rw [if_neg (by decide), if_neg (by omega), nN_false] at sb
  have hf : fold x = X * 2 - 1 := by unfold fold; rw [if_neg h0]; omega
  rw [hf]
  generalize X * 2 - 1 = Z at *
  generalize X * 2 = Y at *
  unfold nR at *
  refine zQ zU (dok _) Tryz.func95 rfl (by decide) rfl ?_
  (repeat' ((conv => whnf); first | refine Then.mk ?_ | left | refine zg ?_ (o2 _) | refine zg ?_ (oX _) | refine zg ?_ (ml _) | refine zg ?_ (ng _) | refine zg ?_ (sb _) | refine zg ?_ (o1 _) | refine zgg ?_ (o2 _) | refine zgg ?_ (oX _) | refine zgg ?_ (ml _) | refine zgg ?_ (ng _) | refine zgg ?_ (sb _) | refine zgg ?_ (o1 _) | refine zd ?_ | (refine Both.mk ?_ ?_ <;> intro hc <;> try exact wX hc) | (intro c hc; (try (simp only [AH.zA] at hc; repeat (have hn := hc.1; replace hc := hc.2)))) | (refine ACall.to (o2 _) ?_) | (refine ACall.to (oX _) ?_) | (refine ACall.to (ml _) ?_) | (refine ACall.to (ng _) ?_) | (refine ACall.to (sb _) ?_) | (refine ACall.to (o1 _) ?_))) <;> (try (conv => whnf))
  (first | ((repeat' (first | (with_reducible exact HLe.refl _) | (with_reducible assumption) | apply HLe.push | refine HLe.set_of _ _ ?_ ?_ | refine HLe.del _ ?_ ?_ | rw [AH.zR _ _ (by (first | assumption | omega | exact Ne.symm (by assumption) | exact AH.ne_none (by assumption) (by assumption) | exact AH.none_ne (by assumption) (by assumption) | exact (AH.none_set (by assumption)).1 | exact Ne.symm (AH.none_set (by assumption)).1))])); done) | ((repeat' (first | refine HLe.set_of _ _ ?_ ?_ | refine HLe.del _ ?_ ?_)) <;> (first | assumption | exact HLe.refl _ | exact HLe.none (by assumption) (by assumption) | (simp_all; done))))
def le2 (u n : Nat) : List Nat := (List.range n).map fun i => u / 2 ^ i % 2
@[simp] theorem le2_len (u n : Nat) : (le2 u n).length = n := by simp [le2]
theorem le2_succ (u n : Nat) : le2 u (n + 1) = le2 u n ++ [u / 2 ^ n % 2] := by simp [le2, List.range_succ]
theorem le2_at {u n i : Nat} (h : i < n) : (le2 u n).getD i 0 = u / 2 ^ i % 2 := by
 unfold le2
 rw [List.getD_eq_getElem?_getD, List.getElem?_map, List.getElem?_range h]; rfl
def be2 (u n : Nat) : Nat → List Nat
 | 0 => []
 | k + 1 => be2 u n k ++ [u / 2 ^ (n - 1 - k) % 2]
theorem be2_len (u n : Nat) : ∀ k, (be2 u n k).length = k
 | 0 => rfl
 | k + 1 => by show (be2 u n k ++ [_]).length = _; simp [be2_len u n k]
theorem be2_at (u n : Nat) : ∀ {k i : Nat}, i < k → (be2 u n k).getD i 0 = u / 2 ^ (n - 1 - i) % 2
 | 0, _, h => by omega
 | k + 1, i, h => by
  show (be2 u n k ++ [_]).getD i 0 = _
  have hl := be2_len u n k
  by_cases e : i = k
  ·subst e
   rw [List.getD_eq_getElem?_getD, List.getElem?_append_right (by omega), hl]; simp
  ·rw [List.getD_eq_getElem?_getD, List.getElem?_append_left (by omega), ← List.getD_eq_getElem?_getD]
   exact be2_at u n (by omega)
theorem div_pow_pos {u i : Nat} (h : i < lenB u) : u / 2 ^ i ≠ 0 := by
 have hu : u ≠ 0 := fun e => by subst e; simp [lenB] at h
 have h1 := lenB_top hu
 have h2 : 2 ^ i ≤ 2 ^ (lenB u - 1) := Nat.pow_le_pow_right (by decide) (by omega)
 have : 0 < u / 2 ^ i := Nat.div_pos (by omega) (Nat.pow_pos (by decide))
 omega
set_option maxRecDepth 8000 in
set_option maxHeartbeats 4000000 in
theorem rdigits_c (u : Nat) (hu : u < 2 ^ 64) (H : AH) :
  ACall Tryz.prog 94 [nR false u] H (fun y H' => y = .cs (dA (be2 u (lenB u) (lenB u))) (lenB u) ∧ H' = H) := by
 refine ACall.back ?_
 have hN := lenB_le hu
 have hlt := lenB_lt u
 have hpos := fun i (h : i < lenB u) => div_pow_pos h
 have hd1 : (dg u).length ≤ 5 := dg_len (k := 5) (Nat.lt_of_lt_of_le hu (by decide))
 obtain ⟨N, hNe⟩ : ∃ N, N = lenB u := ⟨_, rfl⟩
 rw [← hNe] at hN hlt hpos ⊢
 have o2 := fun H => ofN_c 2 (by decide) H
 unfold nR
 refine zQ zU (dok _) Tryz.func94 rfl (by decide) rfl ?_
 (repeat' ((conv => whnf); first | left | refine zd ?_ | (refine Both.mk ?_ ?_ <;> intro hc <;> try exact wX hc) | (intro c hc; (try (simp only [AH.zA] at hc; repeat (have hn := hc.1; replace hc := hc.2)))))) <;> (try (conv => whnf))
 obtain ⟨r1, hr1⟩ : ∃ r, r = c := ⟨c, rfl⟩
 have h1 : H r1 = none := by rw [hr1]; assumption
 rw [← hr1]
 refine Then.mk ?_
 (repeat' ((conv => whnf); first | left | refine zd ?_ | (refine Both.mk ?_ ?_ <;> intro hc <;> try exact wX hc) | (intro c hc; (try (simp only [AH.zA] at hc; repeat (have hn := hc.1; replace hc := hc.2)))))) <;> (try (conv => whnf))
 refine Then.mk (AWq.in ?_)
 refine AWp_nilrow1 3 1 rfl rfl fun r3 hr3 => ?_
 obtain ⟨h31, h3⟩ := AH.none_set hr3
 refine AWp.of zU (dok _) rfl ?_
 (repeat' ((conv => whnf); first | left | refine zd ?_ | (refine Both.mk ?_ ?_ <;> intro hc <;> try exact wX hc) | (intro c hc; (try (simp only [AH.zA] at hc; repeat (have hn := hc.1; replace hc := hc.2)))))) <;> (try (conv => whnf))
 refine zT (σ := Nat) (3 :: 4 :: 5 :: 6 :: 7 :: 10 :: 11 :: 12 :: 13 :: 14 :: 15 :: 16 :: 17 :: 18 :: 19 :: 20 :: 21 :: 22 :: 23 :: 24 :: 25 :: 26 :: 27 :: 28 :: 29 :: []) (fun i => [(3, .sl r3 i 1 0 i none)]) (fun i => (AH.set H r1 (.row [.bool false, .cs (dA (dg (u / 2 ^ i))) (dg (u / 2 ^ i)).length] 0)).set r3 (.row (dA (le2 u i)) i)) (fun i => i ≤ N) (fun i => N - i) 0 rfl (Nat.zero_le _) ⟨rfl, trivial⟩ ?_ ?_
 ·refine HLe.of_eq ?_
  rw [Nat.pow_zero, Nat.div_one]
  rfl
 ·intro i hi
  dsimp only at hi ⊢
  refine AWp.of zU (dok _) rfl ?_
  have k3 : ((AH.set H r1 (.row [.bool false, .cs (dA (dg (u / 2 ^ i))) (dg (u / 2 ^ i)).length] 0)).set r3 (.row (dA (le2 u i)) i)) r3 = some (.row (dA (le2 u i)) i) := AH.zC _ _ _
  have k1 : ((AH.set H r1 (.row [.bool false, .cs (dA (dg (u / 2 ^ i))) (dg (u / 2 ^ i)).length] 0)).set r3 (.row (dA (le2 u i)) i)) r1 = some (.row [.bool false, .cs (dA (dg (u / 2 ^ i))) (dg (u / 2 ^ i)).length] 0) := by rw [AH.zR _ _ (Ne.symm h31), AH.zC]
  have hle : HLe H ((AH.set H r1 (.row [.bool false, .cs (dA (dg (u / 2 ^ i))) (dg (u / 2 ^ i)).length] 0)).set r3 (.row (dA (le2 u i)) i)) := HLe.set_of _ _ (HLe.set_of _ _ (HLe.refl _) h1) h3
  have hlen : (dA (le2 u i)).length = i := by simp
  by_cases hin : i < N
  ·have hset : ∀ X Y, ((((AH.set H r1 (.row [.bool false, .cs (dA (dg (u / 2 ^ i))) (dg (u / 2 ^ i)).length] 0)).set r3 (.row (dA (le2 u i)) i)).set r3 Y).set r1 X) = (AH.set H r1 X).set r3 Y := fun X Y => by
    rw [AH.zS, AH.set_back _ (Ne.symm h31)]
   generalize ((AH.set H r1 (.row [.bool false, .cs (dA (dg (u / 2 ^ i))) (dg (u / 2 ^ i)).length] 0)).set r3 (.row (dA (le2 u i)) i)) = B at *
   have hdl := dg_le (Nat.div_le_self u (2 ^ i))
   have dv := fun H => divN_c (u / 2 ^ i) 2 (by omega) (by decide) (by decide) H
   have hm := Nat.mod_lt (u / 2 ^ i) (show 0 < 2 by decide)
   have sm := fun H => smallI_c (u / 2 ^ i % 2) (by omega) H
   have hq : u / 2 ^ i / 2 = u / 2 ^ (i + 1) := by rw [Nat.pow_succ, Nat.div_div_eq_div_mul]
   have hx0 := hpos i hin
   have hdp : 0 < (dg (u / 2 ^ i)).length := by rw [dg_pos hx0, List.length_cons]; omega
   rw [hq] at dv
   have hls := le2_succ u i
   have hll := le2_len u i
   generalize u / 2 ^ i % 2 = m at *
   generalize hqq : u / 2 ^ (i + 1) = q at *
   generalize u / 2 ^ i = x at *
   generalize le2 u i = ls at *
   unfold nR at dv
   unfold nR at sm
   (repeat' ((conv => whnf); first | refine Then.mk ?_ | left | refine zs ?_ | (refine Both.mk ?_ ?_ <;> intro hc <;> try exact wX hc) | (intro c hc; (try (simp only [AH.zA] at hc; repeat (have hn := hc.1; replace hc := hc.2)))))) <;> (try (conv => whnf))
   refine AWq.in ?_
   refine AWp_spare fun a ha => ?_
   refine AWp_spare fun b hb => ?_
   obtain ⟨nm, k0, k1'⟩ : ∃ nm : Nat → Nat, nm 0 = a ∧ nm 1 = b := ⟨fun k => if k = 0 then a else b, rfl, rfl⟩
   subst k0 k1'
   obtain ⟨n10, hb⟩ := AH.none_set hb
   have n30 : nm 0 ≠ r3 := AH.ne_none' ha k3
   have n31 : nm 1 ≠ r3 := AH.ne_none' hb k3
   have n40 : nm 0 ≠ r1 := AH.ne_none' ha k1
   have n41 : nm 1 ≠ r1 := AH.ne_none' hb k1
   refine AWp.of zU (dok _) rfl ?_
   refine AWq.drawK mo [(4, 0), (5, 1)] nm ?_ (by decide +kernel) ?_
   ·intro a b ha hb hab
    simp at ha hb
    rcases ha with rfl | rfl <;> rcases hb with rfl | rfl <;> first | rfl | exact absurd hab n10 | exact absurd hab (Ne.symm n10)
   (repeat' ((conv => whnf); first | refine DrawK.consD ?_ | refine DrawK.nil ?_ | (apply And.intro; (focus (repeat (first | exact trivial | (refine And.intro (a := _ ≠ _) (b := offR _ _ _) ?_ ?_; (first | assumption | omega | exact Ne.symm (by assumption) | exact AH.ne_none (by assumption) (by assumption) | exact AH.none_ne (by assumption) (by assumption) | exact (AH.none_set (by assumption)).1 | exact Ne.symm (AH.none_set (by assumption)).1)))); done)) | (apply And.intro; exact o2 _) | (apply And.intro; exact dv _) | (apply And.intro; exact sm _) | refine Then.mk ?_ | left | refine zg ?_ (o2 _) | refine zg ?_ (dv _) | refine zg ?_ (sm _) | refine zgg ?_ (o2 _) | refine zgg ?_ (dv _) | refine zgg ?_ (sm _) | refine zd ?_ | (refine Both.mk ?_ ?_ <;> intro hc <;> try exact wX hc) | (intro c hc; (try (simp only [AH.zA] at hc; repeat (have hn := hc.1; replace hc := hc.2)))) | (refine ACall.to (o2 _) ?_) | (refine ACall.to (dv _) ?_) | (refine ACall.to (sm _) ?_))) <;> (try (conv => whnf))
   refine ⟨i + 1, hin, by omega, ⟨?_, trivial⟩, ?_⟩
   ·rfl
   ·dsimp only
    rw [hls, ← hset, hqq, ← dA_snoc]
    refine HLe.set (HLe.set ?_ _ _) _ _
    (first | ((repeat' (first | (with_reducible exact HLe.refl _) | (with_reducible assumption) | apply HLe.push | refine HLe.set_of _ _ ?_ ?_ | refine HLe.del _ ?_ ?_ | rw [AH.zR _ _ (by (first | assumption | omega | exact Ne.symm (by assumption) | exact AH.ne_none (by assumption) (by assumption) | exact AH.none_ne (by assumption) (by assumption) | exact (AH.none_set (by assumption)).1 | exact Ne.symm (AH.none_set (by assumption)).1))])); done) | ((repeat' (first | refine HLe.set_of _ _ ?_ ?_ | refine HLe.del _ ?_ ?_)) <;> (first | assumption | exact HLe.refl _ | exact HLe.none (by assumption) (by assumption) | (simp_all; done))))
  ·have hie : i = N := by omega
   have hx0 : u / 2 ^ i = 0 := Nat.div_eq_of_lt (by rw [hie]; exact hlt)
   have hdz : (dg (u / 2 ^ i)).length = 0 := by rw [hx0, dg_zero]; rfl
   have hcell : ∀ j, j < i → (dA (le2 u i))[(j : Int).toNat]? = some (.int .i64 (u / 2 ^ j % 2 : Nat)) := fun j hj => by
    rw [dA_gi (by rw [le2_len]; exact hj), le2_at hj]
   clear hx0
   generalize dA (dg (u / 2 ^ i)) = gg at *
   generalize (dg (u / 2 ^ i)).length = gl at *
   subst hdz
   generalize ((AH.set H r1 (.row [.bool false, .cs gg 0] 0)).set r3 (.row (dA (le2 u i)) i)) = B at *
   generalize dA (le2 u i) = cells at *
   subst hie
   (repeat' ((conv => whnf); first | left | refine zd ?_ | (refine Both.mk ?_ ?_ <;> intro hc <;> try exact wX hc) | (intro c hc; (try (simp only [AH.zA] at hc; repeat (have hn := hc.1; replace hc := hc.2)))))) <;> (try (conv => whnf))
   refine Then.mk ?_
   (repeat' ((conv => whnf); first | left | refine zd ?_ | (refine Both.mk ?_ ?_ <;> intro hc <;> try exact wX hc) | (intro c hc; (try (simp only [AH.zA] at hc; repeat (have hn := hc.1; replace hc := hc.2)))))) <;> (try (conv => whnf))
   refine Then.mk ?_
   (repeat' ((conv => whnf); first | left | refine zd ?_ | (refine Both.mk ?_ ?_ <;> intro hc <;> try exact wX hc) | (intro c hc; (try (simp only [AH.zA] at hc; repeat (have hn := hc.1; replace hc := hc.2)))))) <;> (try (conv => whnf))
   refine Then.mk (AWq.in ?_)
   refine AWp_nilrow1 8 1 rfl rfl fun r hr => ?_
   have hrH : H r = none := HLe.none hle hr
   have hr3 : r3 ≠ r := AH.ne_none hr k3
   refine AWp.of zU (dok _) rfl ?_
   (repeat' ((conv => whnf); first | left | refine zd ?_ | (refine Both.mk ?_ ?_ <;> intro hc <;> try exact wX hc) | (intro c hc; (try (simp only [AH.zA] at hc; repeat (have hn := hc.1; replace hc := hc.2)))))) <;> (try (conv => whnf))
   refine Then.mk ?_
   (repeat' ((conv => whnf); first | left | refine zd ?_ | (refine Both.mk ?_ ?_ <;> intro hc <;> try exact wX hc) | (intro c hc; (try (simp only [AH.zA] at hc; repeat (have hn := hc.1; replace hc := hc.2)))))) <;> (try (conv => whnf))
   refine zT (σ := Nat) (8 :: 9 :: 33 :: 34 :: 35 :: 36 :: 37 :: 38 :: 39 :: 40 :: 41 :: 42 :: 43 :: []) (fun k => [(8, .sl r k 1 0 k none), (9, .int .i64 ((i : Int) - 1 - k))]) (fun k => B.set r (.row (dA (be2 u i k)) k)) (fun k => k ≤ i) (fun k => i - k) 0 rfl (Nat.zero_le _) ⟨rfl, congrArg (AV.int .i64) (by omega), trivial⟩ (HLe.refl _) ?_
   intro k hk
   dsimp only at hk ⊢
   refine AWp.of zU (dok _) rfl ?_
   have kr : (B.set r (.row (dA (be2 u i k)) k)) r = some (.row (dA (be2 u i k)) k) := AH.zC _ _ _
   have k3' : (B.set r (.row (dA (be2 u i k)) k)) r3 = some (.row cells i) := by rw [AH.zR _ _ hr3]; exact k3
   have hbl := be2_len u i k
   have hul : (dA (be2 u i k)).length = k * 1 := by simp [hbl]
   by_cases hki : k < i
   ·have hcl := hcell (i - 1 - k) (by omega)
    rw [show ((i - 1 - k : Nat) : Int) = (i : Int) - 1 - k by omega] at hcl
    have hsn : dA (be2 u i k) ++ [.int .i64 (u / 2 ^ (i - 1 - k) % 2 : Nat)] = dA (be2 u i (k + 1)) := dA_snoc _ _
    generalize u / 2 ^ (i - 1 - k) % 2 = z at *
    have hfin : ∀ o, (B.set r (.row (dA (be2 u i k)) k)).set r o = B.set r o := fun o => AH.zS _ _ _ _
    generalize (B.set r (.row (dA (be2 u i k)) k)) = C at *
    (repeat' ((conv => whnf); first | refine Then.mk ?_ | left | refine zd ?_ | (refine Both.mk ?_ ?_ <;> intro hc <;> try exact wX hc) | (intro c hc; (try (simp only [AH.zA] at hc; repeat (have hn := hc.1; replace hc := hc.2)))))) <;> (try (conv => whnf))
    refine ⟨k + 1, hki, by omega, ⟨rfl, congrArg (AV.int .i64) (by omega), trivial⟩, HLe.of_eq ?_⟩
    rw [hfin, ← hsn]
   ·have hke : k = i := by omega
    subst hke
    (repeat' ((conv => whnf); first | left | refine zd ?_ | (refine Both.mk ?_ ?_ <;> intro hc <;> try exact wX hc) | (intro c hc; (try (simp only [AH.zA] at hc; repeat (have hn := hc.1; replace hc := hc.2)))))) <;> (try (conv => whnf))
    refine Then.mk (AWq.in ?_)
    refine AWp_freeze1 (r := r) (v := k) (es := 1) (n := k) (lim := none) (cells := dA (be2 u k k)) 8 rfl rfl kr hul ?_
    refine AWp.of zU (dok _) rfl ?_
    rw [AH.del_set _ _ _ hr]
    (repeat' ((conv => whnf); first | refine Then.mk ?_ | left | refine zd ?_ | (refine Both.mk ?_ ?_ <;> intro hc <;> try exact wX hc) | (intro c hc; (try (simp only [AH.zA] at hc; repeat (have hn := hc.1; replace hc := hc.2)))))) <;> (try (conv => whnf))
    exact hle
open Go.Fw Go
set_option maxRecDepth 8000 in
set_option maxHeartbeats 4000000 in
theorem rcInts_c (l : List Int) (hl : I64L l) (hlim : l.length ≤ 65536) (H : AH) :
  ACall Tryz.prog 69 [.cs (iS .i64 l) l.length] H (fun y H' => y = .cs (u8s (codeS (intsI (l.map fold) is0).E.σ)) (codeS (intsI (l.map fold) is0).E.σ).length ∧ H' = H) := by
 refine ACall.fin ?_
 have hsl : (iS .i64 l).length = l.length * 1 := by simp
 refine zQ zU (dok _) Tryz.func69 rfl (by decide) rfl ?_
 (repeat' ((conv => whnf); first | refine Then.mk ?_ | left | refine zd ?_ | (refine Both.mk ?_ ?_ <;> intro hc <;> try exact wX hc) | (intro c hc; (try (simp only [AH.zA] at hc; repeat (have hn := hc.1; replace hc := hc.2)))))) <;> (try (conv => whnf))
 refine (rmodels_c 65 65 (by omega) (by omega) _).mono ?_
 rintro y H' ⟨P, Q, rfl, hmods, hle, hnew⟩
 have hpl : (psL P 65).length = 65 := psL_len _ _
 (repeat' ((conv => whnf); first | refine Then.mk ?_ | left | refine zd ?_ | (refine Both.mk ?_ ?_ <;> intro hc <;> try exact wX hc) | (intro c hc; (try (simp only [AH.zA] at hc; repeat (have hn := hc.1; replace hc := hc.2)))))) <;> (try (conv => whnf))
 refine (rbegin_c _).mono ?_
 rintro y G ⟨w, rfl, hw, rfl⟩
 have hcd : RdC H (rcG H' w cs0) P Q w 65 65 es0 := by
  have hd : ∀ k, k < 65 → P k ≠ w ∧ Q k ≠ w := fun k hk => hmods.fresh hw hk
  exact ⟨hmods.same fun k hk => ⟨AH.zR _ _ (hd k hk).1, AH.zR _ _ (hd k hk).2⟩, AH.zC _ _ _, hd, HLe.set_of _ _ hle (HLe.none hle hw), hnew, HLe.none hle hw⟩
 generalize rcG H' w cs0 = G0 at hcd ⊢
 (repeat' ((conv => whnf); first | refine Then.mk ?_ | left | refine zd ?_ | (refine Both.mk ?_ ?_ <;> intro hc <;> try exact wX hc) | (intro c hc; (try (simp only [AH.zA] at hc; repeat (have hn := hc.1; replace hc := hc.2)))))) <;> (try (conv => whnf))
 refine zT (σ := AH × Nat × Is) (5 :: 6 :: 7 :: 8 :: 11 :: 12 :: 13 :: 14 :: 15 :: 16 :: 17 :: 18 :: 19 :: 20 :: 21 :: 22 :: 23 :: 24 :: 25 :: 26 :: 27 :: 28 :: 29 :: 30 :: 31 :: 32 :: 33 :: 34 :: 35 :: 36 :: 37 :: 38 :: 39 :: 40 :: 41 :: 42 :: 43 :: 44 :: []) (fun (G, i, I) => [(5, .int .i64 I.b), (6, .int .i64 i)]) (fun (G, i, I) => G) (fun (G, i, I) => i ≤ l.length ∧ intsI ((l.take i).map fold) is0 = I ∧ RdC H G P Q w 65 65 I.E) (fun (G, i, I) => l.length - i) (G0, 0, is0) rfl ?_ ?_ (HLe.refl _) ?_
 ·exact ⟨Nat.zero_le _, rfl, hcd⟩
 ·exact ⟨rfl, rfl, trivial⟩
 ·rintro ⟨G, i, I⟩ ⟨hi, hI, hcd⟩
  dsimp only at hi hI hcd ⊢
  refine AWp.of zU (dok _) rfl ?_
  have hok : IsOk I := by rw [← hI]; exact intsI_ok (fold_all (hl.take i)) is0_ok
  have hL : I.E.σ.L ≤ 130 * 65536 := by
   have := intsI_L ((l.take i).map fold) (I := is0) (fold_all (hl.take i)) is0_ok
   rw [hI] at this
   have h0 : is0.E.σ.L = 0 := rfl
   rw [h0, List.length_map, List.length_take] at this
   omega
  have hb := hok.b
  by_cases hil : i < l.length
  ·have hga : (iS .i64 l)[(i : Int).toNat]? = some (.int .i64 (l.getD i 0)) := iS_get hil
   have ha := hl.at i
   have hn : intsI ((l.take (i + 1)).map fold) is0 = intI I (fold (l.getD i 0)) := by
    rw [List.take_add_one, List.getElem?_eq_getElem hil, List.map_append]
    have : l.getD i 0 = l[i] := by rw [List.getD_eq_getElem?_getD, List.getElem?_eq_getElem hil]; rfl
    rw [this]
    show intsI (_ ++ [fold l[i]]) is0 = _
    rw [intsI_snoc, hI]
   generalize l.getD i 0 = a at *
   have hfold := fun H => rfold_c a ha H
   have hu := fold_lt ha
   generalize fold a = u at *
   have hdg := fun H => rdigits_c u hu H
   have hlb := lenB_le hu
   have hsm := hcd.symbol hok.es.cs (by omega) (k := I.b) (s := lenB u) (by omega) (by omega)
   have hcd2 := hcd.sym (k := I.b) (s := lenB u) (by omega) (by omega)
   have hok2 := hok.es.sym I.b (s := lenB u) (by omega)
   have hL2 : (symE 65 I.E I.b (lenB u)).σ.L ≤ I.E.σ.L + 2 := stp_L hok.es.cs (hok.es.st I.b (s := lenB u) (by omega))
   have hgp : (psL P 65)[(I.b : Int).toNat]? = some (.ptr (P I.b) 0 0) := psL_get (by omega)
   have hfin : intI I u = ⟨⟨(symE 65 I.E I.b (lenB u)).M, bitsE u (lenB u - 1) (symE 65 I.E I.b (lenB u)).σ⟩, lenB u⟩ := rfl
   generalize symE 65 I.E I.b (lenB u) = E2 at *
   obtain ⟨C, hC⟩ : ∃ C, C = lenB u := ⟨_, rfl⟩
   rw [← hC] at hlb hfin hdg hsm hcd2
   have hcell : ∀ j, j < C → (dA (be2 u C C))[(j : Int).toNat]? = some (.int .i64 (u / 2 ^ (C - 1 - j) % 2 : Nat)) := fun j hj => by
    rw [dA_gi (by rw [be2_len]; exact hj), be2_at _ _ hj]
   have hdl : (dA (be2 u C C)).length = C := by simp [be2_len]
   unfold nR at hfold hdg
   generalize dA (be2 u C C) = ds at *
   generalize dA (dg u) = ud at *
   generalize (dg u).length = ul at *
   (repeat' ((conv => whnf); first | refine Then.mk ?_ | left | refine zg ?_ (hfold _) | refine zg ?_ (hdg _) | refine zg ?_ (hsm) | refine zgg ?_ (hfold _) | refine zgg ?_ (hdg _) | refine zgg ?_ (hsm) | refine zd ?_ | (refine Both.mk ?_ ?_ <;> intro hc <;> try exact wX hc) | (intro c hc; (try (simp only [AH.zA] at hc; repeat (have hn := hc.1; replace hc := hc.2)))) | (refine ACall.to (hfold _) ?_) | (refine ACall.to (hdg _) ?_) | (refine ACall.to (hsm) ?_))) <;> (try (conv => whnf))
   generalize reG G Q w 65 I.E I.b C = G1 at hcd2 ⊢
   refine zT (σ := AH × Nat × Cs) (8 :: 31 :: 32 :: 33 :: 34 :: 35 :: 36 :: 37 :: 38 :: 39 :: 40 :: 41 :: 42 :: []) (fun (G, j, τ) => [(8, .int .i64 j)]) (fun (G, j, τ) => G) (fun (G, j, τ) => 1 ≤ j ∧ bitsE u (C - j) τ = bitsE u (C - 1) E2.σ ∧ CsOk τ ∧ τ.L + 2 * (C - j) ≤ 20000000 ∧ RdC H G P Q w 65 65 ⟨E2.M, τ⟩) (fun (G, j, τ) => C - j) (G1, 1, E2.σ) rfl ?_ ?_ (HLe.refl _) ?_
   ·exact ⟨Nat.le_refl _, rfl, hok2.cs, by omega, hcd2⟩
   ·exact ⟨rfl, trivial⟩
   ·rintro ⟨G2, j, τ⟩ ⟨k1, k2, k3, k4, k6⟩
    dsimp only at k1 k2 k3 k4 k6 ⊢
    refine AWp.of zU (dok _) rfl ?_
    by_cases hk : j < C
    ·obtain ⟨k, hkk⟩ : ∃ k, C - j = k + 1 := ⟨C - j - 1, by omega⟩
     have hcl := hcell j hk
     rw [show C - 1 - j = k by omega] at hcl
     have hst := cstep_c k6.wr k3 (bit_st u k) (show τ.L ≤ _ by omega)
     have k6' := k6.step (bitE τ u k)
     have hok3 := bitE_ok k3 u k
     have hL3 : (bitE τ u k).L ≤ τ.L + 2 := stp_L k3 (bit_st u k)
     have hb2 : bitsE u (k + 1) τ = bitsE u k (bitE τ u k) := rfl
     have hst : ACall Tryz.prog 97 [.ptr w 0 0, .int .i64 (u / 2 ^ k % 2 : Nat), .int .i64 1, .int .i64 2] G2 (fun y H' => y = .tup [] ∧ H' = rcG G2 w (bitE τ u k)) := hst
     rw [hkk, hb2] at k2
     generalize bitE τ u k = τ2 at *
     have hx2 : u / 2 ^ k % 2 < 2 := Nat.mod_lt _ (by decide)
     generalize u / 2 ^ k % 2 = y at *
     (repeat' ((conv => whnf); first | refine Then.mk ?_ | left | refine zg ?_ (hst) | refine zgg ?_ (hst) | refine zd ?_ | (refine Both.mk ?_ ?_ <;> intro hc <;> try exact wX hc) | (intro c hc; (try (simp only [AH.zA] at hc; repeat (have hn := hc.1; replace hc := hc.2)))) | (refine ACall.to (hst) ?_))) <;> (try (conv => whnf))
     exact ⟨(_, j + 1, τ2), ⟨Nat.succ_le_succ (Nat.zero_le j), by rw [show C - (j + 1) = k by omega]; exact k2, hok3, by dsimp only; rw [show C - (j + 1) = k by omega]; omega, k6'⟩, by show C - (j + 1) < C - j; omega, ⟨congrArg (AV.int .i64) (by show (j : Int) + 1 = (j + 1 : Nat); omega), trivial⟩, HLe.refl _⟩
    ·have he2 : intI I u = ⟨⟨E2.M, τ⟩, C⟩ := by
      rw [hfin, ← k2, show C - j = 0 by omega]; rfl
     rw [he2] at hn
     (repeat' ((conv => whnf); first | refine Then.mk ?_ | left | refine zd ?_ | (refine Both.mk ?_ ?_ <;> intro hc <;> try exact wX hc) | (intro c hc; (try (simp only [AH.zA] at hc; repeat (have hn := hc.1; replace hc := hc.2)))))) <;> (try (conv => whnf))
     exact ⟨(G2, i + 1, ⟨⟨E2.M, τ⟩, C⟩), ⟨hil, hn, k6⟩, by show l.length - (i + 1) < l.length - i; omega, ⟨rfl, congrArg (AV.int .i64) (by show (i : Int) + 1 = (i + 1 : Nat); omega), trivial⟩, HLe.refl _⟩
  ·have hie : i = l.length := by omega
   have hcode := ccode_c hcd.wr hok.es.cs (by omega)
   rw [hie, List.take_length] at hI
   rw [hI]
   (repeat' ((conv => whnf); first | refine Then.mk ?_ | left | refine zg ?_ (hcode) | refine zgg ?_ (hcode) | refine zd ?_ | (refine Both.mk ?_ ?_ <;> intro hc <;> try exact wX hc) | (intro c hc; (try (simp only [AH.zA] at hc; repeat (have hn := hc.1; replace hc := hc.2)))) | (refine ACall.to (hcode) ?_))) <;> (try (conv => whnf))
   exact ⟨AVle.refl _, hcd.le⟩
open Go.Fw Go
set_option maxRecDepth 8000 in
theorem ezig_c (n : Int) (h1 : -9223372036854775808 ≤ n) (h2 : n ≤ 9223372036854775807) (H : AH) : ACall Tryz.prog 75 [.int .i64 n] H (fun y H' => y = .int .u64 (zz n) ∧ H' = H) := by
 refine zQ zU (dok _) Tryz.func75 rfl (by decide) rfl ?_
 (repeat' ((conv => whnf); first | refine Then.mk ?_ | left | refine zd ?_ | (refine Both.mk ?_ ?_ <;> intro hc <;> try exact wX hc) | (intro c hc; (try (simp only [AH.zA] at hc; repeat (have hn := hc.1; replace hc := hc.2)))))) <;> (try (conv => whnf))
 ·exact ⟨congrArg (AV.int .u64) (by unfold zz; rw [if_pos (by omega)]; omega), rfl⟩
 ·exact ⟨congrArg (AV.int .u64) (by unfold zz; rw [if_neg (by omega)]; omega), rfl⟩
set_option maxRecDepth 8000 in
theorem eUint_s (n : Nat) (hn : n < 2 ^ 64) (H : AH) :
  ACall Tryz.prog 74 [.int .u64 n] H (fun y H' => ∃ r, H r = none ∧ ∃ v, y = .sl r v 1 0 (encN n).length none ∧ H' = H.set r (.row (u8s (encN n)) v)) := by
 refine zQ zU (dok _) Tryz.func74 rfl (by decide) rfl ?_
 (repeat' ((conv => whnf); first | refine Then.mk ?_ | left | refine zd ?_ | (refine Both.mk ?_ ?_ <;> intro hc <;> try exact wX hc) | (intro c hc; (try (simp only [AH.zA] at hc; repeat (have hn := hc.1; replace hc := hc.2)))))) <;> (try (conv => whnf))
 refine AWp_nilrow1 3 1 rfl rfl fun r hr => ?_
 have hl10 := encN_len10 hn
 have hq : ∀ m : Nat, m < 2 ^ 64 → IntKind.u64.wrap ((m : Int).tdiv 128) = ((m / 128 : Nat) : Int) := fun m hm => by
  rw [Int.tdiv_eq_ediv_of_nonneg (by omega), wrap_u64']; omega
 have hb : ∀ m : Nat, IntKind.u8.wrap (IntKind.u64.wrap (128 + (m : Int).tmod 128)) = ((UInt8.ofNat (m % 128 + 128)).toNat : Int) := fun m => by
  rw [u8_ofNat (by omega), Int.tmod_eq_emod_of_nonneg (by omega)]
  show (_ % 18446744073709551616) % 256 = _
  omega
 refine zT (σ := Nat × List UInt8 × Nat) (0 :: 3 :: 4 :: 5 :: 6 :: 7 :: 8 :: 9 :: 10 :: 11 :: 12 :: 13 :: 14 :: []) (fun (m, pre, u) => [(0, .int .u64 m), (3, .sl r u 1 0 pre.length none)]) (fun (m, pre, u) => H.set r (.row (u8s pre) u)) (fun (m, pre, u) => m < 2 ^ 64 ∧ encN n = pre ++ encN m) (fun (m, pre, u) => m) (n, [], 0) rfl ?_ ?_ ?_ ?_
 ·exact ⟨hn, rfl⟩
 ·exact ⟨rfl, rfl, trivial⟩
 ·exact HLe.refl _
 ·rintro ⟨m, pre, u⟩ ⟨hm, he⟩
  refine AWp.of zU (dok _) rfl ?_
  have hpl : pre.length ≤ 9 := by
   have := congrArg List.length he
   have := encN_pos m
   rw [List.length_append] at *; omega
  have hqm := hq m hm
  have hbm := hb m
  clear hq hb
  (repeat' ((conv => whnf); first | refine Then.mk ?_ | left | refine zd ?_ | (refine Both.mk ?_ ?_ <;> intro hc <;> try exact wX hc) | (intro c hc; (try (simp only [AH.zA] at hc; repeat (have hn := hc.1; replace hc := hc.2)))))) <;> (try (conv => whnf))
  ·refine ⟨(m / 128, pre ++ [UInt8.ofNat (m % 128 + 128)], u + 1), ⟨by omega, by rw [he, encN_ge (by omega)]; simp⟩, by show m / 128 < m; omega, ⟨by first | rfl | exact congrArg (AV.int .u64) hqm, by rw [List.length_append]; rfl, trivial⟩, ?_⟩
   show HLe (H.set r (.row (u8s (pre ++ [UInt8.ofNat (m % 128 + 128)])) (u + 1))) _
   rw [← u8s_append]
   show HLe (H.set r (.row (u8s pre ++ [.int .u8 ((UInt8.ofNat (m % 128 + 128)).toNat : Int)]) (u + 1))) _
   rw [← hbm]
   exact HLe.twice _ _ _ _
  ·have e : (m : Int) = ((UInt8.ofNat m).toNat : Int) := by rw [u8_ofNat (by omega)]
   rw [he, encN_lt (by omega)]
   refine ⟨u + 1, by rw [List.length_append]; rfl, ?_⟩
   rw [← u8s_append]
   refine (AH.zS H r _ _).trans ?_
   rw [e]
   rfl
theorem eUint_k (n : Nat) (hn : n < 2 ^ 64) (H : AH) : ACall Tryz.prog 74 [.int .u64 n] H (fun y H' => y = .cs (u8s (encN n)) (encN n).length ∧ H' = H) :=
 ACall.cold (es := 1) (by simp) (eUint_s n hn H)
set_option maxRecDepth 8000 in
theorem eInt_k (n : Int) (hn : I64 n) (H : AH) : ACall Tryz.prog 36 [.int .i64 n] H (fun y H' => y = .cs (u8s (encI n)) (encI n).length ∧ H' = H) := by
 refine zQ zU (dok _) Tryz.func36 rfl (by decide) rfl ?_
 (repeat' ((conv => whnf); first | refine Then.mk ?_ | left | refine zg ?_ (ezig_c n hn.1 hn.2 _) | refine zg ?_ (eUint_k (zz n) (zz_lt hn.1 hn.2) _) | refine zgg ?_ (ezig_c n hn.1 hn.2 _) | refine zgg ?_ (eUint_k (zz n) (zz_lt hn.1 hn.2) _) | refine zd ?_ | (refine Both.mk ?_ ?_ <;> intro hc <;> try exact wX hc) | (intro c hc; (try (simp only [AH.zA] at hc; repeat (have hn := hc.1; replace hc := hc.2)))) | (refine ACall.to (ezig_c n hn.1 hn.2 _) ?_) | (refine ACall.to (eUint_k (zz n) (zz_lt hn.1 hn.2) _) ?_))) <;> (try (conv => whnf))
set_option maxRecDepth 8000 in
theorem eRaw_k (b : List UInt8) (hb : b.length ≤ 100000) (H : AH) : ACall Tryz.prog 37 [.cs (u8s b) b.length] H (fun y H' => y = .cs (u8s (encR b)) (encR b).length ∧ H' = H) := by
 refine ACall.cold (es := 1) (by simp) ?_
 have hl10 := encN_len10 (n := b.length) (by omega)
 refine zQ zU (dok _) Tryz.func37 rfl (by decide) rfl ?_
 (repeat' ((conv => whnf); first | refine Then.mk ?_ | left | refine zd ?_ | (refine Both.mk ?_ ?_ <;> intro hc <;> try exact wX hc) | (intro c hc; (try (simp only [AH.zA] at hc; repeat (have hn := hc.1; replace hc := hc.2)))))) <;> (try (conv => whnf))
 refine (eUint_s b.length (by omega) _).mono ?_
 rintro y H' ⟨r, hr, v, rfl, rfl⟩
 (repeat' ((conv => whnf); first | refine Then.mk ?_ | refine zd ?_ | (refine Both.mk ?_ ?_ <;> intro hc <;> try exact wX hc) | (intro c hc; (try (simp only [AH.zA] at hc; repeat (have hn := hc.1; replace hc := hc.2)))))) <;> (try (conv => whnf))
 refine ⟨v + 1, ?_, ?_⟩
 ·unfold encR; rw [List.length_append]
 ·unfold encR
  rw [← u8s_append]
  exact AH.zS H r _ _
open Go.Fw Go
def lev (m : Nat) : Nat := if m < 1 then 0 else if m < 2 then 1 else if m < 4 then 2 else if m < 8 then 3 else if m < 16 then 4 else 5
def blk (r c : Nat) : Nat := if lev (max r c) = 0 then 0 else if r < 2 ^ (lev (max r c) - 1) then 3 * lev (max r c) - 2 else if c < 2 ^ (lev (max r c) - 1) then 3 * lev (max r c) - 1 else 3 * lev (max r c)
open Go.Fw Go
theorem lev_iff {j m : Nat} (hm : m < 16) (hj : j ≤ 4) : 2 ^ j ≤ m ↔ j < lev m := by
 unfold lev
 rcases (show j = 0 ∨ j = 1 ∨ j = 2 ∨ j = 3 ∨ j = 4 by omega) with rfl | rfl | rfl | rfl | rfl <;> simp <;> (repeat' split) <;> omega
theorem lev_4 {m : Nat} (hm : m < 16) : lev m ≤ 4 := by
 unfold lev; (repeat' split) <;> omega
set_option maxRecDepth 8000 in
theorem Block_c (r c : Nat) (hr : r < 16) (hc : c < 16) (H : AH) : ACall Tryz.prog 101 [.int .i64 r, .int .i64 c] H (fun y H' => y = .int .i64 (blk r c) ∧ H' = H) := by
 obtain ⟨m, hm⟩ : ∃ m, m = max r c := ⟨_, rfl⟩
 have hm16 : m < 16 := by omega
 have hl4 := lev_4 hm16
 have hif := fun j hj => lev_iff (j := j) hm16 hj
 obtain ⟨b, hb⟩ : ∃ b, b = blk r c := ⟨_, rfl⟩
 rw [← hb]
 unfold blk at hb
 rw [← hm] at hb
 obtain ⟨l, hl⟩ : ∃ l, l = lev m := ⟨_, rfl⟩
 rw [← hl] at hb hl4 hif
 refine zQ zU (dok _) Tryz.func101 rfl (by decide) rfl ?_
 (repeat' ((conv => whnf); first | refine Then.mk ?_ | left | refine zd ?_ | (refine Both.mk ?_ ?_ <;> intro hc <;> try exact wX hc) | (intro c hc; (try (simp only [AH.zA] at hc; repeat (have hn := hc.1; replace hc := hc.2)))))) <;> (try (conv => whnf))
 refine zT (σ := Nat) (5 :: 6 :: 8 :: 9 :: 10 :: 11 :: 12 :: 13 :: 14 :: 15 :: 16 :: 17 :: 18 :: 19 :: []) (fun j => [(6, .int .i64 (2 ^ j : Nat)), (5, .int .i64 (3 * j : Nat))]) (fun _ => H) (fun j => j ≤ l) (fun j => l - j) 0 rfl ?_ ?_ ?_ ?_
 ·exact Nat.zero_le _
 ·exact ⟨rfl, rfl, trivial⟩
 ·exact HLe.refl _
 ·rintro j hj
  refine AWp.of zU (dok _) rfl ?_
  have hjj := hif j (by omega)
  have hpj : 2 ^ j ≤ 2 ^ 4 := Nat.pow_le_pow_right (by omega) (by omega)
  have hps : ((2 ^ (j + 1) : Nat) : Int) = ((2 ^ j : Nat) : Int) * 2 := by rw [Nat.pow_succ, Int.natCast_mul]; rfl
  by_cases hjl : j < l
  ·have hle := hjj.2 hjl
   generalize 2 ^ j = P at *
   have hor : (P : Int) ≤ r ∨ (P : Int) ≤ c := by omega
   (repeat' ((conv => whnf); first | refine Then.mk ?_ | left | refine zd ?_ | (refine Both.mk ?_ ?_ <;> intro hc <;> try exact wX hc) | (intro c hc; (try (simp only [AH.zA] at hc; repeat (have hn := hc.1; replace hc := hc.2)))))) <;> (try (conv => whnf))
   all_goals exact ⟨j + 1, by omega, by omega, ⟨congrArg (AV.int .i64) hps.symm, congrArg (AV.int .i64) (by omega), trivial⟩, HLe.refl _⟩
  ·have hje : j = l := by omega
   have hn : ¬ 2 ^ j ≤ m := fun h => hjl (hjj.1 h)
   have hn1 : ¬ ((2 ^ j : Nat) : Int) ≤ r := by omega
   have hn2 : ¬ ((2 ^ j : Nat) : Int) ≤ c := by omega
   subst hje
   by_cases hl0 : j = 0
   ·subst hl0
    rw [if_pos rfl] at hb
    (repeat' ((conv => whnf); first | refine Then.mk ?_ | left | refine zd ?_ | (refine Both.mk ?_ ?_ <;> intro hc <;> try exact wX hc) | (intro c hc; (try (simp only [AH.zA] at hc; repeat (have hn := hc.1; replace hc := hc.2)))))) <;> (try (conv => whnf))
   ·rw [if_neg hl0] at hb
    (repeat' ((conv => whnf); first | refine Then.mk ?_ | left | refine zd ?_ | (refine Both.mk ?_ ?_ <;> intro hc <;> try exact wX hc) | (intro c hc; (try (simp only [AH.zA] at hc; repeat (have hn := hc.1; replace hc := hc.2)))))) <;> (try (conv => whnf))
    refine zT (σ := Nat) (7 :: 22 :: 23 :: 24 :: 25 :: 26 :: 27 :: 28 :: 29 :: 30 :: 31 :: 32 :: 33 :: []) (fun i => [(7, .int .i64 (2 ^ i : Nat))]) (fun _ => H) (fun i => i ≤ j - 1) (fun i => j - i) 0 rfl ?_ ?_ ?_ ?_
    ·exact Nat.zero_le _
    ·exact ⟨rfl, trivial⟩
    ·exact HLe.refl _
    ·rintro i hi
     refine AWp.of zU (dok _) rfl ?_
     have hii := hif (i + 1) (by omega)
     have hpi : 2 ^ i ≤ 2 ^ 4 := Nat.pow_le_pow_right (by omega) (by omega)
     have hps : ((2 ^ (i + 1) : Nat) : Int) = ((2 ^ i : Nat) : Int) * 2 := by rw [Nat.pow_succ, Int.natCast_mul]; rfl
     by_cases hil : i + 1 < j
     ·have hle := hii.2 hil
      rw [pow_half] at hle
      generalize 2 ^ i = Q at *
      have hor : 2 * (Q : Int) ≤ r ∨ 2 * (Q : Int) ≤ c := by omega
      (repeat' ((conv => whnf); first | refine Then.mk ?_ | left | refine zd ?_ | (refine Both.mk ?_ ?_ <;> intro hc <;> try exact wX hc) | (intro c hc; (try (simp only [AH.zA] at hc; repeat (have hn := hc.1; replace hc := hc.2)))))) <;> (try (conv => whnf))
      all_goals exact ⟨i + 1, by omega, by omega, ⟨congrArg (AV.int .i64) hps.symm, trivial⟩, HLe.refl _⟩
     ·have hie : i = j - 1 := by omega
      have hn3 : ¬ 2 ^ (i + 1) ≤ m := fun h => hil (hii.1 h)
      rw [pow_half] at hn3
      rw [← hie] at hb
      generalize 2 ^ i = Q at *
      have hn4 : ¬ 2 * (Q : Int) ≤ r := by omega
      have hn5 : ¬ 2 * (Q : Int) ≤ c := by omega
      by_cases c1 : r < Q
      ·rw [if_pos c1] at hb
       (repeat' ((conv => whnf); first | refine Then.mk ?_ | left | refine zd ?_ | (refine Both.mk ?_ ?_ <;> intro hc <;> try exact wX hc) | (intro c hc; (try (simp only [AH.zA] at hc; repeat (have hn := hc.1; replace hc := hc.2)))))) <;> (try (conv => whnf))
      ·rw [if_neg c1] at hb
       by_cases c2 : c < Q
       ·rw [if_pos c2] at hb
        (repeat' ((conv => whnf); first | refine Then.mk ?_ | left | refine zd ?_ | (refine Both.mk ?_ ?_ <;> intro hc <;> try exact wX hc) | (intro c hc; (try (simp only [AH.zA] at hc; repeat (have hn := hc.1; replace hc := hc.2)))))) <;> (try (conv => whnf))
       ·rw [if_neg c2] at hb
        (repeat' ((conv => whnf); first | refine Then.mk ?_ | left | refine zd ?_ | (refine Both.mk ?_ ?_ <;> intro hc <;> try exact wX hc) | (intro c hc; (try (simp only [AH.zA] at hc; repeat (have hn := hc.1; replace hc := hc.2)))))) <;> (try (conv => whnf))
open Go.Fw Go
def zRow (S b i n : Nat) : List Int := (List.range n).filterMap fun k => if blk i k = b then some ((i * S + k : Nat) : Int) else none
def zBlk (S b n : Nat) : List Int := (List.range n).flatMap fun i => zRow S b i S
def zRef (S n : Nat) : List Int := (List.range n).flatMap fun b => zBlk S b S
theorem zRow_succ (S b i n : Nat) : zRow S b i (n + 1) = zRow S b i n ++ (if blk i n = b then [((i * S + n : Nat) : Int)] else []) := by
 unfold zRow
 rw [List.range_succ, List.filterMap_append]
 congr 1
 split <;> simp [*]
theorem zBlk_succ (S b n : Nat) : zBlk S b (n + 1) = zBlk S b n ++ zRow S b n S := by simp [zBlk, List.range_succ]
theorem zRef_succ (S n : Nat) : zRef S (n + 1) = zRef S n ++ zBlk S n S := by simp [zRef, List.range_succ]
theorem zRow_len (S b i n : Nat) : (zRow S b i n).length ≤ n := by
 unfold zRow
 have := List.length_filterMap_le (fun k => if blk i k = b then some ((i * S + k : Nat) : Int) else none) (List.range n)
 simpa using this
theorem zBlk_len (S b n : Nat) : (zBlk S b n).length ≤ n * S := by
 induction n with
 | zero => simp [zBlk]
 | succ n ih => rw [zBlk_succ, List.length_append, Nat.add_mul]; have := zRow_len S b n S; omega
theorem zRef_len (S n : Nat) : (zRef S n).length ≤ n * (S * S) := by
 induction n with
 | zero => simp [zRef]
 | succ n ih => rw [zRef_succ, List.length_append, Nat.add_mul]; have := zBlk_len S n S; omega
theorem zig_eq {k : Nat} (h : k ≤ 4) : zRef (2 ^ k) 13 = zgz (2 ^ k) k := by
 rcases (show k = 0 ∨ k = 1 ∨ k = 2 ∨ k = 3 ∨ k = 4 by omega) with rfl | rfl | rfl | rfl | rfl <;> decide +kernel
set_option maxRecDepth 8000 in
theorem rZig_c (S : Nat) (hS : 1 ≤ S ∧ S ≤ 16) (H : AH) : ACall Tryz.prog 71 [.int .i64 S] H (fun y H' => y = .cs (iS .i64 (zRef S 13)) (zRef S 13).length ∧ H' = H) := by
 refine ACall.coldX (es := 1) (Q := fun H' => H' = H) (by simp) ?_
 have hSS : S * S ≤ 256 := Nat.mul_le_mul hS.2 hS.2
 refine zQ zU (dok _) Tryz.func71 rfl (by decide) rfl ?_
 (repeat' ((conv => whnf); first | refine Then.mk ?_ | left | refine zd ?_ | (refine Both.mk ?_ ?_ <;> intro hc <;> try exact wX hc) | (intro c hc; (try (simp only [AH.zA] at hc; repeat (have hn := hc.1; replace hc := hc.2)))))) <;> (try (conv => whnf))
 refine AWp_nilrow1 3 1 rfl rfl fun q hq => ?_
 refine zT (σ := Nat × Nat) (3 :: 4 :: 5 :: 6 :: 7 :: 8 :: 9 :: 10 :: 11 :: 12 :: 13 :: 14 :: 15 :: 16 :: 17 :: 18 :: 19 :: 20 :: 21 :: 22 :: 23 :: 24 :: 25 :: 26 :: 27 :: 28 :: 29 :: 30 :: 31 :: 32 :: 33 :: []) (fun (b, v) => [(4, .int .i64 b), (3, .sl q v 1 0 (zRef S b).length none)]) (fun (b, v) => AH.set H q (.row (iS .i64 (zRef S b)) v)) (fun (b, v) => b ≤ 13) (fun (b, v) => 13 - b) (0, 0) rfl ?_ ?_ ?_ ?_
 ·exact Nat.zero_le _
 ·exact ⟨rfl, rfl, trivial⟩
 ·exact HLe.refl _
 ·rintro ⟨b, v⟩ hb
  dsimp only at hb ⊢
  refine AWp.of zU (dok _) rfl ?_
  have l1 := zRef_len S b
  have l1' : b * (S * S) ≤ 3328 := Nat.mul_le_mul hb hSS
  by_cases hb13 : b < 13
  ·have hsb := zRef_succ S b
   obtain ⟨D, hD⟩ : ∃ D, D = zRef S b := ⟨_, rfl⟩
   rw [← hD] at hsb l1 ⊢
   (repeat' ((conv => whnf); first | refine Then.mk ?_ | left | refine zd ?_ | (refine Both.mk ?_ ?_ <;> intro hc <;> try exact wX hc) | (intro c hc; (try (simp only [AH.zA] at hc; repeat (have hn := hc.1; replace hc := hc.2)))))) <;> (try (conv => whnf))
   refine zT (σ := Nat × Nat) (3 :: 5 :: 6 :: 11 :: 12 :: 13 :: 14 :: 15 :: 16 :: 17 :: 18 :: 19 :: 20 :: 21 :: 22 :: 23 :: 24 :: 25 :: 26 :: 27 :: 28 :: 29 :: 30 :: 31 :: 32 :: 33 :: []) (fun (i, v) => [(5, .int .i64 i), (3, .sl q v 1 0 (D ++ zBlk S b i).length none)]) (fun (i, v) => AH.set H q (.row (iS .i64 (D ++ zBlk S b i)) v)) (fun (i, v) => i ≤ S) (fun (i, v) => S - i) (0, v) rfl ?_ ?_ ?_ ?_
   ·exact Nat.zero_le _
   ·exact ⟨rfl, by show AV.sl q v 1 0 D.length none = AV.sl q v 1 0 (D ++ []).length none; rw [List.append_nil], trivial⟩
   ·refine HLe.of_eq ?_
    show AH.set H q (.row (iS .i64 (D ++ [])) v) = _
    rw [List.append_nil]
   ·rintro ⟨i, v⟩ hi
    dsimp only at hi ⊢
    refine AWp.of zU (dok _) rfl ?_
    have l2 := zBlk_len S b i
    have l2' : i * S ≤ 256 := Nat.le_trans (Nat.mul_le_mul_right _ hi) hSS
    by_cases hiS : i < S
    ·have hsi := zBlk_succ S b i
     have hEl : (D ++ zBlk S b i).length ≤ 4000 := by rw [List.length_append]; omega
     obtain ⟨E, hE⟩ : ∃ E, E = D ++ zBlk S b i := ⟨_, rfl⟩
     have hEn : D ++ zBlk S b (i + 1) = E ++ zRow S b i S := by rw [hsi, hE, List.append_assoc]
     rw [← hE] at hEl ⊢
     have m0 : 0 ≤ (i : Int) * S := Int.mul_nonneg (by omega) (by omega)
     have m1 : (i : Int) * S = ((i * S : Nat) : Int) := (Int.natCast_mul _ _).symm
     (repeat' ((conv => whnf); first | refine Then.mk ?_ | left | refine zd ?_ | (refine Both.mk ?_ ?_ <;> intro hc <;> try exact wX hc) | (intro c hc; (try (simp only [AH.zA] at hc; repeat (have hn := hc.1; replace hc := hc.2)))))) <;> (try (conv => whnf))
     refine zT (σ := Nat × Nat) (3 :: 6 :: 16 :: 17 :: 18 :: 19 :: 20 :: 21 :: 22 :: 23 :: 24 :: 25 :: 26 :: 27 :: 28 :: 29 :: 30 :: 31 :: 32 :: 33 :: []) (fun (k, v) => [(6, .int .i64 k), (3, .sl q v 1 0 (E ++ zRow S b i k).length none)]) (fun (k, v) => AH.set H q (.row (iS .i64 (E ++ zRow S b i k)) v)) (fun (k, v) => k ≤ S) (fun (k, v) => S - k) (0, v) rfl ?_ ?_ ?_ ?_
     ·exact Nat.zero_le _
     ·exact ⟨rfl, by show AV.sl q v 1 0 E.length none = AV.sl q v 1 0 (E ++ []).length none; rw [List.append_nil], trivial⟩
     ·refine HLe.of_eq ?_
      show AH.set H q (.row (iS .i64 (E ++ [])) v) = _
      rw [List.append_nil]
     ·rintro ⟨k, v⟩ hk
      dsimp only at hk ⊢
      refine AWp.of zU (dok _) rfl ?_
      have l3 := zRow_len S b i k
      by_cases hkS : k < S
      ·have hsk := zRow_succ S b i k
       have hFl : (E ++ zRow S b i k).length ≤ 4100 := by rw [List.length_append]; omega
       obtain ⟨F, hF⟩ : ∃ F, F = E ++ zRow S b i k := ⟨_, rfl⟩
       rw [← hF] at hFl ⊢
       have bk := fun H => Block_c i k (by omega) (by omega) H
       by_cases hbb : blk i k = b
       ·rw [hbb] at bk
        rw [if_pos hbb] at hsk
        have hFn : E ++ zRow S b i (k + 1) = F ++ [(i : Int) * S + k] := by rw [hsk, hF, List.append_assoc, m1]; rfl
        (repeat' ((conv => whnf); first | refine Then.mk ?_ | left | refine zg ?_ (bk _) | refine zgg ?_ (bk _) | refine zd ?_ | (refine Both.mk ?_ ?_ <;> intro hc <;> try exact wX hc) | (intro c hc; (try (simp only [AH.zA] at hc; repeat (have hn := hc.1; replace hc := hc.2)))) | (refine ACall.to (bk _) ?_))) <;> (try (conv => whnf))
        refine ⟨(k + 1, v + 1), by show k + 1 ≤ S; omega, by show S - (k + 1) < S - k; omega, ⟨congrArg (AV.int .i64) (by omega), ?_, trivial⟩, HLe.of_eq ?_⟩
        ·show AV.sl q (v + 1) 1 0 (F.length + 1) none = AV.sl q (v + 1) 1 0 (E ++ zRow S b i (k + 1)).length none
         rw [hFn, List.length_append]; rfl
        ·show AH.set H q (.row (iS .i64 (E ++ zRow S b i (k + 1))) (v + 1)) = _
         rw [hFn, ← iS_snoc]
         exact (AH.zS _ _ _ _).symm
       ·have hbi : ¬ ((blk i k : Nat) : Int) = b := by omega
        rw [if_neg hbb, List.append_nil] at hsk
        (repeat' ((conv => whnf); first | refine Then.mk ?_ | left | refine zg ?_ (bk _) | refine zgg ?_ (bk _) | refine zd ?_ | (refine Both.mk ?_ ?_ <;> intro hc <;> try exact wX hc) | (intro c hc; (try (simp only [AH.zA] at hc; repeat (have hn := hc.1; replace hc := hc.2)))) | (refine ACall.to (bk _) ?_))) <;> (try (conv => whnf))
        refine ⟨(k + 1, v), by show k + 1 ≤ S; omega, by show S - (k + 1) < S - k; omega, ⟨congrArg (AV.int .i64) (by omega), ?_, trivial⟩, HLe.of_eq ?_⟩
        ·show AV.sl q v 1 0 F.length none = AV.sl q v 1 0 (E ++ zRow S b i (k + 1)).length none
         rw [hsk, hF]
        ·show AH.set H q (.row (iS .i64 (E ++ zRow S b i (k + 1))) v) = _
         rw [hsk, hF]
      ·have hke : k = S := by omega
       (repeat' ((conv => whnf); first | refine Then.mk ?_ | left | refine zd ?_ | (refine Both.mk ?_ ?_ <;> intro hc <;> try exact wX hc) | (intro c hc; (try (simp only [AH.zA] at hc; repeat (have hn := hc.1; replace hc := hc.2)))))) <;> (try (conv => whnf))
       refine ⟨(i + 1, v), by show i + 1 ≤ S; omega, by show S - (i + 1) < S - i; omega, ⟨congrArg (AV.int .i64) (by omega), ?_, trivial⟩, HLe.of_eq ?_⟩
       ·show AV.sl q v 1 0 (E ++ zRow S b i k).length none = AV.sl q v 1 0 (D ++ zBlk S b (i + 1)).length none
        rw [hEn, hke]
       ·show AH.set H q (.row (iS .i64 (D ++ zBlk S b (i + 1))) v) = _
        rw [hEn, hke]
    ·have hie : i = S := by omega
     (repeat' ((conv => whnf); first | refine Then.mk ?_ | left | refine zd ?_ | (refine Both.mk ?_ ?_ <;> intro hc <;> try exact wX hc) | (intro c hc; (try (simp only [AH.zA] at hc; repeat (have hn := hc.1; replace hc := hc.2)))))) <;> (try (conv => whnf))
     refine ⟨(b + 1, v), by show b + 1 ≤ 13; omega, by show 13 - (b + 1) < 13 - b; omega, ⟨congrArg (AV.int .i64) (by omega), ?_, trivial⟩, HLe.of_eq ?_⟩
     ·show AV.sl q v 1 0 (D ++ zBlk S b i).length none = AV.sl q v 1 0 (zRef S (b + 1)).length none
      rw [hsb, hie]
     ·show AH.set H q (.row (iS .i64 (zRef S (b + 1))) v) = _
      rw [hsb, hie]
  ·have hbe : b = 13 := by omega
   subst hbe
   (repeat' ((conv => whnf); first | refine Then.mk ?_ | refine zd ?_ | (refine Both.mk ?_ ?_ <;> intro hc <;> try exact wX hc) | (intro c hc; (try (simp only [AH.zA] at hc; repeat (have hn := hc.1; replace hc := hc.2)))))) <;> (try (conv => whnf))
   exact .inr ⟨q, hq, v, rfl, rfl⟩
open Go.Fw Go
def Zr (Z : List Int) : Prop := ∀ H, ACall Tryz.prog 71 [.int .i64 16] H (fun y H' => y = .cs (iS .i64 Z) 256 ∧ H' = H)
theorem zr_ex : ∃ Z, ZO Z ∧ Zg Z ∧ Zr Z := by
 refine ⟨zgz (2 ^ 4) 4, zo_16, fun H => ?_, fun H => ?_⟩
 ·have h := zig_ok 4 (by decide) H
  have hl := zo_16.len
  generalize zgz (2 ^ 4) 4 = Z at *
  unfold resV at h
  dsimp only at h
  rw [hl] at h
  exact h
 ·have h := rZig_c 16 (by decide) H
  have hl := zo_16.len
  rw [show zRef 16 13 = zgz (2 ^ 4) 4 from zig_eq (k := 4) (by decide)] at h
  generalize zgz (2 ^ 4) 4 = Z at *
  rw [hl] at h
  exact h
theorem rInts_c (l : List Int) (hl : I64L l) (hlim : l.length ≤ 65536) (H : AH) :
  ACall Tryz.prog 69 [.cs (iS .i64 l) l.length] H (fun y H' => y = .cs (u8s (intsS l).1) (intsS l).1.length ∧ H' = H) := by
 have h := rcInts_c l hl hlim H
 rw [← show (intsS l).1 = codeS (intsI (l.map fold) is0).E.σ by unfold intsS; rw [if_pos hlim]] at h
 exact h
set_option maxRecDepth 8000 in
theorem eInt_s (n : Int) (hn : I64 n) (H : AH) :
  ACall Tryz.prog 36 [.int .i64 n] H (fun y H' => ∃ r, H r = none ∧ ∃ v, y = .sl r v 1 0 (encI n).length none ∧ H' = H.set r (.row (u8s (encI n)) v)) := by
 refine zQ zU (dok _) Tryz.func36 rfl (by decide) rfl ?_
 have zc := fun H => ezig_c n hn.1 hn.2 H
 have uc := eUint_s (zz n) (zz_lt hn.1 hn.2) H
 (repeat' ((conv => whnf); first | left | refine zd ?_ | (refine Both.mk ?_ ?_ <;> intro hc <;> try exact wX hc) | (intro c hc; (try (simp only [AH.zA] at hc; repeat (have hn := hc.1; replace hc := hc.2)))))) <;> (try (conv => whnf))
 refine Then.mk ?_
 (repeat' ((conv => whnf); first | left | refine zg ?_ (zc _) | refine zgg ?_ (zc _) | refine zd ?_ | (refine Both.mk ?_ ?_ <;> intro hc <;> try exact wX hc) | (intro c hc; (try (simp only [AH.zA] at hc; repeat (have hn := hc.1; replace hc := hc.2)))) | (refine ACall.to (zc _) ?_))) <;> (try (conv => whnf))
 refine uc.mono ?_
 rintro y H' ⟨r, hr, v, rfl, rfl⟩
 (repeat' ((conv => whnf); first | refine Then.mk ?_ | left | refine zd ?_ | (refine Both.mk ?_ ?_ <;> intro hc <;> try exact wX hc) | (intro c hc; (try (simp only [AH.zA] at hc; repeat (have hn := hc.1; replace hc := hc.2)))))) <;> (try (conv => whnf))
 rfl
set_option maxRecDepth 8000 in
set_option maxHeartbeats 4000000 in
theorem rlabelPart_c (L : List Int) (h : I64L L) (hl : L.length ≤ 300) (H : AH) : ACall Tryz.prog 29 [.cs (iS .i64 L) L.length] H (fun y H' => y = .cs (u8s (labP L)) (labP L).length ∧ H' = H) := by
 have rc := fun H => rruns_c L (by omega) H
 have hfl := flat_small hl
 have hfI := flat_I64 h (by omega)
 have ic := fun H => rInts_c (flatR (runsR L)) hfI (by omega) H
 obtain ⟨hil, hi0⟩ := ints_len hfI hfl (by omega)
 have hfe := flatR_len (runsR L)
 have hrl := runsR_len L
 have hlp := labP_len h hl
 unfold labP at hlp ⊢
 generalize flatR (runsR L) = R at *
 generalize (runsR L).length = n at *
 generalize (intsS R).1 = B at *
 rw [hfe] at rc ic
 have hl10 := encI_len (n := (n : Int)) (by unfold I64; omega)
 have ec := eInt_s n (by unfold I64; omega) H
 have er := fun H => eRaw_k B (by omega) H
 have hrl2 := encR_len (b := B) (by omega)
 have e1 : ((2 * n : Nat) : Int).tdiv 2 = n := by rw [Int.tdiv_eq_ediv_of_nonneg (by omega)]; omega
 have e2 : IntKind.i64.wrap (((2 * n : Nat) : Int).tdiv 2) = n := by rw [e1, IntKind.wrap_i64]; omega
 refine ACall.cold (es := 1) (by simp) ?_
 refine zQ zU (dok _) Tryz.func29 rfl (by decide) rfl ?_
 (repeat' ((conv => whnf); first | left | refine zd ?_ | (refine Both.mk ?_ ?_ <;> intro hc <;> try exact wX hc) | (intro c hc; (try (simp only [AH.zA] at hc; repeat (have hn := hc.1; replace hc := hc.2)))))) <;> (try (conv => whnf))
 refine Then.mk ?_
 (repeat' ((conv => whnf); first | left | refine zg ?_ (rc _) | refine zgg ?_ (rc _) | refine zd ?_ | (refine Both.mk ?_ ?_ <;> intro hc <;> try exact wX hc) | (intro c hc; (try (simp only [AH.zA] at hc; repeat (have hn := hc.1; replace hc := hc.2)))) | (refine ACall.to (rc _) ?_))) <;> (try (conv => whnf))
 refine Then.mk ?_
 (repeat' ((conv => whnf); first | left | refine zd ?_ | (refine Both.mk ?_ ?_ <;> intro hc <;> try exact wX hc) | (intro c hc; (try (simp only [AH.zA] at hc; repeat (have hn := hc.1; replace hc := hc.2)))))) <;> (try (conv => whnf))
 refine ec.mono ?_
 rintro y H' ⟨r, hr, v, rfl, rfl⟩
 have gr := AH.zC H r (.row (u8s (encI (n : Int))) v)
 (repeat' ((conv => whnf); first | left | refine zd ?_ | (refine Both.mk ?_ ?_ <;> intro hc <;> try exact wX hc) | (intro c hc; (try (simp only [AH.zA] at hc; repeat (have hn := hc.1; replace hc := hc.2)))))) <;> (try (conv => whnf))
 refine Then.mk ?_
 (repeat' ((conv => whnf); first | left | refine zg ?_ (ic _) | refine zg ?_ (er _) | refine zgg ?_ (ic _) | refine zgg ?_ (er _) | refine zd ?_ | (refine Both.mk ?_ ?_ <;> intro hc <;> try exact wX hc) | (intro c hc; (try (simp only [AH.zA] at hc; repeat (have hn := hc.1; replace hc := hc.2)))) | (refine ACall.to (ic _) ?_) | (refine ACall.to (er _) ?_))) <;> (try (conv => whnf))
 refine Then.mk ?_
 (repeat' ((conv => whnf); first | refine Then.mk ?_ | left | refine zd ?_ | (refine Both.mk ?_ ?_ <;> intro hc <;> try exact wX hc) | (intro c hc; (try (simp only [AH.zA] at hc; repeat (have hn := hc.1; replace hc := hc.2)))))) <;> (try (conv => whnf))
 exact ⟨v + 1, by rw [List.length_append], by rw [AH.zS, ← u8s_append]⟩
set_option maxRecDepth 8000 in
set_option maxHeartbeats 4000000 in
theorem rbandPart_c {Z : List Int} (hz : ZO Z) (hr : Zr Z) (a : List Int) (h : BOk a) (H : AH) : ACall Tryz.prog 30 [.cs (iS .i64 a) 256] H (fun y H' => y = .cs (u8s (bandP Z a)) (bandP Z a).length ∧ H' = H) := by
 have fc := fun H => rForward_c 16 (by decide) (by decide) a (by rw [h.len]; omega) H
 rw [fwd_sq h, h.len] at fc
 unfold resV at fc
 dsimp only at fc
 rw [coefL_len] at fc
 have hsI := sortL_ok hz h
 have hsl := sortL_len hz a
 have ic := fun H => rInts_c (sortL Z a) hsI (by omega) H
 rw [hsl] at ic
 have hzr := fun H => hr H
 unfold bandP
 generalize (intsS (sortL Z a)).1 = B at *
 have hzl : (iS .i64 Z).length = 256 := by rw [iS_length]; exact hz.len
 have hcl : (iS .i64 (coefL a)).length = 256 := by rw [iS_length]; exact coefL_len a
 refine ACall.back ?_
 refine zQ zU (dok _) Tryz.func30 rfl (by decide) rfl ?_
 (repeat' ((conv => whnf); first | left | refine zd ?_ | (refine Both.mk ?_ ?_ <;> intro hc <;> try exact wX hc) | (intro c hc; (try (simp only [AH.zA] at hc; repeat (have hn := hc.1; replace hc := hc.2)))))) <;> (try (conv => whnf))
 refine Then.mk ?_
 (repeat' ((conv => whnf); first | left | refine zg ?_ (fc _) | refine zgg ?_ (fc _) | refine zd ?_ | (refine Both.mk ?_ ?_ <;> intro hc <;> try exact wX hc) | (intro c hc; (try (simp only [AH.zA] at hc; repeat (have hn := hc.1; replace hc := hc.2)))) | (refine ACall.to (fc _) ?_))) <;> (try (conv => whnf))
 refine Then.mk ?_
 (repeat' ((conv => whnf); first | left | refine zg ?_ (hzr _) | refine zgg ?_ (hzr _) | refine zd ?_ | (refine Both.mk ?_ ?_ <;> intro hc <;> try exact wX hc) | (intro c hc; (try (simp only [AH.zA] at hc; repeat (have hn := hc.1; replace hc := hc.2)))) | (refine ACall.to (hzr _) ?_))) <;> (try (conv => whnf))
 refine Then.mk ?_
 (repeat' ((conv => whnf); first | left | refine zd ?_ | (refine Both.mk ?_ ?_ <;> intro hc <;> try exact wX hc) | (intro c hc; (try (simp only [AH.zA] at hc; repeat (have hn := hc.1; replace hc := hc.2)))))) <;> (try (conv => whnf))
 refine Then.mk (AWq.in ?_)
 refine AWp_nilrow1 6 1 rfl rfl fun q hq => ?_
 refine AWp.of zU (dok _) rfl ?_
 (repeat' ((conv => whnf); first | refine Then.mk ?_ | left | refine zd ?_ | (refine Both.mk ?_ ?_ <;> intro hc <;> try exact wX hc) | (intro c hc; (try (simp only [AH.zA] at hc; repeat (have hn := hc.1; replace hc := hc.2)))))) <;> (try (conv => whnf))
 refine zT (σ := Nat) (6 :: 7 :: 14 :: 15 :: 16 :: 17 :: 18 :: 19 :: 20 :: 21 :: 22 :: 23 :: 24 :: 25 :: 26 :: 27 :: 28 :: 29 :: []) (fun i => [(7, .int .i64 i), (6, .sl q i 1 0 i none)]) (fun i => H.set q (.row (iS .i64 ((sortL Z a).take i)) i)) (fun i => i ≤ 256) (fun i => 256 - i) 0 rfl (Nat.zero_le _) ⟨rfl, rfl, trivial⟩ (HLe.refl _) ?_
 intro i hi
 refine AWp.of zU (dok _) rfl ?_
 dsimp only at hi ⊢
 have gq := AH.zC H q (.row (iS .i64 ((sortL Z a).take i)) i)
 have lR : (iS .i64 ((sortL Z a).take i)).length = i := by rw [iS_length, List.length_take]; omega
 by_cases hit : i < 256
 ·have hiz : i < Z.length := by rw [hz.len]; exact hit
  have gz : (iS .i64 Z)[(i : Int).toNat]? = some (.int .i64 (Z.getD i 0)) := iS_get hiz
  have hb := hz.bd _ (getD_mem hiz)
  have gc : (iS .i64 (coefL a))[(Z.getD i 0).toNat]? = some (.int .i64 ((coefL a).getD (Z.getD i 0).toNat 0)) := iS_get (by rw [coefL_len]; omega)
  rw [← sortL_at a hiz] at gc
  have ht : iS .i64 ((sortL Z a).take (i + 1)) = iS .i64 ((sortL Z a).take i) ++ [.int .i64 ((sortL Z a).getD i 0)] := by
   rw [take_snoc (x := (sortL Z a).getD i 0) (by rw [List.getD_eq_getElem?_getD, List.getElem?_eq_getElem (by omega)]; rfl), ← iS_snoc]
  generalize iS .i64 ((sortL Z a).take i) = R at *
  generalize (sortL Z a).getD i 0 = v at *
  generalize Z.getD i 0 = z at *
  (repeat' ((conv => whnf); first | refine Then.mk ?_ | left | refine zd ?_ | (refine Both.mk ?_ ?_ <;> intro hc <;> try exact wX hc) | (intro c hc; (try (simp only [AH.zA] at hc; repeat (have hn := hc.1; replace hc := hc.2)))))) <;> (try (conv => whnf))
  exact ⟨i + 1, hit, by omega, ⟨congrArg (AV.int .i64) (by omega), rfl, trivial⟩, HLe.of_eq (by rw [ht, AH.zS])⟩
 ·have hie : i = 256 := by omega
  subst hie
  rw [List.take_of_length_le (by omega)] at gq lR ⊢
  (repeat' ((conv => whnf); first | left | refine zd ?_ | (refine Both.mk ?_ ?_ <;> intro hc <;> try exact wX hc) | (intro c hc; (try (simp only [AH.zA] at hc; repeat (have hn := hc.1; replace hc := hc.2)))))) <;> (try (conv => whnf))
  refine Then.mk ?_
  (repeat' ((conv => whnf); first | left | refine zd ?_ | (refine Both.mk ?_ ?_ <;> intro hc <;> try exact wX hc) | (intro c hc; (try (simp only [AH.zA] at hc; repeat (have hn := hc.1; replace hc := hc.2)))))) <;> (try (conv => whnf))
  refine Then.mk (AWq.in ?_)
  refine AWp_freeze1 6 rfl rfl gq (by omega) ?_
  rw [AH.del_set _ _ _ hq]
  refine AWp.of zU (dok _) rfl ?_
  (repeat' ((conv => whnf); first | refine Then.mk ?_ | left | refine zg ?_ (ic _) | refine zgg ?_ (ic _) | refine zd ?_ | (refine Both.mk ?_ ?_ <;> intro hc <;> try exact wX hc) | (intro c hc; (try (simp only [AH.zA] at hc; repeat (have hn := hc.1; replace hc := hc.2)))) | (refine ACall.to (ic _) ?_))) <;> (try (conv => whnf))
  exact HLe.refl _
set_option maxRecDepth 8000 in
set_option maxHeartbeats 4000000 in
theorem rsplit_c {Z : List Int} (hz : ZO Z) (hr : Zr Z) (n : Nat) (hn : 1 ≤ n ∧ n ≤ 4) (L P : List Int) (w : Semi n L P) (H : AH) :
  ACall Tryz.prog 8 [.agg [.int .i64 n, .cs (iS .i64 L) 256, .cs (iS .i64 P) (256 * n)]] H (fun y H' => y = .cs (pvL (partsT Z n L P n)) (n + 1) ∧ H' = H) := by
 have hL := w.lb.len
 have lc := fun H => rlabelPart_c L w.lab (by omega) H
 rw [hL] at lc
 have vc := fun k (hk : k < n) H => Values_c n k hk hn.2 L P w.p H
 have bc := fun k (hk : k < n) H => rbandPart_c hz hr (bandL n P k) (w.band k hk) H
 refine ACall.cold (es := 1) (by rw [pvL_len, partsT_len]; omega) ?_
 refine ACall.told ?_
 refine zQ zU (dok _) Tryz.func8 rfl (by decide) rfl ?_
 (repeat' ((conv => whnf); first | left | refine zd ?_ | (refine Both.mk ?_ ?_ <;> intro hc <;> try exact wX hc) | (intro c hc; (try (simp only [AH.zA] at hc; repeat (have hn := hc.1; replace hc := hc.2)))))) <;> (try (conv => whnf))
 refine Then.mk (AWq.in ?_)
 refine AWp_freezeP 1 rfl rfl (AH.zC _ _ _) ?_
 rw [AH.del_set _ _ _ (by assumption)]
 refine AWp.of zU (dok _) rfl ?_
 (repeat' ((conv => whnf); first | refine Or.inr (Or.inl ?_) | refine zg ?_ (lc _) | refine zgg ?_ (lc _) | refine zd ?_ | (refine Both.mk ?_ ?_ <;> intro hc <;> try exact wX hc) | (intro c hc; (try (simp only [AH.zA] at hc; repeat (have hn := hc.1; replace hc := hc.2)))) | (refine ACall.to (lc _) ?_))) <;> (try (conv => whnf))
 (obtain ⟨q, hq_⟩ : ∃ q, q = c := ⟨_, rfl⟩); subst hq_
 have hq : H q = none := hc
 refine Then.mk ?_
 (repeat' ((conv => whnf); first | refine Then.mk ?_ | left | refine zd ?_ | (refine Both.mk ?_ ?_ <;> intro hc <;> try exact wX hc) | (intro c hc; (try (simp only [AH.zA] at hc; repeat (have hn := hc.1; replace hc := hc.2)))))) <;> (try (conv => whnf))
 refine zT (σ := Nat) (3 :: 4 :: 9 :: 10 :: 11 :: 12 :: 13 :: 14 :: 15 :: 16 :: 17 :: 18 :: 19 :: 20 :: 21 :: []) (fun k => [(4, .int .i64 k), (3, .sl q k 1 0 (k + 1) none)]) (fun k => H.set q (.row (pvL (partsT Z n L P k)) k)) (fun k => k ≤ n) (fun k => n - k) 0 rfl (Nat.zero_le _) ⟨rfl, rfl, trivial⟩ (HLe.refl _) ?_
 intro k hk
 refine AWp.of zU (dok _) rfl ?_
 dsimp only at hk ⊢
 have gq := AH.zC H q (.row (pvL (partsT Z n L P k)) k)
 have lq : (pvL (partsT Z n L P k)).length = k + 1 := by rw [pvL_len, partsT_len]
 by_cases hkt : k < n
 ·have hps := pvL_snoc (partsT Z n L P k) (bandP Z (bandL n P k))
  rw [← partsT_snoc] at hps
  have bc := bc k hkt
  have vc := vc k hkt
  have hone : ∀ p : List UInt8, one (.cs (u8s p) p.length) = true := fun p => rfl
  generalize pvL (partsT Z n L P k) = RP at *
  (repeat' ((conv => whnf); first | refine Then.mk ?_ | left | refine zg ?_ (bc _) | refine zg ?_ (vc _) | refine zgg ?_ (bc _) | refine zgg ?_ (vc _) | refine zd ?_ | (refine Both.mk ?_ ?_ <;> intro hc <;> try exact wX hc) | (intro c hc; (try (simp only [AH.zA] at hc; repeat (have hn := hc.1; replace hc := hc.2)))) | (refine ACall.to (bc _) ?_) | (refine ACall.to (vc _) ?_))) <;> (try (conv => whnf))
  exact ⟨k + 1, hkt, by omega, ⟨congrArg (AV.int .i64) (by omega), rfl, trivial⟩, HLe.of_eq (by rw [AH.zS, hps])⟩
 ·have hke : k = n := by omega
  subst hke
  (repeat' ((conv => whnf); first | refine Then.mk ?_ | left | refine zd ?_ | (refine Both.mk ?_ ?_ <;> intro hc <;> try exact wX hc) | (intro c hc; (try (simp only [AH.zA] at hc; repeat (have hn := hc.1; replace hc := hc.2)))))) <;> (try (conv => whnf))
  exact ⟨_, _, AVle.refl _, HLe.refl _, q, hq, k, rfl, rfl⟩
open Go.Fw Go
theorem placesP_all (ps : List (List UInt8)) : placesP ps ps.length = fnL ps.length (placeP ps) := fnL_congr fun i hi => if_pos (by omega)
set_option maxRecDepth 8000 in
set_option maxHeartbeats 4000000 in
theorem rplaces_c (ps : List (List UInt8)) (h1 : 1 ≤ ps.length) (h2 : ps.length ≤ 9) (hp : ∀ p ∈ ps, p.length ≤ 90000) (H : AH) :
  ACall Tryz.prog 9 [.cs (pvL ps) ps.length] H (fun y H' => y = .cs (prL (placesP ps ps.length)) ps.length ∧ H' = H) := by
 have hn10 := encI_len (n := (ps.length : Int) - 1) (by unfold I64; omega)
 have hlt : ∀ i, (encRs (ps.take i)).length ≤ 9 * 90010 := fun i => by
  have := encRs_len (ps := ps.take i) (m := 90000) (fun p hp' => hp p (List.mem_of_mem_take hp')) (by decide)
  rw [List.length_take] at this
  have h3 : min i ps.length ≤ 9 := by omega
  exact Nat.le_trans this (Nat.mul_le_mul_right (90000 + 10) h3)
 have hpl := pvL_len ps
 have e1 : IntKind.i64.wrap ((ps.length : Int) - 1) = (ps.length : Int) - 1 := by rw [IntKind.wrap_i64]; omega
 have ec := fun H => eInt_k ((ps.length : Int) - 1) (by unfold I64; omega) H
 rw [placesP_all]
 refine ACall.cold (es := 2) (by rw [prL_len, fnL_len]) ?_
 refine zQ zU (dok _) Tryz.func9 rfl (by decide) rfl ?_
 (repeat' ((conv => whnf); first | left | refine zd ?_ | (refine Both.mk ?_ ?_ <;> intro hc <;> try exact wX hc) | (intro c hc; (try (simp only [AH.zA] at hc; repeat (have hn := hc.1; replace hc := hc.2)))))) <;> (try (conv => whnf))
 refine Then.mk ?_
 (repeat' ((conv => whnf); first | left | refine zd ?_ | (refine Both.mk ?_ ?_ <;> intro hc <;> try exact wX hc) | (intro c hc; (try (simp only [AH.zA] at hc; repeat (have hn := hc.1; replace hc := hc.2)))))) <;> (try (conv => whnf))
 refine Then.mk (AWq.in ?_)
 refine AWp_nilrow1 3 2 rfl rfl fun q hq => ?_
 refine AWp.of zU (dok _) rfl ?_
 generalize hE : (encI ((ps.length : Int) - 1)).length = E at *
 (repeat' ((conv => whnf); first | refine Then.mk ?_ | left | refine zg ?_ (ec _) | refine zgg ?_ (ec _) | refine zd ?_ | (refine Both.mk ?_ ?_ <;> intro hc <;> try exact wX hc) | (intro c hc; (try (simp only [AH.zA] at hc; repeat (have hn := hc.1; replace hc := hc.2)))) | (refine ACall.to (ec _) ?_))) <;> (try (conv => whnf))
 refine zT (σ := Nat) (3 :: 4 :: 5 :: 6 :: 12 :: 13 :: 14 :: 15 :: 16 :: 17 :: 18 :: 19 :: 20 :: 21 :: 22 :: 23 :: 24 :: 25 :: 26 :: 27 :: 28 :: 29 :: 30 :: 31 :: 32 :: 33 :: 34 :: 35 :: 36 :: 37 :: 38 :: []) (fun i => [(5, .int .i64 i), (4, .int .i64 (E + (encRs (ps.take i)).length : Nat)), (3, .sl q i 2 0 i none)]) (fun i => H.set q (.row (prL (fnL i (placeP ps))) i)) (fun i => i ≤ ps.length) (fun i => ps.length - i) 0 rfl (Nat.zero_le _) ⟨rfl, rfl, rfl, trivial⟩ (HLe.refl _) ?_
 intro i hi
 refine AWp.of zU (dok _) rfl ?_
 dsimp only at hi ⊢
 have hli := hlt i
 have gq := AH.zC H q (.row (prL (fnL i (placeP ps))) i)
 have lq : (prL (fnL i (placeP ps))).length = i * 2 := by rw [prL_len, fnL_len]
 by_cases hit : i < ps.length
 ·obtain ⟨p, hpi⟩ : ∃ p, ps[i]? = some p := ⟨_, List.getElem?_eq_getElem hit⟩
  have gp : (pvL ps)[(i : Int).toNat]? = some (.cs (u8s p) p.length) := pvL_get hpi
  have hpl2 := hp p (List.mem_of_getElem? hpi)
  have er := fun H => eRaw_k p (by omega) H
  have hrl := encR_len (b := p) (by omega)
  have hrl3 : p.length ≤ (encR p).length := by unfold encR; rw [List.length_append]; omega
  have hln : (encRs (ps.take (i + 1))).length = (encRs (ps.take i)).length + (encR p).length := by rw [take_snoc hpi, encRs_snoc, List.length_append]
  have hxe : ps.getD i [] = p := by rw [List.getD_eq_getElem?_getD, hpi]; rfl
  have hst : prL (fnL (i + 1) (placeP ps)) = prL (fnL i (placeP ps)) ++ [.int .i64 ((E + (encRs (ps.take i)).length + (encR p).length : Nat) - (p.length : Int)), .int .i64 (p.length : Int)] := by
   rw [fnL_snoc, prL_snoc]
   unfold prA placeP endP
   rw [hxe, hln, hE, ← Nat.add_assoc]
  generalize (encRs (ps.take i)).length = m at *
  generalize (encR p).length = k at *
  generalize prL (fnL i (placeP ps)) = R at *
  have e2 : IntKind.i64.wrap (((E + m : Nat) : Int) + (k : Int)) = ((E + m + k : Nat) : Int) := by rw [IntKind.wrap_i64]; omega
  have e3 : IntKind.i64.wrap (((E + m + k : Nat) : Int) - (p.length : Int)) = ((E + m + k : Nat) : Int) - (p.length : Int) := by rw [IntKind.wrap_i64]; omega
  (repeat' ((conv => whnf); first | refine Then.mk ?_ | left | refine zg ?_ (er _) | refine zgg ?_ (er _) | refine zd ?_ | (refine Both.mk ?_ ?_ <;> intro hc <;> try exact wX hc) | (intro c hc; (try (simp only [AH.zA] at hc; repeat (have hn := hc.1; replace hc := hc.2)))) | (refine ACall.to (er _) ?_))) <;> (try (conv => whnf))
  exact ⟨i + 1, hit, by omega, ⟨congrArg (AV.int .i64) (by omega), by dsimp only; rw [hln, ← Nat.add_assoc]; rfl, rfl, trivial⟩, HLe.of_eq (by rw [hst, AH.zS])⟩
 ·have hie : i = ps.length := by omega
  subst hie
  (repeat' ((conv => whnf); first | refine Then.mk ?_ | left | refine zd ?_ | (refine Both.mk ?_ ?_ <;> intro hc <;> try exact wX hc) | (intro c hc; (try (simp only [AH.zA] at hc; repeat (have hn := hc.1; replace hc := hc.2)))))) <;> (try (conv => whnf))
open Go.Fw Go
set_option maxRecDepth 8000 in
theorem Band_bad {Z : List Int} (hz : ZO Z) {n : Nat} (hn : 1 ≤ n ∧ n ≤ 4) {L P : List Int} (w : Semi n L P) (k : Int) (hk : k < 0 ∨ (n : Int) ≤ k) (H : AH) : ACall Tryz.prog 14 [.cs (u8s (packT Z n L P)) (packT Z n L P).length, .int .i64 k] H (fun y H' => y = .tup [.nils, .int .i64 1] ∧ H' = H) := by
 have sc := fun H => split_t hz hn w H
 have lp : (pvL (partsT Z n L P n)).length = n + 1 := by rw [pvL_len, partsT_len]
 generalize pvL (partsT Z n L P n) = R at *
 generalize packT Z n L P = B at *
 have e1 : IntKind.i64.wrap (((n + 1 : Nat) : Int) - 1) = n := by rw [IntKind.wrap_i64]; omega
 have oc : ∀ H, ACall Tryz.prog 44 [.cs (u8s B) B.length, .int .i64 k] H (fun y H' => y = .tup [.nils, .nils, .int .i64 1] ∧ H' = H) := fun H => by
  refine zQ zU (dok _) Tryz.func44 rfl (by decide) rfl ?_
  (repeat' ((conv => whnf); first | refine Then.mk ?_ | left | refine zg ?_ (sc _) | refine zgg ?_ (sc _) | refine zd ?_ | (refine Both.mk ?_ ?_ <;> intro hc <;> try exact wX hc) | (intro c hc; (try (simp only [AH.zA] at hc; repeat (have hn := hc.1; replace hc := hc.2)))) | (refine ACall.to (sc _) ?_))) <;> (try (conv => whnf))
 refine zQ zU (dok _) Tryz.func14 rfl (by decide) rfl ?_
 (repeat' ((conv => whnf); first | refine Then.mk ?_ | left | refine zg ?_ (oc _) | refine zgg ?_ (oc _) | refine zd ?_ | (refine Both.mk ?_ ?_ <;> intro hc <;> try exact wX hc) | (intro c hc; (try (simp only [AH.zA] at hc; repeat (have hn := hc.1; replace hc := hc.2)))) | (refine ACall.to (oc _) ?_))) <;> (try (conv => whnf))
theorem join_at {ps : List (List UInt8)} {i : Nat} {p : List UInt8} (h : ps[i]? = some p) : ∃ A : Nat, endP ps i = A + p.length ∧ A + p.length ≤ (joinP ps).length ∧ ((joinP ps).drop A).take p.length = p := by
 have e1 : joinP ps = (encI ((ps.length : Int) - 1) ++ encRs (ps.take i) ++ encN p.length) ++ (p ++ encRs (ps.drop (i + 1))) := by
  have : encRs ps = encRs (ps.take i) ++ encRs (ps.drop i) := by unfold encRs; rw [← List.flatMap_append, List.take_append_drop]
  unfold joinP
  rw [this, encRs_drop h]
  unfold encR
  simp only [List.append_assoc]
 have e2 : endP ps i = (encI ((ps.length : Int) - 1) ++ encRs (ps.take i) ++ encN p.length).length + p.length := by
  unfold endP
  rw [take_snoc h, encRs_snoc]
  unfold encR
  simp only [List.length_append]
  omega
 refine ⟨_, e2, ?_, ?_⟩
 ·rw [e1]; simp only [List.length_append]; omega
 ·rw [e1, List.drop_left, List.take_left]
theorem u8s_cut (B : List UInt8) (a m : Nat) : List.take m (List.drop a (u8s B)) = u8s ((B.drop a).take m) := by
 unfold u8s
 rw [← List.map_drop, ← List.map_take]
set_option maxRecDepth 8000 in
set_option maxHeartbeats 4000000 in
theorem CodecBands_c (l0 : List Int) (hl0 : l0.length ≤ maxLen) (hz0 : l0.length * 8 ≤ 140737488351232) (hr0 : ∀ n ∈ l0, -9223372036854775808 ≤ n ∧ n ≤ 9223372036854775807) (x1 : Int) (hx1 : -9223372036854775808 ≤ x1 ∧ x1 ≤ 9223372036854775807) (x2 : Int) (hx2 : -9223372036854775808 ≤ x2 ∧ x2 ≤ 9223372036854775807) :
  ACall Tryz.prog 3 [.cs (iS .i64 l0) l0.length, .int .i64 x1, .int .i64 x2] (fun _ => none) (fun y _ => y = .bool true) := by
 obtain ⟨Z, hz, hzig, hzr⟩ := zr_ex
 have ta := fun H => tile_c l0 hr0 hl0 x1 hx1 H
 have h3 := aro_lt (n := x1) (m := 3) (by decide)
 obtain ⟨n, hn⟩ : ∃ n, n = 1 + aro x1 3 := ⟨_, rfl⟩
 rw [← hn] at ta
 have wa := tile_well l0 (n := n) (by omega)
 generalize fnL 256 (tlA l0) = L at *
 generalize fnL (256 * n) (tlB l0 n) = P at *
 have hn4 : 1 ≤ n ∧ n ≤ 4 := by omega
 clear hn h3
 unfold tV at ta
 rw [wa.l, wa.p] at ta
 have en := fun H => encode_ok hz hzig n hn4 L P wa H
 have sp := fun H => rsplit_c hz hzr n hn4 L P wa.semi H
 have pl := fun H => rplaces_c (partsT Z n L P n) (by rw [partsT_len]; omega) (by rw [partsT_len]; omega) (wa.semi.parts hz) H
 rw [partsT_len] at pl
 have pa := fun H => Parts_t hz hn4 wa H
 have lb := fun H => Labels_t hz hn4 wa.semi H
 have sm : ∀ H, ACall Tryz.prog 12 [.cs (iS .i64 L) 256, .cs (iS .i64 L) 256] H (fun y H' => y = .bool true ∧ H' = H) := fun H => by
  have := sameints_c L L (by rw [wa.l]; decide) (by rw [wa.l]; decide) H
  rw [decide_eq_true rfl, wa.l] at this
  exact this
 have bd := fun k (hk : k < n) H => Band_t hz hzig hn4 wa.semi H hk
 have bb := fun k hk H => Band_bad hz hn4 wa.semi k hk H
 have vc := fun k (hk : k < n) H => Values_c n k hk hn4.2 L P wa.p H
 have ll : ∀ H, ACall Tryz.prog 18 [] H (fun y H' => y = .bool true ∧ H' = H) := fun H => lives26_c H
 have jat := fun i p (h : (partsT Z n L P n)[i]? = some p) => join_at h
 have pget := fun i p (h : (partsT Z n L P n)[i]? = some p) => pvL_get h
 have hple := wa.semi.parts hz
 have hjl : (packT Z n L P).length ≤ 820000 := joinP_len (by rw [partsT_len]; omega) hple
 have hwb := fun k (hk : k < n) => wa.semi.band k hk
 have hpk := fun k (hk : k < n) => parts_k Z L P hk
 have hplL : (partsT Z n L P n).length = n + 1 := partsT_len Z n L P n
 have hPl := placesP_all (partsT Z n L P n)
 rw [hplL] at hPl
 have hPL2 : ∀ i p, (partsT Z n L P n)[i]? = some p → (fnL (n + 1) (placeP (partsT Z n L P n)))[i]? = some ((endP (partsT Z n L P n) i : Int) - (p.length : Int), (p.length : Int)) := fun i p h => by
  have hi : i < n + 1 := by
   by_cases hi : i < n + 1
   ·exact hi
   ·rw [List.getElem?_eq_none (by omega)] at h; cases h
  rw [fnL_get _ hi]
  unfold placeP
  rw [List.getD_eq_getElem?_getD, h]; rfl
 rw [hPl] at pl pa
 have lPL : (prL (fnL (n + 1) (placeP (partsT Z n L P n)))).length = (n + 1) * 2 := by rw [prL_len, fnL_len]
 obtain ⟨PS, hPS⟩ : ∃ PS, PS = partsT Z n L P n := ⟨_, rfl⟩
 obtain ⟨QL, hQL⟩ : ∃ QL, QL = fnL (n + 1) (placeP (partsT Z n L P n)) := ⟨_, rfl⟩
 have hJ : packT Z n L P = joinP PS := by rw [hPS]; rfl
 rw [← hPS] at jat pget hple hpk hPL2 hplL sp pl pa lPL hQL
 have lQL : QL.length = n + 1 := by rw [hQL, fnL_len]
 rw [← hQL] at pl pa lPL hPL2
 have lPV : (pvL PS).length = n + 1 := by rw [pvL_len, hplL]
 have lB : (u8s (packT Z n L P)).length = (packT Z n L P).length := by simp
 rw [← hJ] at jat
 generalize hBB : packT Z n L P = B at *
 clear hJ hBB hQL hPl
 have hPB := wa.p
 have hLB := wa.l
 clear wa
 obtain ⟨H0, hH0⟩ : ∃ H0 : AH, H0 = fun _ => none := ⟨_, rfl⟩
 rw [← hH0]
 clear hH0
 refine zQ zU (dok _) Tryz.func3 rfl (by decide) rfl ?_
 (repeat' ((conv => whnf); first | left | refine zd ?_ | (refine Both.mk ?_ ?_ <;> intro hc <;> try exact wX hc) | (intro c hc; (try (simp only [AH.zA] at hc; repeat (have hn := hc.1; replace hc := hc.2)))))) <;> (try (conv => whnf))
 refine Then.mk ?_
 (repeat' ((conv => whnf); first | left | refine zg ?_ (ta _) | refine zgg ?_ (ta _) | refine zd ?_ | (refine Both.mk ?_ ?_ <;> intro hc <;> try exact wX hc) | (intro c hc; (try (simp only [AH.zA] at hc; repeat (have hn := hc.1; replace hc := hc.2)))) | (refine ACall.to (ta _) ?_))) <;> (try (conv => whnf))
 refine Then.mk (AWq.in ?_)
 refine AWp_segP 7 [.int .i64 n, .cs (iS .i64 L) 256, .cs (iS .i64 P) (256 * n)] rfl rfl (by assumption) rfl rfl ?_
 refine AWp.of zU (dok _) rfl ?_
 iterate 6 ((repeat' ((conv => whnf); first | left | refine zg ?_ (en _) | refine zg ?_ (sp _) | refine zg ?_ (pl _) | refine zg ?_ (pa _) | refine zg ?_ (lb _) | refine zg ?_ (sm _) | refine zgg ?_ (en _) | refine zgg ?_ (sp _) | refine zgg ?_ (pl _) | refine zgg ?_ (pa _) | refine zgg ?_ (lb _) | refine zgg ?_ (sm _) | refine zd ?_ | (refine Both.mk ?_ ?_ <;> intro hc <;> try exact wX hc) | (intro c hc; (try (simp only [AH.zA] at hc; repeat (have hn := hc.1; replace hc := hc.2)))) | (refine ACall.to (en _) ?_) | (refine ACall.to (sp _) ?_) | (refine ACall.to (pl _) ?_) | (refine ACall.to (pa _) ?_) | (refine ACall.to (lb _) ?_) | (refine ACall.to (sm _) ?_))) <;> (try (conv => whnf)); refine Then.mk ?_)
 (repeat' ((conv => whnf); first | refine Then.mk ?_ | left | refine zd ?_ | (refine Both.mk ?_ ?_ <;> intro hc <;> try exact wX hc) | (intro c hc; (try (simp only [AH.zA] at hc; repeat (have hn := hc.1; replace hc := hc.2)))))) <;> (try (conv => whnf))
 refine zT (σ := Nat) (6 :: 16 :: 76 :: 77 :: 78 :: 79 :: 80 :: 81 :: 82 :: 83 :: 84 :: 85 :: 86 :: 87 :: 88 :: 89 :: 90 :: 91 :: 92 :: 93 :: 94 :: 95 :: 96 :: 97 :: 98 :: 99 :: 100 :: 101 :: 102 :: 103 :: 104 :: 105 :: 106 :: 107 :: 108 :: 109 :: 110 :: 111 :: 112 :: 113 :: 114 :: 115 :: 116 :: 117 :: []) (fun i => [(16, .int .i64 i)]) (fun _ => H0) (fun i => i ≤ n + 1) (fun i => n + 1 - i) 0 rfl (Nat.zero_le _) ⟨rfl, trivial⟩ (HLe.refl _) ?_
 intro i hi
 refine AWp.of zU (dok _) rfl ?_
 dsimp only at hi ⊢
 by_cases hit : i < n + 1
 ·obtain ⟨p, hpi⟩ : ∃ p, PS[i]? = some p := ⟨_, List.getElem?_eq_getElem (by omega)⟩
  obtain ⟨A, a1, a2, a3⟩ := jat i p hpi
  have gp : (pvL PS)[(i : Int).toNat]? = some (.cs (u8s p) p.length) := pvL_get hpi
  have gq := hPL2 i p hpi
  rw [a1, show ((A + p.length : Nat) : Int) - (p.length : Int) = (A : Int) by omega] at gq
  have g0 : (prL QL)[(i : Int).toNat * 2]? = some (.int .i64 A) := prL_get gq 0 (by decide)
  have g0' : (prL QL)[(i : Int).toNat * 2 + (0 : Int).toNat]? = some (.int .i64 A) := prL_get gq 0 (by decide)
  have g1 : (prL QL)[(i : Int).toNat * 2 + 1]? = some (.int .i64 p.length) := prL_get gq 1 (by decide)
  have gs : List.take 2 (List.drop ((i : Int).toNat * 2) (prL QL)) = [.int .i64 A, .int .i64 p.length] := prL_seg gq
  have gs2 : List.take (TR.size ⟨.array 2 3 1 false, 2, true, [.int .i64 0, .int .i64 0]⟩) (List.drop ((i : Int).toNat * 2) (prL QL)) = [.int .i64 A, .int .i64 p.length] := gs
  have gI : (List.take (TR.size ⟨.array 2 3 1 false, 2, true, [.int .i64 0, .int .i64 0]⟩) (List.drop ((i : Int).toNat * 2) (prL QL))).all isI64 = true := by rw [gs2]; rfl
  have e1 : IntKind.i64.wrap ((A : Int) + (p.length : Int)) = ((A + p.length : Nat) : Int) := by rw [IntKind.wrap_i64]; omega
  have hcut : List.take ((((A + p.length : Nat) : Int).toNat - (A : Int).toNat) * 1) (List.drop ((A : Int).toNat * 1) (u8s B)) = u8s p := by
   rw [Int.toNat_natCast, Int.toNat_natCast, Nat.mul_one, Nat.mul_one, show A + p.length - A = p.length by omega, u8s_cut, a3]
  (repeat' ((conv => whnf); first | refine Then.mk ?_ | left | refine zd ?_ | (refine Both.mk ?_ ?_ <;> intro hc <;> try exact wX hc) | (intro c hc; (try (simp only [AH.zA] at hc; repeat (have hn := hc.1; replace hc := hc.2)))))) <;> (try (conv => whnf))
  exact ⟨i + 1, hit, by omega, ⟨congrArg (AV.int .i64) (by omega), trivial⟩, HLe.refl _⟩
 ·have hie : i = n + 1 := by omega
  subst hie
  have zg := fun H => hzig H
  iterate 2 ((repeat' ((conv => whnf); first | left | refine zg ?_ (zg _) | refine zgg ?_ (zg _) | refine zd ?_ | (refine Both.mk ?_ ?_ <;> intro hc <;> try exact wX hc) | (intro c hc; (try (simp only [AH.zA] at hc; repeat (have hn := hc.1; replace hc := hc.2)))) | (refine ACall.to (zg _) ?_))) <;> (try (conv => whnf)); refine Then.mk ?_)
  (repeat' ((conv => whnf); first | refine Then.mk ?_ | left | refine zg ?_ (zg _) | refine zgg ?_ (zg _) | refine zd ?_ | (refine Both.mk ?_ ?_ <;> intro hc <;> try exact wX hc) | (intro c hc; (try (simp only [AH.zA] at hc; repeat (have hn := hc.1; replace hc := hc.2)))) | (refine ACall.to (zg _) ?_))) <;> (try (conv => whnf))
  obtain ⟨N, hN⟩ : ∃ N : List Int, N = [x2, 0, 1, 2, 3, -1] := ⟨_, rfl⟩
  have hNr : ([.int .i64 x2, .int .i64 0, .int .i64 1, .int .i64 2, .int .i64 3, .int .i64 (-1)] : List AV) = iS .i64 N := by rw [hN]; rfl
  rw [hNr]
  have lN : (iS .i64 N).length = 6 := by rw [← hNr]; rfl
  have bN : ∀ x ∈ N, J64 x := fun x hx => by
   rw [hN] at hx
   simp only [List.mem_cons, List.not_mem_nil, or_false] at hx
   unfold J64
   omega
  clear hNr
  have lNN : N.length = 6 := by rw [hN]; rfl
  clear hN
  refine zT (σ := Nat) (6 :: 20 :: 21 :: 22 :: 23 :: 24 :: 25 :: 26 :: 27 :: 28 :: 29 :: 131 :: 132 :: 133 :: 134 :: 135 :: 136 :: 137 :: 138 :: 139 :: 140 :: 141 :: 142 :: 143 :: 144 :: 145 :: 146 :: 147 :: 148 :: 149 :: 150 :: 151 :: 152 :: 153 :: 154 :: 155 :: 156 :: 157 :: 158 :: 159 :: 160 :: 161 :: 162 :: 163 :: 164 :: 165 :: 166 :: 167 :: 168 :: 169 :: 170 :: 171 :: 172 :: 173 :: 174 :: 175 :: 176 :: 177 :: 178 :: 179 :: 180 :: 181 :: 182 :: 183 :: 184 :: 185 :: 186 :: 187 :: 188 :: 189 :: 190 :: 191 :: 192 :: 193 :: 194 :: 195 :: 196 :: 197 :: 198 :: 199 :: 200 :: 201 :: 202 :: 203 :: 204 :: 205 :: 206 :: 207 :: 208 :: 209 :: 210 :: 211 :: 212 :: []) (fun i => [(20, .int .i64 i)]) (fun _ => H0) (fun i => i ≤ 6) (fun i => 6 - i) 0 rfl (Nat.zero_le _) ⟨rfl, trivial⟩ (HLe.refl _) ?_
  clear hi hit
  intro i hi
  refine AWp.of zU (dok _) rfl ?_
  dsimp only at hi ⊢
  by_cases hit : i < 6
  ·have gN : (iS .i64 N)[(i : Int).toNat]? = some (.int .i64 (N.getD i 0)) := iS_get (by omega)
   have hk := bN (N.getD i 0) (getD_mem (by omega))
   unfold J64 at hk
   generalize N.getD i 0 = k at *
   by_cases hkb : k < 0 ∨ (n : Int) ≤ k
   ·have bb := bb k hkb
    (repeat' ((conv => whnf); first | refine Then.mk ?_ | left | refine zg ?_ (bb _) | refine zgg ?_ (bb _) | refine zd ?_ | (refine Both.mk ?_ ?_ <;> intro hc <;> try exact wX hc) | (intro c hc; (try (simp only [AH.zA] at hc; repeat (have hn := hc.1; replace hc := hc.2)))) | (refine ACall.to (bb _) ?_))) <;> (try (conv => whnf))
    all_goals exact ⟨i + 1, hit, by omega, ⟨congrArg (AV.int .i64) (by omega), trivial⟩, HLe.refl _⟩
   ·obtain ⟨j, rfl⟩ : ∃ j : Nat, k = j := ⟨k.toNat, by omega⟩
    have hj : j < n := by omega
    have bd := bd j hj
    have vc := vc j hj
    have ba := hwb j hj
    have hpk := hpk j hj
    have gP : (pvL PS)[((j : Int) + 1).toNat]? = some (.cs (u8s (bandP Z (bandL n P j))) (bandP Z (bandL n P j)).length) := by rw [show ((j : Int) + 1).toNat = j + 1 by omega]; exact pget _ _ hpk
    generalize bandL n P j = a at *
    have fw : ∀ H, ACall Tryz.prog 15 [.int .i64 16, .cs (iS .i64 a) 256] H (fun y H' => y = .tup [.cs (iS .i64 (coefL a)) 256, .int .i64 0] ∧ H' = H) := fun H => by
     have := Forward_ok 4 (by decide) a (by rw [ba.len]) ba.inA H
     unfold resV at this
     rw [ba.len] at this
     have e : (toL (2 ^ 4) (fwd 4 (ofL (2 ^ 4) a))).length = 256 := coefL_len a
     dsimp only at this
     rw [e] at this
     exact this
    have sm2 : ∀ H, ACall Tryz.prog 12 [.cs (iS .i64 a) 256, .cs (iS .i64 a) 256] H (fun y H' => y = .bool true ∧ H' = H) := fun H => by
     have := sameints_c a a (by rw [ba.len]; decide) (by rw [ba.len]; decide) H
     rw [decide_eq_true rfl, ba.len] at this
     exact this
    have hsI : I64L (sortL Z a) := sortL_ok hz ba
    have hsl := sortL_len hz a
    have ic := fun H => cInts_c (sortL Z a) hsI (by omega) H
    obtain ⟨hil, hi0⟩ := ints_len hsI (m := 256) (by omega) (by omega)
    unfold k_resV at ic
    rw [hi0, hsl] at ic
    have hbP : bandP Z a = (intsS (sortL Z a)).1 := rfl
    rw [hbP] at gP
    clear hbP hpk
    generalize (intsS (sortL Z a)).1 = C at *
    have hzl : (iS .i64 Z).length = 256 := by rw [iS_length]; exact hz.len
    have hcl : (iS .i64 (coefL a)).length = 256 := by rw [iS_length]; exact coefL_len a
    have e1 : IntKind.i64.wrap ((j : Int) + 1) = (j : Int) + 1 := by rw [IntKind.wrap_i64]; omega
    iterate 9 ((repeat' ((conv => whnf); first | left | refine zg ?_ (bd _) | refine zg ?_ (fw _) | refine zg ?_ (sm2 _) | refine zg ?_ (vc _) | refine zgg ?_ (bd _) | refine zgg ?_ (fw _) | refine zgg ?_ (sm2 _) | refine zgg ?_ (vc _) | refine zd ?_ | (refine Both.mk ?_ ?_ <;> intro hc <;> try exact wX hc) | (intro c hc; (try (simp only [AH.zA] at hc; repeat (have hn := hc.1; replace hc := hc.2)))) | (refine ACall.to (bd _) ?_) | (refine ACall.to (fw _) ?_) | (refine ACall.to (sm2 _) ?_) | (refine ACall.to (vc _) ?_))) <;> (try (conv => whnf)); refine Then.mk ?_)
    (repeat' ((conv => whnf); first | left | refine zd ?_ | (refine Both.mk ?_ ?_ <;> intro hc <;> try exact wX hc) | (intro c hc; (try (simp only [AH.zA] at hc; repeat (have hn := hc.1; replace hc := hc.2)))))) <;> (try (conv => whnf))
    refine Then.mk (AWq.in ?_)
    refine AWp_nilrow1 26 1 rfl rfl fun q hq => ?_
    refine AWp.of zU (dok _) rfl ?_
    (repeat' ((conv => whnf); first | refine Then.mk ?_ | left | refine zd ?_ | (refine Both.mk ?_ ?_ <;> intro hc <;> try exact wX hc) | (intro c hc; (try (simp only [AH.zA] at hc; repeat (have hn := hc.1; replace hc := hc.2)))))) <;> (try (conv => whnf))
    refine zT (σ := Nat) (26 :: 27 :: 181 :: 182 :: 183 :: 184 :: 185 :: 186 :: 187 :: 188 :: 189 :: 190 :: 191 :: 192 :: 193 :: 194 :: []) (fun i => [(27, .int .i64 i), (26, .sl q i 1 0 i none)]) (fun i => H0.set q (.row (iS .i64 ((sortL Z a).take i)) i)) (fun i => i ≤ 256) (fun i => 256 - i) 0 rfl (Nat.zero_le _) ⟨rfl, rfl, trivial⟩ (HLe.refl _) ?_
    intro m hm
    refine AWp.of zU (dok _) rfl ?_
    dsimp only at hm ⊢
    have gq := AH.zC H0 q (.row (iS .i64 ((sortL Z a).take m)) m)
    have lR : (iS .i64 ((sortL Z a).take m)).length = m := by rw [iS_length, List.length_take]; omega
    by_cases hmt : m < 256
    ·have hiz : m < Z.length := by rw [hz.len]; exact hmt
     have gz : (iS .i64 Z)[(m : Int).toNat]? = some (.int .i64 (Z.getD m 0)) := iS_get hiz
     have hb := hz.bd _ (getD_mem hiz)
     have gc : (iS .i64 (coefL a))[(Z.getD m 0).toNat]? = some (.int .i64 ((coefL a).getD (Z.getD m 0).toNat 0)) := iS_get (by rw [coefL_len]; omega)
     rw [← sortL_at a hiz] at gc
     have ht : iS .i64 ((sortL Z a).take (m + 1)) = iS .i64 ((sortL Z a).take m) ++ [.int .i64 ((sortL Z a).getD m 0)] := by
      rw [take_snoc (x := (sortL Z a).getD m 0) (by rw [List.getD_eq_getElem?_getD, List.getElem?_eq_getElem (by omega)]; rfl), ← iS_snoc]
     generalize iS .i64 ((sortL Z a).take m) = R at *
     generalize (sortL Z a).getD m 0 = v at *
     generalize Z.getD m 0 = z at *
     (repeat' ((conv => whnf); first | refine Then.mk ?_ | left | refine zd ?_ | (refine Both.mk ?_ ?_ <;> intro hc <;> try exact wX hc) | (intro c hc; (try (simp only [AH.zA] at hc; repeat (have hn := hc.1; replace hc := hc.2)))))) <;> (try (conv => whnf))
     exact ⟨m + 1, hmt, by omega, ⟨congrArg (AV.int .i64) (by omega), rfl, trivial⟩, HLe.of_eq (by rw [ht, AH.zS])⟩
    ·have hme : m = 256 := by omega
     subst hme
     rw [show (sortL Z a).take 256 = sortL Z a from List.take_of_length_le (by omega)] at gq lR ⊢
     (repeat' ((conv => whnf); first | left | refine zd ?_ | (refine Both.mk ?_ ?_ <;> intro hc <;> try exact wX hc) | (intro c hc; (try (simp only [AH.zA] at hc; repeat (have hn := hc.1; replace hc := hc.2)))))) <;> (try (conv => whnf))
     refine Then.mk ?_
     (repeat' ((conv => whnf); first | left | refine zd ?_ | (refine Both.mk ?_ ?_ <;> intro hc <;> try exact wX hc) | (intro c hc; (try (simp only [AH.zA] at hc; repeat (have hn := hc.1; replace hc := hc.2)))))) <;> (try (conv => whnf))
     refine Then.mk (AWq.in ?_)
     refine AWp_freeze1 26 rfl rfl gq (by omega) ?_
     rw [AH.del_set _ _ _ hq]
     refine AWp.of zU (dok _) rfl ?_
     have lC : (u8s C).length = C.length := by simp
     (repeat' ((conv => whnf); first | refine Then.mk ?_ | left | refine zg ?_ (ic _) | refine zgg ?_ (ic _) | refine zd ?_ | (refine Both.mk ?_ ?_ <;> intro hc <;> try exact wX hc) | (intro c hc; (try (simp only [AH.zA] at hc; repeat (have hn := hc.1; replace hc := hc.2)))) | (refine ACall.to (ic _) ?_))) <;> (try (conv => whnf))
     exact ⟨i + 1, hit, by omega, ⟨congrArg (AV.int .i64) (by omega), trivial⟩, HLe.refl _⟩
  ·have hie : i = 6 := by omega
   subst hie
   (repeat' ((conv => whnf); first | refine Then.mk ?_ | left | refine zg ?_ (ll _) | refine zgg ?_ (ll _) | refine zd ?_ | (refine Both.mk ?_ ?_ <;> intro hc <;> try exact wX hc) | (intro c hc; (try (simp only [AH.zA] at hc; repeat (have hn := hc.1; replace hc := hc.2)))) | (refine ACall.to (ll _) ?_))) <;> (try (conv => whnf))
end Go.Proofs.YtgpfmojlgejnhaaGreat
