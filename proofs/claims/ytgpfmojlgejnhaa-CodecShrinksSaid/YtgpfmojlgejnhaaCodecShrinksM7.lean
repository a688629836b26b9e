/- For the law CodecShrinks, part 7 of 8: the frame of the walk, the walks of the functions, the plain law, the row. No conditions. -/
import Derived.Test.YtgpfmojlgejnhaaCodecShrinksM6
/- The law CodecShrinks: the contract of the law's function. -/
namespace Go.Fw
open Go.RowKit
theorem Fr.cp {r v : Nat} {cells l m : List AV} (hl : m.length = l.length) (h : ∀ i (hi : i < l.length) (hj : i < m.length), Fr r v cells l[i] m[i]) : Fr r v cells (.cp l) (.cp m) := fun κ F F' x hF hs hx => by
  cases hx with
  | cp hFb hle hi => exact .cp (hF _ _ hFb) (by rw [hl]; exact hle) fun i hj => h i (by rw [← hl]; exact hj) hj κ F F' _ hF hs (hi i (by rw [← hl]; exact hj))
end Go.Fw
namespace Go.Proofs.Ytgpfmojlgejnhaa
open Go.Fw Go
set_option linter.unusedVariables false
set_option linter.unusedSimpArgs false
theorem well_tile {n : Nat} (hn : 1 ≤ n ∧ n ≤ 4) {L P : List Int} (w : Well n L P) : tileE n L P = 0 := by
 have h1 := w.l
 have h2 := w.p
 unfold tileE
 rw [if_neg (fun h => h (by unfold tForm; omega)), Int.toNat_natCast, if_pos w.ok]
theorem tile_well' {n : Nat} {L P : List Int} (h : tileE n L P = 0) : Well n L P := by
 obtain ⟨⟨-, t2, t3⟩, t4⟩ := tile_good h
 rw [Int.toNat_natCast] at t4
 exact ⟨t2, by omega, t4⟩
theorem band_const (n : Nat) {k : Nat} (hk : k < n) (v : Int) : bandL n (fnL (256 * n) fun _ => v) k = fnL 256 fun _ => v := fnL_congr fun i hi => getD_fnL _ (row_lt hi hk)
set_option maxRecDepth 8000 in
set_option maxHeartbeats 4000000 in
theorem CodecShrinks_c (l0 : List Int) (hl0 : l0.length ≤ maxLen) (hz0 : l0.length * 8 ≤ 140737488351232) (hr0 : ∀ n ∈ l0, -9223372036854775808 ≤ n ∧ n ≤ 9223372036854775807) (l1 : List Int) (hl1 : l1.length ≤ maxLen) (hz1 : l1.length * 8 ≤ 140737488351232) (hr1 : ∀ n ∈ l1, -9223372036854775808 ≤ n ∧ n ≤ 9223372036854775807) (x2 : Int) (hx2 : -9223372036854775808 ≤ x2 ∧ x2 ≤ 9223372036854775807) (x3 : Int) (hx3 : -9223372036854775808 ≤ x3 ∧ x3 ≤ 9223372036854775807) :
  ACall Try.prog 5 [.cs (iS .i64 l0) l0.length, .cs (iS .i64 l1) l1.length, .int .i64 x2, .int .i64 x3] (fun _ => none) (fun y _ => y = .bool true) := by
 obtain ⟨Z, hz, hzig⟩ := zg_ex
 have ta := fun H => tile_c l0 hr0 hl0 x2 hx2 H
 have tb := fun H => tile_c l1 hr1 hl1 x2 hx2 H
 have h3 := aro_lt (n := x2) (m := 3) (by decide)
 obtain ⟨n, hn⟩ : ∃ n, n = 1 + aro x2 3 := ⟨_, rfl⟩
 rw [← hn] at ta tb
 have wa := tile_well l0 (n := n) (by omega)
 have wb := tile_well l1 (n := n) (by omega)
 generalize fnL 256 (tlA l0) = La at *
 generalize fnL (256 * n) (tlB l0 n) = Pa at *
 generalize fnL 256 (tlA l1) = Lb at *
 generalize fnL (256 * n) (tlB l1 n) = Pb at *
 have hn4 : 1 ≤ n ∧ n ≤ 4 := by omega
 unfold tV at ta tb
 have hLa := wa.l
 have hPa := wa.p
 have hLb := wb.l
 have hPb := wb.p
 obtain ⟨T, hT⟩ : ∃ T : Nat → Tl, T = fun q => if q = 1 then ⟨n, Lb, Pb⟩ else if q = 2 then Tl.zero else ⟨n, La, Pa⟩ := ⟨_, rfl⟩
 have hfa : Tl.Fit ⟨n, La, Pa⟩ := ⟨by unfold J64; dsimp only; omega, by dsimp only; omega, by dsimp only; omega⟩
 have hfb : Tl.Fit ⟨n, Lb, Pb⟩ := ⟨by unfold J64; dsimp only; omega, by dsimp only; omega, by dsimp only; omega⟩
 have hga : goodT n ⟨n, La, Pa⟩ := .inr ⟨well_tile hn4 wa, rfl⟩
 have hgb : goodT n ⟨n, Lb, Pb⟩ := .inr ⟨well_tile hn4 wb, rfl⟩
 have hTf : ∀ q, q < 4 → (T q).Fit := fun q _ => by
  rw [hT]; dsimp only
  by_cases h1 : q = 1
  ·rw [if_pos h1]; exact hfb
  ·rw [if_neg h1]
   by_cases h2 : q = 2
   ·rw [if_pos h2]; exact zero_fit
   ·rw [if_neg h2]; exact hfa
 have hTg : ∀ q, q < 4 → goodT n (T q) := fun q _ => by
  rw [hT]; dsimp only
  by_cases h1 : q = 1
  ·rw [if_pos h1]; exact hgb
  ·rw [if_neg h1]
   by_cases h2 : q = 2
   ·rw [if_pos h2]; exact .inl rfl
   ·rw [if_neg h2]; exact hga
 have hRF : rowF T = [.int .i64 n, .cs (iS .i64 La) La.length, .cs (iS .i64 Pa) Pa.length, .int .i64 n, .cs (iS .i64 Lb) Lb.length, .cs (iS .i64 Pb) Pb.length] ++ Tl.zero.cells ++ [.int .i64 n, .cs (iS .i64 La) La.length, .cs (iS .i64 Pa) Pa.length] := by rw [hT]; rfl
 have sh : ∀ H, ACall Try.prog 27 [.int .i64 n, .agg ([.int .i64 n, .cs (iS .i64 La) La.length, .cs (iS .i64 Pa) Pa.length, .int .i64 n, .cs (iS .i64 Lb) Lb.length, .cs (iS .i64 Pb) Pb.length] ++ [.int .i64 0, .nils, .nils] ++ [.int .i64 n, .cs (iS .i64 La) La.length, .cs (iS .i64 Pa) Pa.length])] H
   (fun z H' => z = .tup [tV n (shLL T) (shPP n T), .int .i64 0] ∧ H' = H) := fun H => by
  refine ACall.args (AVles.cons (AVle.refl _) (AVles.cons (AVle.agg (zat _ _)) AVles.nil)) ?_
  rw [← hRF]
  exact shrink_ok n (by omega) T hTf hTg H
 have wc := tile_well' (shrink_tile hn4 hTg)
 have hLc := wc.l
 have hPc := wc.p
 unfold tV at sh
 generalize shLL T = Lc at *
 generalize shPP n T = Pc at *
 clear hRF hTf hTg hT hfa hfb hga hgb
 have en := fun H => encode_ok hz hzig n hn4 Lc Pc wc H
 have de := fun H => Decode_ok hz hzig hn4 wc.semi (well_tile hn4 wc) H
 have eq := fun H => Equal_t n Lc Pc (by omega) (by omega) H
 rw [hLa, hPa] at ta sh
 rw [hLb, hPb] at tb sh
 rw [hLc, hPc] at sh eq
 simp only [List.cons_append, List.nil_append] at sh
 have av := fun H => around_f x3 hx3.1 hx3.2 65536 (by decide) (by decide) H
 have hv := aro_lt (n := x3) (m := 65536) (by decide)
 generalize aro x3 65536 = v at *
 have w2 := one_well n (l := 0) (v := v) (by omega) (by omega)
 have en2 := fun H => encode_ok hz hzig n hn4 _ _ w2 H
 have th := fun t (ht : J64 t) H => Thumb_t hz hzig hn4 w2 H (k := n - 1) (by omega) t ht
 rw [band_const n (by omega) (v : Int)] at th
 have hlow := fun j (hj : j ≤ 4) => low_same (v := (v : Int)) (by omega) hj
 generalize packT Z n Lc Pc = B at *
 generalize packT Z n (fnL 256 fun _ => 0) (fnL (256 * n) fun _ => (v : Int)) = B2 at *
 generalize iS .i64 La = RLa at *
 generalize iS .i64 Pa = RPa at *
 generalize iS .i64 Lb = RLb at *
 generalize iS .i64 Pb = RPb at *
 generalize iS .i64 Lc = RLc at *
 generalize iS .i64 Pc = RPc at *
 generalize (fun _ => none : AH) = H0
 refine zQ zU (dok _) Try.func5 rfl (by decide) rfl ?_
 (repeat' ((conv => whnf); first | left | refine OpsA.zD ?_ | refine OpsA.zE ?_ | refine AWq.zI ?_ | refine AWq.zB ?_ | refine AWq.zG ?_ | refine AWq.zF ?_ | refine AWq.zH ?_ | refine AWq.ret ?_ | refine AWq.zK ?_ | refine AWq.zJ ?_ | refine DrawA.zM ?_ | refine DrawA.zN ?_ | refine AWq.zO (by decide +kernel) ?_ | (refine Both.mk ?_ ?_ <;> intro hc <;> (first | exact Bool.noConfusion hc | exact absurd (by with_reducible rfl) hc | (exfalso; omega) | skip)) | (intro c hc; (try (simp only [AH.zA] at hc; repeat (have hn := hc.1; replace hc := hc.2))); (first | (have hc2 := Eq.trans hc (by with_reducible assumption); clear hc; subst hc2) | (refine zP hc ?_ ?_ ?_ ; omega; omega; (clear hc; intro hc; subst hc)) | skip)) | (apply Exists.intro; apply And.intro; (first | (focus (repeat (first | (with_reducible assumption) | (with_reducible exact AH.zC _ _ _) | ((first | refine AH.zL ?_ ?_); (first | (with_reducible assumption))))); done))) | (apply Exists.intro; apply And.intro; first | (with_reducible assumption) | ((try simp only [zW, z0z, zZ, zY]); first | (with_reducible assumption) | rfl)) | (apply Exists.intro; apply And.intro; (focus (intro G; ((conv => whnf); (try left); (conv => whnf); first | exact And.intro rfl rfl)))) | (apply And.intro; (first | rfl | (with_reducible assumption) | exact zX rfl | omega | (simp <;> omega))))) <;> (try (conv => whnf))
 refine Then.mk ?_
 (repeat' ((conv => whnf); first | left | refine OpsA.zD ?_ | refine OpsA.zE ?_ | refine AWq.zI ?_ | refine AWq.zB ?_ | refine AWq.zG ?_ | refine AWq.zF ?_ | refine AWq.zH ?_ | refine AWq.ret ?_ | refine AWq.zK ?_ | refine AWq.zJ ?_ | refine DrawA.zM ?_ | refine DrawA.zN ?_ | refine AWq.zO (by decide +kernel) ?_ | (refine Both.mk ?_ ?_ <;> intro hc <;> (first | exact Bool.noConfusion hc | exact absurd (by with_reducible rfl) hc | (exfalso; omega) | skip)) | (intro c hc; (try (simp only [AH.zA] at hc; repeat (have hn := hc.1; replace hc := hc.2))); (first | (have hc2 := Eq.trans hc (by with_reducible assumption); clear hc; subst hc2) | (refine zP hc ?_ ?_ ?_ ; omega; omega; (clear hc; intro hc; subst hc)) | skip)) | (apply Exists.intro; apply And.intro; (first | (focus (repeat (first | (with_reducible assumption) | (with_reducible exact AH.zC _ _ _) | ((first | refine AH.zL ?_ ?_); (first | (with_reducible assumption))))); done))) | (apply Exists.intro; apply And.intro; first | (with_reducible assumption) | ((try simp only [zW, z0z, zZ, zY]); first | (with_reducible assumption) | rfl)) | (apply Exists.intro; apply And.intro; (focus (intro G; ((conv => whnf); (try left); (conv => whnf); first | exact And.intro rfl rfl)))) | (apply And.intro; (first | rfl | (with_reducible assumption) | exact zX rfl | omega | (simp <;> omega))) | (refine ACall.to (ta _) ?_))) <;> (try (conv => whnf))
 refine Then.mk (AWq.in ?_)
 refine AWp_segP 9 [.int .i64 n, .cs RLa 256, .cs RPa (256 * n)] rfl rfl (by assumption) rfl rfl ?_
 refine AWp.of zU (dok _) rfl ?_
 (repeat' ((conv => whnf); first | left | refine OpsA.zD ?_ | refine OpsA.zE ?_ | refine AWq.zI ?_ | refine AWq.zB ?_ | refine AWq.zG ?_ | refine AWq.zF ?_ | refine AWq.zH ?_ | refine AWq.ret ?_ | refine AWq.zK ?_ | refine AWq.zJ ?_ | refine DrawA.zM ?_ | refine DrawA.zN ?_ | refine AWq.zO (by decide +kernel) ?_ | (refine Both.mk ?_ ?_ <;> intro hc <;> (first | exact Bool.noConfusion hc | exact absurd (by with_reducible rfl) hc | (exfalso; omega) | skip)) | (intro c hc; (try (simp only [AH.zA] at hc; repeat (have hn := hc.1; replace hc := hc.2))); (first | (have hc2 := Eq.trans hc (by with_reducible assumption); clear hc; subst hc2) | (refine zP hc ?_ ?_ ?_ ; omega; omega; (clear hc; intro hc; subst hc)) | skip)) | (apply Exists.intro; apply And.intro; (first | (focus (repeat (first | (with_reducible assumption) | (with_reducible exact AH.zC _ _ _) | ((first | refine AH.zL ?_ ?_); (first | (with_reducible assumption))))); done))) | (apply Exists.intro; apply And.intro; first | (with_reducible assumption) | ((try simp only [zW, z0z, zZ, zY]); first | (with_reducible assumption) | rfl)) | (apply Exists.intro; apply And.intro; (focus (intro G; ((conv => whnf); (try left); (conv => whnf); first | exact And.intro rfl rfl)))) | (apply And.intro; (first | rfl | (with_reducible assumption) | exact zX rfl | omega | (simp <;> omega))) | (refine ACall.to (tb _) ?_))) <;> (try (conv => whnf))
 refine Then.mk (AWq.in ?_)
 refine AWp_segP 10 [.int .i64 n, .cs RLb 256, .cs RPb (256 * n)] rfl rfl (by assumption) rfl rfl ?_
 refine AWp.of zU (dok _) rfl ?_
 (repeat' ((conv => whnf); first | left | refine OpsA.zD ?_ | refine OpsA.zE ?_ | refine AWq.zI ?_ | refine AWq.zB ?_ | refine AWq.zG ?_ | refine AWq.zF ?_ | refine AWq.zH ?_ | refine AWq.ret ?_ | refine AWq.zK ?_ | refine AWq.zJ ?_ | refine DrawA.zM ?_ | refine DrawA.zN ?_ | refine AWq.zO (by decide +kernel) ?_ | (refine Both.mk ?_ ?_ <;> intro hc <;> (first | exact Bool.noConfusion hc | exact absurd (by with_reducible rfl) hc | (exfalso; omega) | skip)) | (intro c hc; (try (simp only [AH.zA] at hc; repeat (have hn := hc.1; replace hc := hc.2))); (first | (have hc2 := Eq.trans hc (by with_reducible assumption); clear hc; subst hc2) | (refine zP hc ?_ ?_ ?_ ; omega; omega; (clear hc; intro hc; subst hc)) | skip)) | (apply Exists.intro; apply And.intro; (first | (focus (repeat (first | (with_reducible assumption) | (with_reducible exact AH.zC _ _ _) | ((first | refine AH.zL ?_ ?_); (first | (with_reducible assumption))))); done))) | (apply Exists.intro; apply And.intro; first | (with_reducible assumption) | ((try simp only [zW, z0z, zZ, zY]); first | (with_reducible assumption) | rfl)) | (apply Exists.intro; apply And.intro; (focus (intro G; ((conv => whnf); (try left); (conv => whnf); first | exact And.intro rfl rfl)))) | (apply And.intro; (first | rfl | (with_reducible assumption) | exact zX rfl | omega | (simp <;> omega))) | (refine ACall.to (sh _) ?_))) <;> (try (conv => whnf))
 refine Then.mk (AWq.in ?_)
 refine AWp_segP 11 [.int .i64 n, .cs RLc 256, .cs RPc (256 * n)] rfl rfl (by assumption) rfl rfl ?_
 refine AWp.of zU (dok _) rfl ?_
 (repeat' ((conv => whnf); first | left | refine OpsA.zD ?_ | refine OpsA.zE ?_ | refine AWq.zI ?_ | refine AWq.zB ?_ | refine AWq.zG ?_ | refine AWq.zF ?_ | refine AWq.zH ?_ | refine AWq.ret ?_ | refine AWq.zK ?_ | refine AWq.zJ ?_ | refine DrawA.zM ?_ | refine DrawA.zN ?_ | refine AWq.zO (by decide +kernel) ?_ | (refine Both.mk ?_ ?_ <;> intro hc <;> (first | exact Bool.noConfusion hc | exact absurd (by with_reducible rfl) hc | (exfalso; omega) | skip)) | (intro c hc; (try (simp only [AH.zA] at hc; repeat (have hn := hc.1; replace hc := hc.2))); (first | (have hc2 := Eq.trans hc (by with_reducible assumption); clear hc; subst hc2) | (refine zP hc ?_ ?_ ?_ ; omega; omega; (clear hc; intro hc; subst hc)) | skip)) | (apply Exists.intro; apply And.intro; (first | (focus (repeat (first | (with_reducible assumption) | (with_reducible exact AH.zC _ _ _) | ((first | refine AH.zL ?_ ?_); (first | (with_reducible assumption))))); done))) | (apply Exists.intro; apply And.intro; first | (with_reducible assumption) | ((try simp only [zW, z0z, zZ, zY]); first | (with_reducible assumption) | rfl)) | (apply Exists.intro; apply And.intro; (focus (intro G; ((conv => whnf); (try left); (conv => whnf); first | exact And.intro rfl rfl)))) | (apply And.intro; (first | rfl | (with_reducible assumption) | exact zX rfl | omega | (simp <;> omega))) | (refine ACall.to (en _) ?_))) <;> (try (conv => whnf))
 refine Then.mk ?_
 (repeat' ((conv => whnf); first | left | refine OpsA.zD ?_ | refine OpsA.zE ?_ | refine AWq.zI ?_ | refine AWq.zB ?_ | refine AWq.zG ?_ | refine AWq.zF ?_ | refine AWq.zH ?_ | refine AWq.ret ?_ | refine AWq.zK ?_ | refine AWq.zJ ?_ | refine DrawA.zM ?_ | refine DrawA.zN ?_ | refine AWq.zO (by decide +kernel) ?_ | (refine Both.mk ?_ ?_ <;> intro hc <;> (first | exact Bool.noConfusion hc | exact absurd (by with_reducible rfl) hc | (exfalso; omega) | skip)) | (intro c hc; (try (simp only [AH.zA] at hc; repeat (have hn := hc.1; replace hc := hc.2))); (first | (have hc2 := Eq.trans hc (by with_reducible assumption); clear hc; subst hc2) | (refine zP hc ?_ ?_ ?_ ; omega; omega; (clear hc; intro hc; subst hc)) | skip)) | (apply Exists.intro; apply And.intro; (first | (focus (repeat (first | (with_reducible assumption) | (with_reducible exact AH.zC _ _ _) | ((first | refine AH.zL ?_ ?_); (first | (with_reducible assumption))))); done))) | (apply Exists.intro; apply And.intro; first | (with_reducible assumption) | ((try simp only [zW, z0z, zZ, zY]); first | (with_reducible assumption) | rfl)) | (apply Exists.intro; apply And.intro; (focus (intro G; ((conv => whnf); (try left); (conv => whnf); first | exact And.intro rfl rfl)))) | (apply And.intro; (first | rfl | (with_reducible assumption) | exact zX rfl | omega | (simp <;> omega))) | (refine ACall.to (de _) ?_))) <;> (try (conv => whnf))
 refine Then.mk (AWq.in ?_)
 refine AWp_segP 15 [.int .i64 n, .cs RLc 256, .cs RPc (256 * n)] rfl rfl (by assumption) rfl rfl ?_
 refine AWp.of zU (dok _) rfl ?_
 (repeat' ((conv => whnf); first | left | refine OpsA.zD ?_ | refine OpsA.zE ?_ | refine AWq.zI ?_ | refine AWq.zB ?_ | refine AWq.zG ?_ | refine AWq.zF ?_ | refine AWq.zH ?_ | refine AWq.ret ?_ | refine AWq.zK ?_ | refine AWq.zJ ?_ | refine DrawA.zM ?_ | refine DrawA.zN ?_ | refine AWq.zO (by decide +kernel) ?_ | (refine Both.mk ?_ ?_ <;> intro hc <;> (first | exact Bool.noConfusion hc | exact absurd (by with_reducible rfl) hc | (exfalso; omega) | skip)) | (intro c hc; (try (simp only [AH.zA] at hc; repeat (have hn := hc.1; replace hc := hc.2))); (first | (have hc2 := Eq.trans hc (by with_reducible assumption); clear hc; subst hc2) | (refine zP hc ?_ ?_ ?_ ; omega; omega; (clear hc; intro hc; subst hc)) | skip)) | (apply Exists.intro; apply And.intro; (first | (focus (repeat (first | (with_reducible assumption) | (with_reducible exact AH.zC _ _ _) | ((first | refine AH.zL ?_ ?_); (first | (with_reducible assumption))))); done))) | (apply Exists.intro; apply And.intro; first | (with_reducible assumption) | ((try simp only [zW, z0z, zZ, zY]); first | (with_reducible assumption) | rfl)) | (apply Exists.intro; apply And.intro; (focus (intro G; ((conv => whnf); (try left); (conv => whnf); first | exact And.intro rfl rfl)))) | (apply And.intro; (first | rfl | (with_reducible assumption) | exact zX rfl | omega | (simp <;> omega))) | (refine ACall.to (eq _) ?_))) <;> (try (conv => whnf))
 refine Then.mk ?_
 (repeat' ((conv => whnf); first | left | refine OpsA.zD ?_ | refine OpsA.zE ?_ | refine AWq.zI ?_ | refine AWq.zB ?_ | refine AWq.zG ?_ | refine AWq.zF ?_ | refine AWq.zH ?_ | refine AWq.ret ?_ | refine AWq.zK ?_ | refine AWq.zJ ?_ | refine DrawA.zM ?_ | refine DrawA.zN ?_ | refine AWq.zO (by decide +kernel) ?_ | (refine Both.mk ?_ ?_ <;> intro hc <;> (first | exact Bool.noConfusion hc | exact absurd (by with_reducible rfl) hc | (exfalso; omega) | skip)) | (intro c hc; (try (simp only [AH.zA] at hc; repeat (have hn := hc.1; replace hc := hc.2))); (first | (have hc2 := Eq.trans hc (by with_reducible assumption); clear hc; subst hc2) | (refine zP hc ?_ ?_ ?_ ; omega; omega; (clear hc; intro hc; subst hc)) | skip)) | (apply Exists.intro; apply And.intro; (first | (focus (repeat (first | (with_reducible assumption) | (with_reducible exact AH.zC _ _ _) | ((first | refine AH.zL ?_ ?_); (first | (with_reducible assumption))))); done))) | (apply Exists.intro; apply And.intro; first | (with_reducible assumption) | ((try simp only [zW, z0z, zZ, zY]); first | (with_reducible assumption) | rfl)) | (apply Exists.intro; apply And.intro; (focus (intro G; ((conv => whnf); (try left); (conv => whnf); first | exact And.intro rfl rfl)))) | (apply And.intro; (first | rfl | (with_reducible assumption) | exact zX rfl | omega | (simp <;> omega))))) <;> (try (conv => whnf))
 refine Then.mk ?_
 (repeat' ((conv => whnf); first | left | refine OpsA.zD ?_ | refine OpsA.zE ?_ | refine AWq.zI ?_ | refine AWq.zB ?_ | refine AWq.zG ?_ | refine AWq.zF ?_ | refine AWq.zH ?_ | refine AWq.ret ?_ | refine AWq.zK ?_ | refine AWq.zJ ?_ | refine DrawA.zM ?_ | refine DrawA.zN ?_ | refine AWq.zO (by decide +kernel) ?_ | (refine Both.mk ?_ ?_ <;> intro hc <;> (first | exact Bool.noConfusion hc | exact absurd (by with_reducible rfl) hc | (exfalso; omega) | skip)) | (intro c hc; (try (simp only [AH.zA] at hc; repeat (have hn := hc.1; replace hc := hc.2))); (first | (have hc2 := Eq.trans hc (by with_reducible assumption); clear hc; subst hc2) | (refine zP hc ?_ ?_ ?_ ; omega; omega; (clear hc; intro hc; subst hc)) | skip)) | (apply Exists.intro; apply And.intro; (first | (focus (repeat (first | (with_reducible assumption) | (with_reducible exact AH.zC _ _ _) | ((first | refine AH.zL ?_ ?_); (first | (with_reducible assumption))))); done))) | (apply Exists.intro; apply And.intro; first | (with_reducible assumption) | ((try simp only [zW, z0z, zZ, zY]); first | (with_reducible assumption) | rfl)) | (apply Exists.intro; apply And.intro; (focus (intro G; ((conv => whnf); (try left); (conv => whnf); first | exact And.intro rfl rfl)))) | (apply And.intro; (first | rfl | (with_reducible assumption) | exact zX rfl | omega | (simp <;> omega))) | (refine ACall.to (av _) ?_))) <;> (try (conv => whnf))
 refine Then.mk (AWq.in ?_)
 refine AWp_spare fun t2 ht2 => ?_
 refine AWp_spare fun q1 hq1 => ?_
 refine AWp_spare fun q2 hq2 => ?_
 refine AWp.of zU (dok _) rfl ?_
 obtain ⟨nm, k0, k1, k2⟩ : ∃ nm : Nat → Nat, nm 0 = t2 ∧ nm 1 = q1 ∧ nm 2 = q2 := ⟨fun k => if k = 0 then t2 else if k = 1 then q1 else q2, rfl, rfl, rfl⟩
 subst k0 k1 k2
 have n10 : nm 1 ≠ nm 0 := (AH.none_set hq1).1
 have n21 : nm 2 ≠ nm 1 := (AH.none_set hq2).1
 have n20 : nm 2 ≠ nm 0 := (AH.none_set (AH.none_set hq2).2).1
 have n01 := Ne.symm n10
 have n12 := Ne.symm n21
 have n02 := Ne.symm n20
 (repeat' ((conv => whnf); first | refine Then.mk ?_ | left | refine OpsA.zD ?_ | refine OpsA.zE ?_ | refine AWq.zI ?_ | refine AWq.zB ?_ | refine AWq.zG ?_ | refine AWq.zF ?_ | refine AWq.zH ?_ | refine AWq.ret ?_ | refine AWq.zK ?_ | refine AWq.zJ ?_ | refine DrawA.zM ?_ | refine DrawA.zN ?_ | (refine Both.mk ?_ ?_ <;> intro hc <;> (first | exact Bool.noConfusion hc | exact absurd (by with_reducible rfl) hc | (exfalso; omega) | skip)) | (intro c hc; (try (simp only [AH.zA] at hc; repeat (have hn := hc.1; replace hc := hc.2))); (first | (have hc2 := Eq.trans hc (by with_reducible assumption); clear hc; subst hc2) | (refine zP hc ?_ ?_ ?_ ; omega; omega; (clear hc; intro hc; subst hc)) | skip)) | (apply Exists.intro; apply And.intro; (first | (focus (repeat (first | (with_reducible assumption) | (with_reducible exact AH.zC _ _ _) | ((first | refine AH.zL ?_ ?_); (first | (with_reducible assumption))))); done))) | (apply Exists.intro; apply And.intro; first | (with_reducible assumption) | ((try simp only [zW, z0z, zZ, zY]); first | (with_reducible assumption) | rfl)) | (apply Exists.intro; apply And.intro; (focus (intro G; ((conv => whnf); (try left); (conv => whnf); first | exact And.intro rfl rfl)))) | (apply And.intro; (first | rfl | (with_reducible assumption) | exact zX rfl | omega | (simp <;> omega))))) <;> (try (conv => whnf))
 refine AWq.drawK mo [(18, 0), (74, 1), (78, 2)] nm ?_ (by decide +kernel) ?_
 ·intro a b ha hb hab
  simp at ha hb
  rcases ha with rfl | rfl | rfl <;> rcases hb with rfl | rfl | rfl <;> first | rfl | exact absurd hab n10 | exact absurd hab (Ne.symm n10) | exact absurd hab n21 | exact absurd hab (Ne.symm n21) | exact absurd hab n20 | exact absurd hab (Ne.symm n20)
 (repeat' ((conv => whnf); first | refine DrawK.consD ?_ | refine DrawK.nil ?_ | refine Then.mk ?_ | refine OpsA.zD ?_ | refine OpsA.zE ?_ | refine AWq.zI ?_ | refine AWq.zB ?_ | refine AWq.zG ?_ | refine AWq.zF ?_ | refine AWq.zH ?_ | refine AWq.ret ?_ | refine AWq.zK ?_ | refine AWq.zJ ?_ | refine DrawA.zM ?_ | refine DrawA.zN ?_ | refine AWq.zO (by decide +kernel) ?_ | (refine Both.mk ?_ ?_ <;> intro hc <;> (first | exact Bool.noConfusion hc | exact absurd (by with_reducible rfl) hc | (exfalso; omega) | skip)) | (intro c hc; (try (simp only [AH.zA] at hc; repeat (have hn := hc.1; replace hc := hc.2))); (first | (have hc2 := Eq.trans hc (by with_reducible assumption); clear hc; subst hc2) | (refine zP hc ?_ ?_ ?_ ; omega; omega; (clear hc; intro hc; subst hc)) | skip)) | (apply Exists.intro; apply And.intro; (first | (focus (repeat (first | (with_reducible assumption) | (with_reducible exact AH.zC _ _ _) | ((first | refine AH.zL ?_ ?_); (first | (with_reducible assumption))))); done))) | (apply Exists.intro; apply And.intro; first | (with_reducible assumption) | ((try simp only [zW, z0z, zZ, zY]); first | (with_reducible assumption) | rfl)) | (apply Exists.intro; apply And.intro; (focus (intro G; ((conv => whnf); (try left); (conv => whnf); first | exact And.intro rfl rfl)))) | (apply And.intro; (first | rfl | (with_reducible assumption) | exact zX rfl | omega | (simp <;> omega))) | (refine ACall.to (av _) ?_))) <;> (try (conv => whnf))
 refine Or.inr ⟨(List.replicate (256 : Int).toNat [AV.int .i64 0]).flatten, (256 : Int).toNat, 1, rfl, fun G => ?_, ?_⟩
 ·exact ⟨by omega, Int.le_refl _, by omega, fun r hr => ⟨r, hr, rfl, rfl⟩⟩
 have e2 : IntKind.i64.wrap (256 * (n : Int)) = 256 * (n : Int) := by rw [IntKind.wrap_i64]; omega
 (repeat' ((conv => whnf); first | refine DrawK.consD ?_ | refine DrawK.nil ?_ | refine Then.mk ?_ | refine OpsA.zD ?_ | refine OpsA.zE ?_ | refine AWq.zI ?_ | refine AWq.zB ?_ | refine AWq.zG ?_ | refine AWq.zF ?_ | refine AWq.zH ?_ | refine AWq.ret ?_ | refine AWq.zK ?_ | refine AWq.zJ ?_ | refine DrawA.zM ?_ | refine DrawA.zN ?_ | refine AWq.zO (by decide +kernel) ?_ | (refine Both.mk ?_ ?_ <;> intro hc <;> (first | exact Bool.noConfusion hc | exact absurd (by with_reducible rfl) hc | (exfalso; omega) | skip)) | (intro c hc; (try (simp only [AH.zA] at hc; repeat (have hn := hc.1; replace hc := hc.2))); (first | (have hc2 := Eq.trans hc (by with_reducible assumption); clear hc; subst hc2) | (refine zP hc ?_ ?_ ?_ ; omega; omega; (clear hc; intro hc; subst hc)) | skip)) | (apply Exists.intro; apply And.intro; (first | (focus (repeat (first | (with_reducible assumption) | (with_reducible exact AH.zC _ _ _) | ((first | refine AH.zL ?_ ?_); (first | (with_reducible assumption))))); done))) | (apply Exists.intro; apply And.intro; first | (with_reducible assumption) | ((try simp only [zW, z0z, zZ, zY]); first | (with_reducible assumption) | rfl)) | (apply Exists.intro; apply And.intro; (focus (intro G; ((conv => whnf); (try left); (conv => whnf); first | exact And.intro rfl rfl)))) | (apply And.intro; (first | rfl | (with_reducible assumption) | exact zX rfl | omega | (simp <;> omega))) | (refine ACall.to (av _) ?_))) <;> (try (conv => whnf))
 refine Or.inr ⟨(List.replicate (256 * (n : Int)).toNat [AV.int .i64 0]).flatten, (256 * (n : Int)).toNat, 1, rfl, fun G => ?_, ?_⟩
 ·exact ⟨by omega, Int.le_refl _, by omega, fun r hr => ⟨r, hr, rfl, rfl⟩⟩
 rw [show (256 * (n : Int)).toNat = 256 * n by omega, show (List.replicate (256 * n) [AV.int .i64 0]).flatten = iS .i64 (fnL (256 * n) fun _ => 0) from dL_zero _, show (List.replicate (256 : Int).toNat [AV.int .i64 0]).flatten = iS .i64 (fnL 256 fun _ => 0) from dL_zero 256]
 (repeat' ((conv => whnf); first | refine DrawK.consD ?_ | refine DrawK.nil ?_ | left | refine OpsA.zD ?_ | refine OpsA.zE ?_ | refine AWq.zI ?_ | refine AWq.zB ?_ | refine AWq.zG ?_ | refine AWq.zF ?_ | refine AWq.zH ?_ | refine AWq.ret ?_ | refine AWq.zK ?_ | refine AWq.zJ ?_ | refine DrawA.zM ?_ | refine DrawA.zN ?_ | refine AWq.zO (by decide +kernel) ?_ | (refine Both.mk ?_ ?_ <;> intro hc <;> (first | exact Bool.noConfusion hc | exact absurd (by with_reducible rfl) hc | (exfalso; omega) | skip)) | (intro c hc; (try (simp only [AH.zA] at hc; repeat (have hn := hc.1; replace hc := hc.2))); (first | (have hc2 := Eq.trans hc (by with_reducible assumption); clear hc; subst hc2) | (refine zP hc ?_ ?_ ?_ ; omega; omega; (clear hc; intro hc; subst hc)) | skip)) | (apply Exists.intro; apply And.intro; (first | (focus (repeat (first | (with_reducible assumption) | (with_reducible exact AH.zC _ _ _) | ((first | refine AH.zL ?_ ?_); (first | (with_reducible assumption))))); done))) | (apply Exists.intro; apply And.intro; first | (with_reducible assumption) | ((try simp only [zW, z0z, zZ, zY]); first | (with_reducible assumption) | rfl)) | (apply Exists.intro; apply And.intro; (focus (intro G; ((conv => whnf); (try left); (conv => whnf); first | exact And.intro rfl rfl)))) | (apply And.intro; (first | rfl | (with_reducible assumption) | exact zX rfl | omega | (simp <;> omega))))) <;> (try (conv => whnf))
 have hq1' : H0 (nm 1) = none := (AH.none_set hq1).2
 have hq2' : H0 (nm 2) = none := (AH.none_set (AH.none_set hq2).2).2
 refine Then.mk (AWq.in ?_)
 refine AWp_freezeP (cells := [.int .i64 n, .sl (nm 1) 1 1 0 256 none, .sl (nm 2) 1 1 0 (256 * n) none]) 18 rfl rfl (by repeat (first | exact AH.zC _ _ _ | rw [AH.zR _ _ n01] | rw [AH.zR _ _ n02])) ?_
 refine AWp_less ((AH.set H0 (nm 1) (.row (iS .i64 (fnL 256 fun _ => 0)) 1)).set (nm 2) (.row (iS .i64 (fnL (256 * n) fun _ => 0)) 1)) ⟨fun r x hr => ?_⟩ ?_
 ·by_cases e2 : r = nm 2
  ·subst e2
   rw [AH.zC] at hr
   rw [AH.del_ne _ n20]
   repeat (first | exact hr | rw [AH.zC] | rw [AH.zR _ _ n20] | rw [AH.zR _ _ n21])
  ·rw [AH.zR _ _ e2] at hr
   by_cases e1 : r = nm 1
   ·subst e1
    rw [AH.zC] at hr
    rw [AH.del_ne _ n10]
    repeat (first | exact hr | rw [AH.zC] | rw [AH.zR _ _ n10] | rw [AH.zR _ _ n12])
   ·rw [AH.zR _ _ e1] at hr
    have e0 : r ≠ nm 0 := fun e => by rw [e, ht2] at hr; cases hr
    rw [AH.del_ne _ e0]
    repeat (first | exact hr | rw [AH.zR _ _ e0] | rw [AH.zR _ _ e1] | rw [AH.zR _ _ e2])
 refine AWp_freezeIn 18 rfl rfl (show ((AH.set H0 (nm 1) (.row (iS .i64 (fnL 256 fun _ => 0)) 1)).set (nm 2) (.row (iS .i64 (fnL (256 * n) fun _ => 0)) 1)) (nm 1) = some (.row (iS .i64 (fnL 256 fun _ => 0)) 1) by rw [AH.zR _ _ n12, AH.zC]) (a' := .cp [.int .i64 n, .cs (iS .i64 (fnL 256 fun _ => 0)) 256, .sl (nm 2) 1 1 0 (256 * n) none]) (Fr.cp rfl fun i hi hj => ?_) ?_
 ·match i, hi with
  | 0, _ => exact Fr.refl _
  | 1, _ => exact Fr.sl (by simp)
  | 2, _ => exact Fr.refl _
 generalize hq : nm 2 = q at *
 refine AWp_less (AH.set H0 q (.row (iS .i64 (fnL (256 * n) fun _ => 0)) 1)) (HLe.of_eq (by rw [AH.set_comm _ _ _ n12, AH.del_set _ _ _ (by rw [AH.zR _ _ n12]; exact hq1')])) ?_
 clear ht2 hq1 hq2 n10 n21 n20 n01 n12 n02 hq
 refine AWp.of zU (dok _) rfl ?_
 obtain ⟨Q, hQ⟩ : ∃ Q : Nat → List Int, ∀ i, Q i = fnL (256 * n) fun j => if j < i then (v : Int) else 0 := ⟨_, fun _ => rfl⟩
 have hQ0 : (fnL (256 * n) fun _ => (0 : Int)) = Q 0 := by rw [hQ]; exact fnL_congr fun j hj => by rw [if_neg (by omega)]
 have hQl : ∀ i, (iS .i64 (Q i)).length = 256 * n := fun i => by rw [iS_length, hQ, fnL_len]
 have hQe : Q (256 * n) = fnL (256 * n) fun _ => (v : Int) := by rw [hQ]; exact fnL_congr fun j hj => if_pos hj
 have hQs : ∀ i, i < 256 * n → wrA (iS .i64 (Q i)) (0 + (i : Int).toNat * 1) [.int .i64 (v : Int)] = iS .i64 (Q (i + 1)) := fun i hi => by
  rw [show 0 + (i : Int).toNat * 1 = i by omega, iS_wr1 (by rw [hQ, fnL_len]; exact hi), hQ, hQ, fnL_set]
  refine congrArg (iS .i64) (fnL_congr fun j hj => ?_)
  by_cases e : j = i
  ·rw [if_pos e, if_pos (by omega)]
  ·rw [if_neg e]
   by_cases e2 : j < i
   ·rw [if_pos e2, if_pos (by omega)]
   ·rw [if_neg e2, if_neg (by omega)]
 rw [hQ0]
 (repeat' ((conv => whnf); first | refine Then.mk ?_ | left | refine OpsA.zD ?_ | refine OpsA.zE ?_ | refine AWq.zI ?_ | refine AWq.zB ?_ | refine AWq.zG ?_ | refine AWq.zF ?_ | refine AWq.zH ?_ | refine AWq.ret ?_ | refine AWq.zK ?_ | refine AWq.zJ ?_ | refine DrawA.zM ?_ | refine DrawA.zN ?_ | refine AWq.zO (by decide +kernel) ?_ | (refine Both.mk ?_ ?_ <;> intro hc <;> (first | exact Bool.noConfusion hc | exact absurd (by with_reducible rfl) hc | (exfalso; omega) | skip)) | (intro c hc; (try (simp only [AH.zA] at hc; repeat (have hn := hc.1; replace hc := hc.2))); (first | (have hc2 := Eq.trans hc (by with_reducible assumption); clear hc; subst hc2) | (refine zP hc ?_ ?_ ?_ ; omega; omega; (clear hc; intro hc; subst hc)) | skip)) | (apply Exists.intro; apply And.intro; (first | (focus (repeat (first | (with_reducible assumption) | (with_reducible exact AH.zC _ _ _) | ((first | refine AH.zL ?_ ?_); (first | (with_reducible assumption))))); done))) | (apply Exists.intro; apply And.intro; first | (with_reducible assumption) | ((try simp only [zW, z0z, zZ, zY]); first | (with_reducible assumption) | rfl)) | (apply Exists.intro; apply And.intro; (focus (intro G; ((conv => whnf); (try left); (conv => whnf); first | exact And.intro rfl rfl)))) | (apply And.intro; (first | rfl | (with_reducible assumption) | exact zX rfl | omega | (simp <;> omega))))) <;> (try (conv => whnf))
 refine zT (σ := Nat) (19 :: 80 :: 81 :: 82 :: 83 :: 84 :: 85 :: 86 :: 87 :: 88 :: 89 :: 90 :: 91 :: []) (fun i => [(19, .int .i64 i)]) (fun i => AH.set H0 q (.row (iS .i64 (Q i)) 1)) (fun i => i ≤ 256 * n) (fun i => 256 * n - i) 0 rfl (Nat.zero_le _) ⟨rfl, trivial⟩ (HLe.refl _) ?_
 intro i hi
 refine AWp.of zU (dok _) rfl ?_
 dsimp only at hi ⊢
 have gq := AH.zC H0 q (.row (iS .i64 (Q i)) 1)
 have lq := hQl i
 by_cases hit : i < 256 * n
 ·have hs := hQs i hit
  generalize iS .i64 (Q i) = RQ at *
  (repeat' ((conv => whnf); first | refine Then.mk ?_ | left | refine OpsA.zD ?_ | refine OpsA.zE ?_ | refine AWq.zI ?_ | refine AWq.zB ?_ | refine AWq.zG ?_ | refine AWq.zF ?_ | refine AWq.zH ?_ | refine AWq.ret ?_ | refine AWq.zK ?_ | refine AWq.zJ ?_ | refine DrawA.zM ?_ | refine DrawA.zN ?_ | refine AWq.zO (by decide +kernel) ?_ | (refine Both.mk ?_ ?_ <;> intro hc <;> (first | exact Bool.noConfusion hc | exact absurd (by with_reducible rfl) hc | (exfalso; omega) | skip)) | (intro c hc; (try (simp only [AH.zA] at hc; repeat (have hn := hc.1; replace hc := hc.2))); (first | (have hc2 := Eq.trans hc (by with_reducible assumption); clear hc; subst hc2) | (refine zP hc ?_ ?_ ?_ ; omega; omega; (clear hc; intro hc; subst hc)) | skip)) | (apply Exists.intro; apply And.intro; (first | (focus (repeat (first | (with_reducible assumption) | (with_reducible exact AH.zC _ _ _) | ((first | refine AH.zL ?_ ?_); (first | (with_reducible assumption))))); done))) | (apply Exists.intro; apply And.intro; first | (with_reducible assumption) | ((try simp only [zW, z0z, zZ, zY]); first | (with_reducible assumption) | rfl)) | (apply Exists.intro; apply And.intro; (focus (intro G; ((conv => whnf); (try left); (conv => whnf); first | exact And.intro rfl rfl)))) | (apply And.intro; (first | rfl | (with_reducible assumption) | exact zX rfl | omega | (simp <;> omega))))) <;> (try (conv => whnf))
  exact ⟨i + 1, hit, by omega, ⟨congrArg (AV.int .i64) (by omega), trivial⟩, HLe.of_eq (by rw [← hs, AH.zS]; rfl)⟩
 ·have hie : i = 256 * n := by omega
  subst hie
  rw [hQe] at gq lq ⊢
  (repeat' ((conv => whnf); first | left | refine OpsA.zD ?_ | refine OpsA.zE ?_ | refine AWq.zI ?_ | refine AWq.zB ?_ | refine AWq.zG ?_ | refine AWq.zF ?_ | refine AWq.zH ?_ | refine AWq.ret ?_ | refine AWq.zK ?_ | refine AWq.zJ ?_ | refine DrawA.zM ?_ | refine DrawA.zN ?_ | refine AWq.zO (by decide +kernel) ?_ | (refine Both.mk ?_ ?_ <;> intro hc <;> (first | exact Bool.noConfusion hc | exact absurd (by with_reducible rfl) hc | (exfalso; omega) | skip)) | (intro c hc; (try (simp only [AH.zA] at hc; repeat (have hn := hc.1; replace hc := hc.2))); (first | (have hc2 := Eq.trans hc (by with_reducible assumption); clear hc; subst hc2) | (refine zP hc ?_ ?_ ?_ ; omega; omega; (clear hc; intro hc; subst hc)) | skip)) | (apply Exists.intro; apply And.intro; (first | (focus (repeat (first | (with_reducible assumption) | (with_reducible exact AH.zC _ _ _) | ((first | refine AH.zL ?_ ?_); (first | (with_reducible assumption))))); done))) | (apply Exists.intro; apply And.intro; first | (with_reducible assumption) | ((try simp only [zW, z0z, zZ, zY]); first | (with_reducible assumption) | rfl)) | (apply Exists.intro; apply And.intro; (focus (intro G; ((conv => whnf); (try left); (conv => whnf); first | exact And.intro rfl rfl)))) | (apply And.intro; (first | rfl | (with_reducible assumption) | exact zX rfl | omega | (simp <;> omega))))) <;> (try (conv => whnf))
  refine Then.mk ?_
  (repeat' ((conv => whnf); first | left | refine OpsA.zD ?_ | refine OpsA.zE ?_ | refine AWq.zI ?_ | refine AWq.zB ?_ | refine AWq.zG ?_ | refine AWq.zF ?_ | refine AWq.zH ?_ | refine AWq.ret ?_ | refine AWq.zK ?_ | refine AWq.zJ ?_ | refine DrawA.zM ?_ | refine DrawA.zN ?_ | refine AWq.zO (by decide +kernel) ?_ | (refine Both.mk ?_ ?_ <;> intro hc <;> (first | exact Bool.noConfusion hc | exact absurd (by with_reducible rfl) hc | (exfalso; omega) | skip)) | (intro c hc; (try (simp only [AH.zA] at hc; repeat (have hn := hc.1; replace hc := hc.2))); (first | (have hc2 := Eq.trans hc (by with_reducible assumption); clear hc; subst hc2) | (refine zP hc ?_ ?_ ?_ ; omega; omega; (clear hc; intro hc; subst hc)) | skip)) | (apply Exists.intro; apply And.intro; (first | (focus (repeat (first | (with_reducible assumption) | (with_reducible exact AH.zC _ _ _) | ((first | refine AH.zL ?_ ?_); (first | (with_reducible assumption))))); done))) | (apply Exists.intro; apply And.intro; first | (with_reducible assumption) | ((try simp only [zW, z0z, zZ, zY]); first | (with_reducible assumption) | rfl)) | (apply Exists.intro; apply And.intro; (focus (intro G; ((conv => whnf); (try left); (conv => whnf); first | exact And.intro rfl rfl)))) | (apply And.intro; (first | rfl | (with_reducible assumption) | exact zX rfl | omega | (simp <;> omega))))) <;> (try (conv => whnf))
  refine Then.mk (AWq.in ?_)
  refine AWp_freezeIn 18 rfl rfl gq (a' := .cp [.int .i64 n, .cs (iS .i64 (fnL 256 fun _ => 0)) 256, .cs (iS .i64 (fnL (256 * n) fun _ => (v : Int))) (256 * n)]) (Fr.cp rfl fun i hi hj => ?_) ?_
  ·match i, hi with
   | 0, _ => exact Fr.refl _
   | 1, _ => exact Fr.refl _
   | 2, _ => exact Fr.sl (by rw [lq, Nat.mul_one])
  rw [AH.del_set _ _ _ hq2']
  refine AWp.of zU (dok _) rfl ?_
  (repeat' ((conv => whnf); first | refine Then.mk ?_ | left | refine OpsA.zD ?_ | refine OpsA.zE ?_ | refine AWq.zI ?_ | refine AWq.zB ?_ | refine AWq.zG ?_ | refine AWq.zF ?_ | refine AWq.zH ?_ | refine AWq.ret ?_ | refine AWq.zK ?_ | refine AWq.zJ ?_ | refine DrawA.zM ?_ | refine DrawA.zN ?_ | refine AWq.zO (by decide +kernel) ?_ | (refine Both.mk ?_ ?_ <;> intro hc <;> (first | exact Bool.noConfusion hc | exact absurd (by with_reducible rfl) hc | (exfalso; omega) | skip)) | (intro c hc; (try (simp only [AH.zA] at hc; repeat (have hn := hc.1; replace hc := hc.2))); (first | (have hc2 := Eq.trans hc (by with_reducible assumption); clear hc; subst hc2) | (refine zP hc ?_ ?_ ?_ ; omega; omega; (clear hc; intro hc; subst hc)) | skip)) | (apply Exists.intro; apply And.intro; (first | (focus (repeat (first | (with_reducible assumption) | (with_reducible exact AH.zC _ _ _) | ((first | refine AH.zL ?_ ?_); (first | (with_reducible assumption))))); done))) | (apply Exists.intro; apply And.intro; first | (with_reducible assumption) | ((try simp only [zW, z0z, zZ, zY]); first | (with_reducible assumption) | rfl)) | (apply Exists.intro; apply And.intro; (focus (intro G; ((conv => whnf); (try left); (conv => whnf); first | exact And.intro rfl rfl)))) | (apply And.intro; (first | rfl | (with_reducible assumption) | exact zX rfl | omega | (simp <;> omega))) | (refine ACall.to (en2 _) ?_))) <;> (try (conv => whnf))
  refine zT (σ := Nat) (8 :: 23 :: 24 :: 25 :: 26 :: 100 :: 101 :: 102 :: 103 :: 104 :: 105 :: 106 :: 107 :: 108 :: 109 :: 110 :: 111 :: 112 :: 113 :: 114 :: 115 :: 116 :: 117 :: 118 :: 119 :: 120 :: 121 :: 122 :: 123 :: 124 :: 125 :: 126 :: 127 :: 128 :: 129 :: 130 :: 131 :: 132 :: 133 :: 134 :: 135 :: 136 :: 137 :: 138 :: 139 :: 140 :: 141 :: 142 :: 143 :: []) (fun i => [(23, .int .i64 i)]) (fun _ => H0) (fun i => i ≤ 4) (fun i => 4 - i) 0 rfl (Nat.zero_le _) ⟨rfl, trivial⟩ (HLe.refl _) ?_
  intro i hi
  refine AWp.of zU (dok _) rfl ?_
  dsimp only at hi ⊢
  by_cases hit : i < 4
  ·obtain ⟨t, ht8, hlt, gt⟩ : ∃ t : Nat, t ≤ 8 ∧ lowR 16 (coefL (fnL 256 fun _ => (v : Int))) (t : Int) = (fnL (t * t) fun _ => (v : Int), 0) ∧ ([.int .i64 1, .int .i64 2, .int .i64 4, .int .i64 8] : List AV)[(i : Int).toNat]? = some (.int .i64 (t : Int)) := by
    rcases (show i = 0 ∨ i = 1 ∨ i = 2 ∨ i = 3 by omega) with rfl | rfl | rfl | rfl
    ·exact ⟨1, by decide, hlow 0 (by decide), rfl⟩
    ·exact ⟨2, by decide, hlow 1 (by decide), rfl⟩
    ·exact ⟨4, by decide, hlow 2 (by decide), rfl⟩
    ·exact ⟨8, by decide, hlow 3 (by decide), rfl⟩
   have th := th t (by unfold J64; omega)
   rw [hlt, show ((n - 1 : Nat) : Int) = (n : Int) - 1 by omega] at th
   unfold resV at th
   dsimp only at th
   rw [fnL_len] at th
   have e1 : IntKind.i64.wrap ((n : Int) - 1) = (n : Int) - 1 := by rw [IntKind.wrap_i64]; omega
   have htt : t * t ≤ 64 := Nat.mul_le_mul ht8 ht8
   have e2 : IntKind.i64.wrap ((t : Int) * (t : Int)) = ((t * t : Nat) : Int) := by rw [← Int.natCast_mul, IntKind.wrap_i64]; omega
   have lX : (iS .i64 (fnL (t * t) fun _ => (v : Int))).length = t * t := by simp
   have gX : ∀ k : Nat, k < t * t → (iS .i64 (fnL (t * t) fun _ => (v : Int)))[(k : Int).toNat]? = some (.int .i64 (v : Int)) := fun k hk => by
    rw [Int.toNat_natCast, iS_get (by rw [fnL_len]; exact hk), getD_fnL _ hk]
   generalize iS .i64 (fnL (t * t) fun _ => (v : Int)) = X at *
   generalize t * t = m at *
   clear hlow hlt en2 de en eq sh ta tb
   (repeat' ((conv => whnf); first | refine Then.mk ?_ | left | refine OpsA.zD ?_ | refine OpsA.zE ?_ | refine AWq.zI ?_ | refine AWq.zB ?_ | refine AWq.zG ?_ | refine AWq.zF ?_ | refine AWq.zH ?_ | refine AWq.ret ?_ | refine AWq.zK ?_ | refine AWq.zJ ?_ | refine DrawA.zM ?_ | refine DrawA.zN ?_ | refine AWq.zO (by decide +kernel) ?_ | (apply Exists.intro; apply And.intro; exact th _) | (refine Both.mk ?_ ?_ <;> intro hc <;> (first | exact Bool.noConfusion hc | exact absurd (by with_reducible rfl) hc | (exfalso; omega) | skip)) | (intro c hc; (try (simp only [AH.zA] at hc; repeat (have hn := hc.1; replace hc := hc.2))); (first | (have hc2 := Eq.trans hc (by with_reducible assumption); clear hc; subst hc2) | (refine zP hc ?_ ?_ ?_ ; omega; omega; (clear hc; intro hc; subst hc)) | skip)) | (apply Exists.intro; apply And.intro; (first | (focus (repeat (first | (with_reducible assumption) | (with_reducible exact AH.zC _ _ _) | ((first | refine AH.zL ?_ ?_); (first | (with_reducible assumption))))); done))) | (apply Exists.intro; apply And.intro; first | (with_reducible assumption) | ((try simp only [zW, z0z, zZ, zY]); first | (with_reducible assumption) | rfl)) | (apply Exists.intro; apply And.intro; (focus (intro G; ((conv => whnf); (try left); (conv => whnf); first | exact And.intro rfl rfl)))) | (apply And.intro; (first | rfl | (with_reducible assumption) | exact zX rfl | omega | (simp <;> omega))))) <;> (try (conv => whnf))
   refine zT (σ := Nat) (8 :: 26 :: 132 :: 133 :: 134 :: 135 :: 136 :: 137 :: 138 :: 139 :: 140 :: 141 :: 142 :: 143 :: []) (fun k => [(26, .int .i64 k)]) (fun _ => H0) (fun k => k ≤ m) (fun k => m - k) 0 rfl (Nat.zero_le _) ⟨rfl, trivial⟩ (HLe.refl _) ?_
   intro k hk
   refine AWp.of zU (dok _) rfl ?_
   dsimp only at hk ⊢
   by_cases hkt : k < m
   ·have gk := gX k hkt
    (repeat' ((conv => whnf); first | refine Then.mk ?_ | left | refine OpsA.zD ?_ | refine OpsA.zE ?_ | refine AWq.zI ?_ | refine AWq.zB ?_ | refine AWq.zG ?_ | refine AWq.zF ?_ | refine AWq.zH ?_ | refine AWq.ret ?_ | refine AWq.zK ?_ | refine AWq.zJ ?_ | refine DrawA.zM ?_ | refine DrawA.zN ?_ | refine AWq.zO (by decide +kernel) ?_ | (refine Both.mk ?_ ?_ <;> intro hc <;> (first | exact Bool.noConfusion hc | exact absurd (by with_reducible rfl) hc | (exfalso; omega) | skip)) | (intro c hc; (try (simp only [AH.zA] at hc; repeat (have hn := hc.1; replace hc := hc.2))); (first | (have hc2 := Eq.trans hc (by with_reducible assumption); clear hc; subst hc2) | (refine zP hc ?_ ?_ ?_ ; omega; omega; (clear hc; intro hc; subst hc)) | skip)) | (apply Exists.intro; apply And.intro; (first | (focus (repeat (first | (with_reducible assumption) | (with_reducible exact AH.zC _ _ _) | ((first | refine AH.zL ?_ ?_); (first | (with_reducible assumption))))); done))) | (apply Exists.intro; apply And.intro; first | (with_reducible assumption) | ((try simp only [zW, z0z, zZ, zY]); first | (with_reducible assumption) | rfl)) | (apply Exists.intro; apply And.intro; (focus (intro G; ((conv => whnf); (try left); (conv => whnf); first | exact And.intro rfl rfl)))) | (apply And.intro; (first | rfl | (with_reducible assumption) | exact zX rfl | omega | (simp <;> omega))))) <;> (try (conv => whnf))
    exact ⟨k + 1, hkt, by omega, ⟨congrArg (AV.int .i64) (by omega), trivial⟩, HLe.refl _⟩
   ·have hke : k = m := by omega
    subst hke
    (repeat' ((conv => whnf); first | refine Then.mk ?_ | left | refine OpsA.zD ?_ | refine OpsA.zE ?_ | refine AWq.zI ?_ | refine AWq.zB ?_ | refine AWq.zG ?_ | refine AWq.zF ?_ | refine AWq.zH ?_ | refine AWq.ret ?_ | refine AWq.zK ?_ | refine AWq.zJ ?_ | refine DrawA.zM ?_ | refine DrawA.zN ?_ | refine AWq.zO (by decide +kernel) ?_ | (refine Both.mk ?_ ?_ <;> intro hc <;> (first | exact Bool.noConfusion hc | exact absurd (by with_reducible rfl) hc | (exfalso; omega) | skip)) | (intro c hc; (try (simp only [AH.zA] at hc; repeat (have hn := hc.1; replace hc := hc.2))); (first | (have hc2 := Eq.trans hc (by with_reducible assumption); clear hc; subst hc2) | (refine zP hc ?_ ?_ ?_ ; omega; omega; (clear hc; intro hc; subst hc)) | skip)) | (apply Exists.intro; apply And.intro; (first | (focus (repeat (first | (with_reducible assumption) | (with_reducible exact AH.zC _ _ _) | ((first | refine AH.zL ?_ ?_); (first | (with_reducible assumption))))); done))) | (apply Exists.intro; apply And.intro; first | (with_reducible assumption) | ((try simp only [zW, z0z, zZ, zY]); first | (with_reducible assumption) | rfl)) | (apply Exists.intro; apply And.intro; (focus (intro G; ((conv => whnf); (try left); (conv => whnf); first | exact And.intro rfl rfl)))) | (apply And.intro; (first | rfl | (with_reducible assumption) | exact zX rfl | omega | (simp <;> omega))))) <;> (try (conv => whnf))
    exact ⟨i + 1, hit, by omega, ⟨congrArg (AV.int .i64) (by omega), trivial⟩, HLe.refl _⟩
  ·have hie : i = 4 := by omega
   subst hie
   (repeat' ((conv => whnf); first | refine Then.mk ?_ | left | refine OpsA.zD ?_ | refine OpsA.zE ?_ | refine AWq.zI ?_ | refine AWq.zB ?_ | refine AWq.zG ?_ | refine AWq.zF ?_ | refine AWq.zH ?_ | refine AWq.ret ?_ | refine AWq.zK ?_ | refine AWq.zJ ?_ | refine DrawA.zM ?_ | refine DrawA.zN ?_ | refine AWq.zO (by decide +kernel) ?_ | (refine Both.mk ?_ ?_ <;> intro hc <;> (first | exact Bool.noConfusion hc | exact absurd (by with_reducible rfl) hc | (exfalso; omega) | skip)) | (intro c hc; (try (simp only [AH.zA] at hc; repeat (have hn := hc.1; replace hc := hc.2))); (first | (have hc2 := Eq.trans hc (by with_reducible assumption); clear hc; subst hc2) | (refine zP hc ?_ ?_ ?_ ; omega; omega; (clear hc; intro hc; subst hc)) | skip)) | (apply Exists.intro; apply And.intro; (first | (focus (repeat (first | (with_reducible assumption) | (with_reducible exact AH.zC _ _ _) | ((first | refine AH.zL ?_ ?_); (first | (with_reducible assumption))))); done))) | (apply Exists.intro; apply And.intro; first | (with_reducible assumption) | ((try simp only [zW, z0z, zZ, zY]); first | (with_reducible assumption) | rfl)) | (apply Exists.intro; apply And.intro; (focus (intro G; ((conv => whnf); (try left); (conv => whnf); first | exact And.intro rfl rfl)))) | (apply And.intro; (first | rfl | (with_reducible assumption) | exact zX rfl | omega | (simp <;> omega))) | (refine ACall.to (lives26_c _) ?_))) <;> (try (conv => whnf))
end Go.Proofs.Ytgpfmojlgejnhaa
