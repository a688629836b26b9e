/- For the law CodecThumbs, part 7 of 8: the frame of the walk, the walks of the functions, the plain law, the row. No conditions. -/
import Derived.Test.YtgpfmojlgejnhaaCodecThumbsM6
/- The law CodecThumbs: the contract of the law's function. -/
namespace Go.Proofs.Ytgpfmojlgejnhaa
open Go.Fw Go
set_option linter.unusedVariables false
set_option linter.unusedSimpArgs false

theorem step2 (p q : Int) (hp : 0 ≤ p ∧ p ≤ 65535) (hq : 0 ≤ q ∧ q ≤ 65535) : lineR 1099511627776 spL [p, q] = ([(p + q) / 2, p - q], 0) := by
  unfold lineR
  have hi : inB 1099511627776 [p, q] = true := by
    rw [inB_iff]
    intro x hx
    simp only [List.mem_cons, List.not_mem_nil, or_false] at hx
    omega
  have e : spL [p, q] = [(p + q) / 2, p - q] := by
    show [spl 2 _ 0, spl 2 _ 1] = _
    simp [spl]
  rw [if_neg (by simp), if_pos hi, e]
theorem step_at (a : List Int) (h : BOk a) (s : Nat) (hs : s + 2 ≤ 256) (H : AH) (lo hi : Int) (hlo : lo = s) (hhi : hi = (s : Int) + 2) :
    ACall Try.prog 14 [.cs (List.take ((hi.toNat - lo.toNat) * 1) (List.drop (lo.toNat * 1) (iS .i64 a))) (hi.toNat - lo.toNat)] H
      (fun y H' => y = .tup [.cs [.int .i64 ((a.getD s 0 + a.getD (s + 1) 0) / 2), .int .i64 (a.getD s 0 - a.getD (s + 1) 0)] 2, .int .i64 0] ∧ H' = H) := by
  subst hlo hhi
  have e1 : ((s : Int) + 2).toNat - (s : Int).toNat = 2 := by omega
  have hl := h.len
  have e2 : List.take 2 (List.drop s (iS .i64 a)) = iS .i64 [a.getD s 0, a.getD (s + 1) 0] := by
    rw [List.drop_eq_getElem_cons (by rw [iS_length]; omega), List.drop_eq_getElem_cons (by rw [iS_length]; omega)]
    have g1 := iS_get (k := .i64) (l := a) (i := s) (by omega)
    have g2 := iS_get (k := .i64) (l := a) (i := s + 1) (by omega)
    rw [List.getElem?_eq_getElem (by rw [iS_length]; omega)] at g1 g2
    rw [Option.some.inj g1, Option.some.inj g2]; rfl
  rw [e1, Int.toNat_natCast, Nat.mul_one, Nat.mul_one, e2]
  have hb1 := h.bd _ (getD_mem (l := a) (i := s) (by omega))
  have hb2 := h.bd _ (getD_mem (l := a) (i := s + 1) (by omega))
  have := Step_c [a.getD s 0, a.getD (s + 1) 0] (by show 2 ≤ 1000000; decide) H
  rw [step2 _ _ hb1 hb2] at this
  exact this
theorem half_at {a : List Int} (h : BOk a) {y x : Nat} (hy : y < 8) (hx : x < 8) : (toL 8 (lowM 1 (ofL (2 ^ 4) a))).getD (8 * y + x) 0 =
    ((a.getD (32 * y + 2 * x) 0 + a.getD (32 * y + 2 * x + 1) 0) / 2 + (a.getD (32 * y + 16 + 2 * x) 0 + a.getD (32 * y + 16 + 2 * x + 1) 0) / 2) / 2 := by
  rw [Nat.mul_comm 8 y, toL_getD _ hy hx]
  show stpM 3 (ofL (2 ^ 4) a) y x = _
  rw [stp_at (k := 3) _ hy hx]
  have e : ∀ r c, r < 16 → c < 16 → ofL (2 ^ 4) a r c = a.getD (r * 16 + c) 0 := fun r c hr hc => if_pos ⟨hr, hc⟩
  rw [e _ _ (by omega) (by omega), e _ _ (by omega) (by omega), e _ _ (by omega) (by omega), e _ _ (by omega) (by omega),
    show 2 * y * 16 + 2 * x = 32 * y + 2 * x by omega, show 2 * y * 16 + (2 * x + 1) = 32 * y + 2 * x + 1 by omega,
    show (2 * y + 1) * 16 + 2 * x = 32 * y + 16 + 2 * x by omega, show (2 * y + 1) * 16 + (2 * x + 1) = 32 * y + 16 + 2 * x + 1 by omega]
set_option maxRecDepth 8000 in
set_option maxHeartbeats 4000000 in
theorem CodecThumbs_c (l0 : List Int) (hl0 : l0.length ≤ maxLen) (hz0 : l0.length * 8 ≤ 140737488351232) (hr0 : ∀ n ∈ l0, -9223372036854775808 ≤ n ∧ n ≤ 9223372036854775807) (x1 : Int) (hx1 : -9223372036854775808 ≤ x1 ∧ x1 ≤ 9223372036854775807) (x2 : Int) (hx2 : -9223372036854775808 ≤ x2 ∧ x2 ≤ 9223372036854775807) (x3 : Int) (hx3 : -9223372036854775808 ≤ x3 ∧ x3 ≤ 9223372036854775807) :
    ACall Try.prog 3 [.cs (iS .i64 l0) l0.length, .int .i64 x1, .int .i64 x2, .int .i64 x3] (fun _ => none) (fun y _ => y = .bool true) := by
  obtain ⟨Z, hz, hzig⟩ := zg_ex
  have tc := fun H => tile_c l0 hr0 hl0 x1 hx1 H
  have h3 := aro_lt (n := x1) (m := 3) (by decide)
  obtain ⟨n, hn⟩ : ∃ n, n = 1 + aro x1 3 := ⟨_, rfl⟩
  rw [← hn] at tc
  have w := tile_well l0 (n := n) (by omega)
  generalize fnL 256 (tlA l0) = L at *
  generalize fnL (256 * n) (tlB l0 n) = P at *
  have hn4 : 1 ≤ n ∧ n ≤ 4 := by omega
  unfold tV at tc
  rw [w.l, w.p] at tc
  have ak := fun H => around_f x2 hx2.1 hx2.2 n (by omega) (by omega) H
  have hk := aro_lt (n := x2) (m := n) (by omega)
  generalize aro x2 n = k at *
  have ba := w.band hk
  have en := fun H => encode_ok hz hzig n hn4 L P w H
  have vc := fun H => Values_c n k hk hn4.2 L P w.p H
  have th := fun t (ht : J64 t) H => Thumb_t hz hzig hn4 w H hk t ht
  have rt := fun t (ht : J64 t) H => rThumb_c ba t ht H
  have tb := fun H => Thumb_bad hz hn4 w H 1
  have tn := fun H => Thumb_nil H
  have bt := fun H => Band_t hz hzig hn4 w H hk
  have hlow := fun t => lowR_len 16 (coefL (bandL n P k)) t
  have si := fun t H => sameints_c (lowR 16 (coefL (bandL n P k)) t).1 (lowR 16 (coefL (bandL n P k)) t).1 (by have := hlow t; omega) (by have := hlow t; omega) H
  have h8 : lowR 16 (coefL (bandL n P k)) 8 = (toL 8 (lowM 1 (ofL (2 ^ 4) (bandL n P k))), 0) := low_eq ba (j := 3) (by decide)
  have th8 := fun H => th 8 (by decide) H
  rw [h8] at th8
  have hha := fun y x hy hx => half_at ba (y := y) (x := x) hy hx
  have hal : (toL 8 (lowM 1 (ofL (2 ^ 4) (bandL n P k)))).length = 64 := toL_len _ _
  have st := fun s hs H lo hi hlo hhi => step_at (bandL n P k) ba s hs H lo hi hlo hhi
  have hbd := ba.bd
  have hbl := ba.len
  unfold resV at th rt th8
  dsimp only at th8
  rw [hal] at th8
  generalize packT Z n L P = B at *
  generalize toL 8 (lowM 1 (ofL (2 ^ 4) (bandL n P k))) = H8 at *
  generalize coefL (bandL n P k) = C at *
  generalize bandL n P k = A at *
  generalize hRL : iS .i64 L = RL at *
  generalize hRP : iS .i64 P = RP at *
  have lA : (iS .i64 A).length = 256 := by rw [iS_length, hbl]
  have l8 : (iS .i64 H8).length = 64 := by rw [iS_length, hal]
  generalize (fun _ => none : AH) = H0
  refine ACall_of tt_ok (dok _) Try.func3 rfl (by decide) rfl ?_
  (repeat' ((conv => whnf); first | (refine Then.mk (AWq.in ?_); refine AWp_segP 9 ([.int .i64 n, .cs RL 256, .cs RP (256 * n)]) rfl rfl (by assumption) (rfl) (rfl) ?_; refine AWp.of tt_ok (dok _) rfl ?_) | refine Then.mk ?_ | left | refine OpsA.cons ?_ | refine OpsA.nil ?_ | refine AWq.seq ?_ | refine AWq.region ?_ | refine AWq.cond ?_ | refine AWq.block ?_ | refine AWq.skip ?_ | refine AWq.ret ?_ | refine AWq.exit ?_ | refine AWq.loop ?_ | refine DrawA.consD ?_ | refine DrawA.nil ?_ | refine AWq.draw (by decide +kernel) ?_ | (refine Both.mk ?_ ?_ <;> intro hc <;> (first | exact Bool.noConfusion hc | exact absurd (by with_reducible rfl) hc | exact absurd hc (by assumption) | (exfalso; omega) | skip)) | (intro c hc; (try (simp only [AH.none_iff] at hc; repeat (have hn := hc.1; replace hc := hc.2))); (first | (refine i64_k hc ?_ ?_ ?_ ; omega; omega; (clear hc; intro hc; subst hc)) | skip)) | (apply Exists.intro; apply And.intro; (first | (focus (repeat (first | (with_reducible assumption) | (with_reducible exact AH.set_same _ _ _))); done))) | (apply Exists.intro; apply And.intro; first | (with_reducible assumption) | ((try simp only [List.getElem?_drop, Nat.mul_one, Nat.add_zero, Nat.zero_add]); first | (with_reducible assumption) | rfl)) | (apply And.intro; (first | rfl | (with_reducible assumption) | exact Nat.le_of_ble_eq_true rfl | omega | (simp <;> omega))) | (refine ACall.to (tc _) ?_) | (refine ACall.to (en _) ?_) | (refine ACall.to (ak _) ?_) | (refine ACall.to (vc _) ?_))) <;> (try (conv => whnf))
  refine AWp_loop (σ := Nat) (8 :: 15 :: 16 :: 17 :: 18 :: 19 :: 53 :: 54 :: 55 :: 56 :: 57 :: 58 :: 59 :: 60 :: 61 :: 62 :: 63 :: 64 :: 65 :: 66 :: 67 :: 68 :: 69 :: 70 :: 71 :: 72 :: 73 :: 74 :: 75 :: 76 :: 77 :: 78 :: 79 :: 80 :: 81 :: 82 :: 83 :: 84 :: 85 :: 86 :: []) (fun i => [(15, .int .i64 i)]) (fun _ => H0) (fun i => i ≤ 6) (fun i => 6 - i) 0 rfl (Nat.zero_le _) ⟨rfl, trivial⟩ (HLe.refl _) ?_
  intro i hi
  refine AWp.of tt_ok (dok _) rfl ?_
  dsimp only at hi ⊢
  by_cases hit : i < 6
  · obtain ⟨t, ht, gt⟩ : ∃ t : Int, J64 t ∧ ([.int .i64 x3, .int .i64 1, .int .i64 2, .int .i64 4, .int .i64 8, .int .i64 16] : List AV)[(i : Int).toNat]? = some (.int .i64 t) := by
      rcases (show i = 0 ∨ i = 1 ∨ i = 2 ∨ i = 3 ∨ i = 4 ∨ i = 5 by omega) with rfl | rfl | rfl | rfl | rfl | rfl
      · exact ⟨x3, hx3, rfl⟩
      all_goals exact ⟨_, by decide, rfl⟩
    have th := th t ht
    have rt := rt t ht
    have si := si t
    rw [decide_eq_true rfl] at si
    generalize (lowR 16 C t).1 = X at *
    generalize (lowR 16 C t).2 = e at *
    (repeat' ((conv => whnf); first | refine Then.mk ?_ | left | refine OpsA.cons ?_ | refine OpsA.nil ?_ | refine AWq.seq ?_ | refine AWq.region ?_ | refine AWq.cond ?_ | refine AWq.block ?_ | refine AWq.skip ?_ | refine AWq.ret ?_ | refine AWq.exit ?_ | refine AWq.loop ?_ | refine DrawA.consD ?_ | refine DrawA.nil ?_ | refine AWq.draw (by decide +kernel) ?_ | (refine Both.mk ?_ ?_ <;> intro hc <;> (first | exact Bool.noConfusion hc | exact absurd (by with_reducible rfl) hc | exact absurd hc (by assumption) | (exfalso; omega) | skip)) | (intro c hc; (try (simp only [AH.none_iff] at hc; repeat (have hn := hc.1; replace hc := hc.2))); (first | (refine i64_k hc ?_ ?_ ?_ ; omega; omega; (clear hc; intro hc; subst hc)) | skip)) | (apply Exists.intro; apply And.intro; (first | (focus (repeat (first | (with_reducible assumption) | (with_reducible exact AH.set_same _ _ _))); done))) | (apply Exists.intro; apply And.intro; first | (with_reducible assumption) | ((try simp only [List.getElem?_drop, Nat.mul_one, Nat.add_zero, Nat.zero_add]); first | (with_reducible assumption) | rfl)) | (apply And.intro; (first | rfl | (with_reducible assumption) | exact Nat.le_of_ble_eq_true rfl | omega | (simp <;> omega))) | (refine ACall.to (th _) ?_) | (refine ACall.to (rt _) ?_) | (refine ACall.to (si _) ?_))) <;> (try (conv => whnf))
    all_goals exact ⟨i + 1, hit, by omega, ⟨congrArg (AV.int .i64) (by omega), trivial⟩, HLe.refl _⟩
  · have hie : i = 6 := by omega
    subst hie
    clear th rt si hlow
    (repeat' ((conv => whnf); first | refine Then.mk ?_ | left | refine OpsA.cons ?_ | refine OpsA.nil ?_ | refine AWq.seq ?_ | refine AWq.region ?_ | refine AWq.cond ?_ | refine AWq.block ?_ | refine AWq.skip ?_ | refine AWq.ret ?_ | refine AWq.exit ?_ | refine AWq.loop ?_ | refine DrawA.consD ?_ | refine DrawA.nil ?_ | refine AWq.draw (by decide +kernel) ?_ | (refine Both.mk ?_ ?_ <;> intro hc <;> (first | exact Bool.noConfusion hc | exact absurd (by with_reducible rfl) hc | exact absurd hc (by assumption) | (exfalso; omega) | skip)) | (intro c hc; (try (simp only [AH.none_iff] at hc; repeat (have hn := hc.1; replace hc := hc.2))); (first | (refine i64_k hc ?_ ?_ ?_ ; omega; omega; (clear hc; intro hc; subst hc)) | skip)) | (apply Exists.intro; apply And.intro; (first | (focus (repeat (first | (with_reducible assumption) | (with_reducible exact AH.set_same _ _ _))); done))) | (apply Exists.intro; apply And.intro; first | (with_reducible assumption) | ((try simp only [List.getElem?_drop, Nat.mul_one, Nat.add_zero, Nat.zero_add]); first | (with_reducible assumption) | rfl)) | (apply And.intro; (first | rfl | (with_reducible assumption) | exact Nat.le_of_ble_eq_true rfl | omega | (simp <;> omega))) | (refine ACall.to (tb _) ?_) | (refine ACall.to (tn _) ?_) | (refine ACall.to (bt _) ?_) | (refine ACall.to (th8 _) ?_))) <;> (try (conv => whnf))
    refine AWp_loop (σ := Nat) (8 :: 28 :: 29 :: 30 :: 31 :: 32 :: 33 :: 134 :: 135 :: 136 :: 137 :: 138 :: 139 :: 140 :: 141 :: 142 :: 143 :: 144 :: 145 :: 146 :: 147 :: 148 :: 149 :: 150 :: 151 :: 152 :: 153 :: 154 :: 155 :: 156 :: 157 :: 158 :: 159 :: 160 :: 161 :: 162 :: 163 :: 164 :: 165 :: 166 :: 167 :: 168 :: 169 :: 170 :: 171 :: 172 :: 173 :: 174 :: 175 :: 176 :: 177 :: 178 :: 179 :: 180 :: 181 :: 182 :: 183 :: 184 :: 185 :: 186 :: 187 :: 188 :: 189 :: 190 :: 191 :: 192 :: 193 :: 194 :: 195 :: 196 :: 197 :: 198 :: 199 :: 200 :: 201 :: 202 :: 203 :: 204 :: 205 :: 206 :: 207 :: 208 :: 209 :: 210 :: 211 :: []) (fun y => [(28, .int .i64 y)]) (fun _ => H0) (fun y => y ≤ 8) (fun y => 8 - y) 0 rfl (Nat.zero_le _) ⟨rfl, trivial⟩ (HLe.refl _) ?_
    intro y hy
    refine AWp.of tt_ok (dok _) rfl ?_
    dsimp only at hy ⊢
    by_cases hyt : y < 8
    · (repeat' ((conv => whnf); first | refine Then.mk ?_ | left | refine OpsA.cons ?_ | refine OpsA.nil ?_ | refine AWq.seq ?_ | refine AWq.region ?_ | refine AWq.cond ?_ | refine AWq.block ?_ | refine AWq.skip ?_ | refine AWq.ret ?_ | refine AWq.exit ?_ | refine AWq.loop ?_ | refine DrawA.consD ?_ | refine DrawA.nil ?_ | refine AWq.draw (by decide +kernel) ?_ | (refine Both.mk ?_ ?_ <;> intro hc <;> (first | exact Bool.noConfusion hc | exact absurd (by with_reducible rfl) hc | exact absurd hc (by assumption) | (exfalso; omega) | skip)) | (intro c hc; (try (simp only [AH.none_iff] at hc; repeat (have hn := hc.1; replace hc := hc.2))); (first | (refine i64_k hc ?_ ?_ ?_ ; omega; omega; (clear hc; intro hc; subst hc)) | skip)) | (apply Exists.intro; apply And.intro; (first | (focus (repeat (first | (with_reducible assumption) | (with_reducible exact AH.set_same _ _ _))); done))) | (apply Exists.intro; apply And.intro; first | (with_reducible assumption) | ((try simp only [List.getElem?_drop, Nat.mul_one, Nat.add_zero, Nat.zero_add]); first | (with_reducible assumption) | rfl)) | (apply And.intro; (first | rfl | (with_reducible assumption) | exact Nat.le_of_ble_eq_true rfl | omega | (simp <;> omega))))) <;> (try (conv => whnf))
      refine AWp_loop (σ := Nat) (8 :: 29 :: 30 :: 31 :: 32 :: 33 :: 138 :: 139 :: 140 :: 141 :: 142 :: 143 :: 144 :: 145 :: 146 :: 147 :: 148 :: 149 :: 150 :: 151 :: 152 :: 153 :: 154 :: 155 :: 156 :: 157 :: 158 :: 159 :: 160 :: 161 :: 162 :: 163 :: 164 :: 165 :: 166 :: 167 :: 168 :: 169 :: 170 :: 171 :: 172 :: 173 :: 174 :: 175 :: 176 :: 177 :: 178 :: 179 :: 180 :: 181 :: 182 :: 183 :: 184 :: 185 :: 186 :: 187 :: 188 :: 189 :: 190 :: 191 :: 192 :: 193 :: 194 :: 195 :: 196 :: 197 :: 198 :: 199 :: 200 :: 201 :: 202 :: 203 :: 204 :: 205 :: 206 :: 207 :: 208 :: 209 :: 210 :: 211 :: []) (fun x => [(29, .int .i64 x)]) (fun _ => H0) (fun x => x ≤ 8) (fun x => 8 - x) 0 rfl (Nat.zero_le _) ⟨rfl, trivial⟩ (HLe.refl _) ?_
      intro x hx
      refine AWp.of tt_ok (dok _) rfl ?_
      dsimp only at hx ⊢
      by_cases hxt : x < 8
      · have g8 : (iS .i64 H8)[(8 * (y : Int) + x).toNat]? = some (.int .i64 (H8.getD (8 * y + x) 0)) := by
          rw [show (8 * (y : Int) + x).toNat = 8 * y + x by omega]; exact iS_get (by omega)
        rw [hha y x hyt hxt] at g8
        have s1 := fun H => st (32 * y + 2 * x) (by omega) H (32 * (y : Int) + 2 * (x : Int)) (32 * (y : Int) + 2 * (x : Int) + 2) (by omega) (by omega)
        have s2 := fun H => st (32 * y + 16 + 2 * x) (by omega) H (32 * (y : Int) + 16 + 2 * (x : Int)) (32 * (y : Int) + 16 + 2 * (x : Int) + 2) (by omega) (by omega)
        have b1 := hbd _ (getD_mem (l := A) (i := 32 * y + 2 * x) (by omega))
        have b2 := hbd _ (getD_mem (l := A) (i := 32 * y + 2 * x + 1) (by omega))
        have b3 := hbd _ (getD_mem (l := A) (i := 32 * y + 16 + 2 * x) (by omega))
        have b4 := hbd _ (getD_mem (l := A) (i := 32 * y + 16 + 2 * x + 1) (by omega))
        generalize A.getD (32 * y + 2 * x) 0 = p1 at *
        generalize A.getD (32 * y + 2 * x + 1) 0 = p2 at *
        generalize A.getD (32 * y + 16 + 2 * x) 0 = p3 at *
        generalize A.getD (32 * y + 16 + 2 * x + 1) 0 = p4 at *
        have hh := fun H => Half_c ((p1 + p2) / 2 + (p3 + p4) / 2) (by omega) (by omega) H
        (repeat' ((conv => whnf); first | refine Then.mk ?_ | left | refine OpsA.cons ?_ | refine OpsA.nil ?_ | refine AWq.seq ?_ | refine AWq.region ?_ | refine AWq.cond ?_ | refine AWq.block ?_ | refine AWq.skip ?_ | refine AWq.ret ?_ | refine AWq.exit ?_ | refine AWq.loop ?_ | refine DrawA.consD ?_ | refine DrawA.nil ?_ | refine AWq.draw (by decide +kernel) ?_ | (apply Exists.intro; apply And.intro; exact hh _) | (refine Both.mk ?_ ?_ <;> intro hc <;> (first | exact Bool.noConfusion hc | exact absurd (by with_reducible rfl) hc | exact absurd hc (by assumption) | (exfalso; omega) | skip)) | (intro c hc; (try (simp only [AH.none_iff] at hc; repeat (have hn := hc.1; replace hc := hc.2))); (first | (refine i64_k hc ?_ ?_ ?_ ; omega; omega; (clear hc; intro hc; subst hc)) | skip)) | (apply Exists.intro; apply And.intro; (first | (focus (repeat (first | (with_reducible assumption) | (with_reducible exact AH.set_same _ _ _))); done))) | (apply Exists.intro; apply And.intro; first | (with_reducible assumption) | ((try simp only [List.getElem?_drop, Nat.mul_one, Nat.add_zero, Nat.zero_add]); first | (with_reducible assumption) | rfl)) | (apply And.intro; (first | rfl | (with_reducible assumption) | exact Nat.le_of_ble_eq_true rfl | omega | (simp <;> omega))) | (refine ACall.to (s1 _) ?_) | (refine ACall.to (s2 _) ?_))) <;> (try (conv => whnf))
        exact ⟨x + 1, hxt, by omega, ⟨congrArg (AV.int .i64) (by omega), trivial⟩, HLe.refl _⟩
      · have hxe : x = 8 := by omega
        subst hxe
        (repeat' ((conv => whnf); first | refine Then.mk ?_ | left | refine OpsA.cons ?_ | refine OpsA.nil ?_ | refine AWq.seq ?_ | refine AWq.region ?_ | refine AWq.cond ?_ | refine AWq.block ?_ | refine AWq.skip ?_ | refine AWq.ret ?_ | refine AWq.exit ?_ | refine AWq.loop ?_ | refine DrawA.consD ?_ | refine DrawA.nil ?_ | refine AWq.draw (by decide +kernel) ?_ | (refine Both.mk ?_ ?_ <;> intro hc <;> (first | exact Bool.noConfusion hc | exact absurd (by with_reducible rfl) hc | exact absurd hc (by assumption) | (exfalso; omega) | skip)) | (intro c hc; (try (simp only [AH.none_iff] at hc; repeat (have hn := hc.1; replace hc := hc.2))); (first | (refine i64_k hc ?_ ?_ ?_ ; omega; omega; (clear hc; intro hc; subst hc)) | skip)) | (apply Exists.intro; apply And.intro; (first | (focus (repeat (first | (with_reducible assumption) | (with_reducible exact AH.set_same _ _ _))); done))) | (apply Exists.intro; apply And.intro; first | (with_reducible assumption) | ((try simp only [List.getElem?_drop, Nat.mul_one, Nat.add_zero, Nat.zero_add]); first | (with_reducible assumption) | rfl)) | (apply And.intro; (first | rfl | (with_reducible assumption) | exact Nat.le_of_ble_eq_true rfl | omega | (simp <;> omega))))) <;> (try (conv => whnf))
        exact ⟨y + 1, hyt, by omega, ⟨congrArg (AV.int .i64) (by omega), trivial⟩, HLe.refl _⟩
    · have hye : y = 8 := by omega
      subst hye
      (repeat' ((conv => whnf); first | refine Then.mk ?_ | left | refine OpsA.cons ?_ | refine OpsA.nil ?_ | refine AWq.seq ?_ | refine AWq.region ?_ | refine AWq.cond ?_ | refine AWq.block ?_ | refine AWq.skip ?_ | refine AWq.ret ?_ | refine AWq.exit ?_ | refine AWq.loop ?_ | refine DrawA.consD ?_ | refine DrawA.nil ?_ | refine AWq.draw (by decide +kernel) ?_ | (refine Both.mk ?_ ?_ <;> intro hc <;> (first | exact Bool.noConfusion hc | exact absurd (by with_reducible rfl) hc | exact absurd hc (by assumption) | (exfalso; omega) | skip)) | (intro c hc; (try (simp only [AH.none_iff] at hc; repeat (have hn := hc.1; replace hc := hc.2))); (first | (refine i64_k hc ?_ ?_ ?_ ; omega; omega; (clear hc; intro hc; subst hc)) | skip)) | (apply Exists.intro; apply And.intro; (first | (focus (repeat (first | (with_reducible assumption) | (with_reducible exact AH.set_same _ _ _))); done))) | (apply Exists.intro; apply And.intro; first | (with_reducible assumption) | ((try simp only [List.getElem?_drop, Nat.mul_one, Nat.add_zero, Nat.zero_add]); first | (with_reducible assumption) | rfl)) | (apply And.intro; (first | rfl | (with_reducible assumption) | exact Nat.le_of_ble_eq_true rfl | omega | (simp <;> omega))) | (refine ACall.to (lives26_c _) ?_))) <;> (try (conv => whnf))
end Go.Proofs.Ytgpfmojlgejnhaa
