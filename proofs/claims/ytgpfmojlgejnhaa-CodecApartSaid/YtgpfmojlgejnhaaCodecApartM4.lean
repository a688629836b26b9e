/- For the law CodecApart, part 4 of 8: the frame of the walk, the walks of the functions, the plain law, the row. No conditions. -/
import Derived.Test.YtgpfmojlgejnhaaCodecApartM3
/- The walks of the coder's models: fresh ones. -/
namespace Go.Proofs.Ytgpfmojlgejnhaa
open Go.Fw Go
set_option linter.unusedVariables false
set_option linter.unusedSimpArgs false
set_option maxRecDepth 8000 in
theorem Mul64_c (n : Nat) (h : n ≤ 4294967295) (H : AH) : ACall Try.prog 109 [.int .u64 1, .int .u64 n] H (fun y H' => y = .tup [.int .u64 0, .int .u64 n] ∧ H' = H) := by
 have e0 : (2 : Int) ^ min (Int.toNat 32) IntKind.u64.bits = 4294967296 := by decide
 have e1 : (n : Int).fdiv 4294967296 = 0 := by rw [Int.fdiv_eq_ediv_of_nonneg _ (by omega)]; omega
 have e2 : bitsA .and .u64 (n : Int) 4294967295 = n := by
  show IntKind.u64.wrap ((BitVec.ofInt 64 (n : Int) &&& BitVec.ofInt 64 4294967295).toNat : Int) = _
  have ha : (BitVec.ofInt 64 (n : Int)).toNat = n := by rw [BitVec.toNat_ofInt]; omega
  have hb : (BitVec.ofInt 64 4294967295).toNat = 2 ^ 32 - 1 := by decide
  rw [BitVec.toNat_and, ha, hb, Nat.and_two_pow_sub_one_eq_mod, wrap_u64']
  omega
 have e3 : bitsA .and .u64 1 4294967295 = 1 := by decide
 have e4 : Int.fdiv 1 4294967296 = 0 := by decide
 have e5 : IntKind.u64.wrap (n : Int) = n := by rw [wrap_u64']; omega
 have e6 : bitsA .and .u64 0 4294967295 = 0 := by decide
 have e7 : IntKind.u64.wrap 0 = 0 := by decide
 have e8 : Int.fdiv 0 4294967296 = 0 := by decide
 refine zQ zU (dok _) Try.func109 rfl (by decide) rfl ?_
 (repeat' ((conv => whnf); first | refine Then.mk ?_ | refine OpsA.zD ?_ | refine OpsA.zE ?_ | refine AWq.zI ?_ | refine AWq.zB ?_ | refine AWq.ret ?_ | (intro c hc; (try (simp only [AH.zA] at hc; repeat (have hn := hc.1; replace hc := hc.2))); (first | (have hc2 := Eq.trans hc (by with_reducible assumption); clear hc; subst hc2) | (refine u64_k hc ?_ ?_ ?_ ; omega; omega; (clear hc; intro hc; subst hc)) | subst hc)) | (apply And.intro; (first | rfl | omega)))) <;> (try (conv => whnf))
 refine ⟨?_, rfl⟩
 simp only [e0, e1, e2, e3, e4, e5, e6, e7, e8, Int.zero_mul, Int.one_mul, Int.mul_zero, Int.add_zero]
set_option maxRecDepth 8000 in
theorem Mul_c (n : Nat) (h : n ≤ 4294967295) (H : AH) : ACall Try.prog 95 [.int .u64 1, .int .u64 n] H (fun y H' => y = .tup [.int .u64 0, .int .u64 n] ∧ H' = H) := by
 have hm := fun H => Mul64_c n h H
 refine zQ zU (dok _) Try.func95 rfl (by decide) rfl ?_
 (repeat' ((conv => whnf); first | refine Then.mk ?_ | refine OpsA.zD ?_ | refine OpsA.zE ?_ | refine AWq.zI ?_ | refine AWq.zB ?_ | refine AWq.zG ?_ | refine AWq.zH ?_ | refine AWq.ret ?_ | (refine Both.mk ?_ ?_ <;> intro hc <;> (first | exact Bool.noConfusion hc | skip)) | (apply And.intro; (first | rfl)) | (refine ACall.to (hm _) ?_))) <;> (try (conv => whnf))
theorem iL_take {n m : Nat} (X : Ln) (h : m ≤ n) : (iL n X).take m = iL m X := by
 apply List.ext_getElem?
 intro i
 rw [List.getElem?_take]
 by_cases hi : i < m
 ·rw [if_pos hi, iL_get X (by omega), iL_get X hi]
 ·rw [if_neg hi, List.getElem?_eq_none (by rw [iL_len]; omega)]
theorem iL_drop {n m : Nat} (X : Ln) : (iL n X).drop m = iL (n - m) (fun k => X (m + k)) := by
 apply List.ext_getElem?
 intro i
 rw [List.getElem?_drop]
 by_cases hi : m + i < n
 ·rw [iL_get X hi, iL_get _ (by omega)]
 ·rw [List.getElem?_eq_none (by rw [iL_len]; omega), List.getElem?_eq_none (by rw [iL_len]; omega)]
theorem k_iL_app {n m : Nat} (X Y : Ln) : iL n X ++ iL m Y = iL (n + m) (fun k => if k < n then X k else Y (k - n)) := by
 apply List.ext_getElem?
 intro i
 by_cases hi : i < n
 ·rw [List.getElem?_append_left (by rw [iL_len]; exact hi), iL_get _ hi, iL_get _ (by omega), if_pos hi]
 ·rw [List.getElem?_append_right (by rw [iL_len]; omega), iL_len]
  by_cases h2 : i < n + m
  ·rw [iL_get _ (by omega), iL_get _ h2, if_neg hi]
  ·rw [List.getElem?_eq_none (by rw [iL_len]; omega), List.getElem?_eq_none (by rw [iL_len]; omega)]
theorem iL_wrs {n m c : Nat} (X Y : Ln) (h : c + m ≤ n) : wrA (iL n X) c (iL m Y) = iL n (fun k => if c ≤ k ∧ k < c + m then Y (k - c) else X k) := by
 unfold wrA
 rw [iL_take X (by omega), iL_len, iL_drop, k_iL_app, k_iL_app, show c + m + (n - (c + m)) = n by omega]
 refine iL_congr fun k hk => ?_
 by_cases h1 : k < c
 ·rw [if_pos (by omega), if_pos h1, if_neg (by omega)]
 ·by_cases h2 : k < c + m
  ·rw [if_pos h2, if_neg h1, if_pos (by omega)]
  ·rw [if_neg h2, if_neg (by omega)]
   congr 1; omega
set_option maxRecDepth 8000 in
theorem Repeat_c (n : Nat) (h1 : 1 ≤ n) (h2 : n ≤ 1000000) (H : AH) :
  ACall Try.prog 72 [.cs (iS .i64 [1]) 1, .int .i64 n] H (fun y H' => ∃ q, H q = none ∧ y = .sl q 0 1 0 n none ∧ H' = H.set q (.row (iL n fun _ => 1) 0)) := by
 have hm := fun H => Mul_c n (by omega) H
 refine zQ zU (dok _) Try.func72 rfl (by decide) rfl ?_
 (repeat' ((conv => whnf); first | refine Then.mk ?_ | refine OpsA.zD ?_ | refine OpsA.zE ?_ | refine AWq.zI ?_ | refine AWq.zB ?_ | refine AWq.zG ?_ | refine AWq.zF ?_ | refine AWq.zH ?_ | refine AWq.ret ?_ | refine AWq.zK ?_ | refine AWq.zJ ?_ | refine DrawA.zM ?_ | refine DrawA.zN ?_ | (refine Both.mk ?_ ?_ <;> intro hc <;> (first | exact Bool.noConfusion hc | (exfalso; omega) | skip)) | (intro c hc; (try (simp only [AH.zA] at hc; repeat (have hn := hc.1; replace hc := hc.2))); (first | (refine zP hc ?_ ?_ ?_ ; omega; omega; (clear hc; intro hc; subst hc)) | (refine u64_k hc ?_ ?_ ?_ ; omega; omega; (clear hc; intro hc; subst hc)) | skip)) | (apply Exists.intro; apply And.intro; (first | (focus (repeat (first | (with_reducible assumption) | (with_reducible exact AH.zC _ _ _))); done))) | (apply And.intro; (first | rfl | (with_reducible assumption) | omega | (simp <;> fail) | (focus (repeat' (first | (with_reducible assumption) | exact one_iS _ _ | rfl | apply one_take)); done))) | (refine ACall.to (hm _) ?_))) <;> (try (conv => whnf))
 rename_i c hc
 refine zT (σ := Nat) (8 :: 34 :: 35 :: 36 :: 37 :: 38 :: 39 :: 40 :: 41 :: 42 :: 43 :: 44 :: 45 :: 46 :: []) (fun m => [(8, .int .i64 m)]) (fun m => AH.set H c (.row (iL n fun k => if k < m then 1 else 0) 0)) (fun m => 1 ≤ m ∧ m ≤ n) (fun m => n - m) 1 rfl ?_ ?_ ?_ ?_
 ·exact ⟨Nat.le_refl _, h1⟩
 ·refine ⟨?_, trivial⟩
  have : Nat.min 1 n = 1 := Nat.min_eq_left h1
  show AV.int .i64 (Nat.min 1 n : Nat) = _
  rw [this]
 ·refine HLe.of_eq (Eq.symm ((AH.zS _ _ _ _).trans (congrArg (fun l => AH.set H c (.row l 0)) ?_)))
  show wrA ((List.replicate n [AV.int .i64 0]).flatten) 0 (List.take (Nat.min 1 n * 1) (iL 1 fun _ => 1)) = _
  rw [show Nat.min 1 n = 1 from Nat.min_eq_left h1, iL_zero, iL_take _ (by omega), iL_wrs _ _ (by omega)]
  refine iL_congr fun k hk => ?_
  by_cases h : k < 1 <;> simp [h]
 ·rintro m ⟨hm1, hm2⟩
  refine AWp.of zU (dok _) rfl ?_
  have li := iL_len n (fun k => if k < m then 1 else 0)
  by_cases hmn : m < n
  ·(repeat' ((conv => whnf); first | refine AWq.drawM ([45], []) (by decide +kernel) ?_ | refine Then.mk ?_ | refine OpsA.zD ?_ | refine OpsA.zE ?_ | refine AWq.zI ?_ | refine AWq.zB ?_ | refine AWq.zG ?_ | refine AWq.zF ?_ | refine AWq.zH ?_ | refine AWq.ret ?_ | refine AWq.zK ?_ | refine AWq.zJ ?_ | refine DrawA.zM ?_ | refine DrawA.zN ?_ | (refine Both.mk ?_ ?_ <;> intro hc <;> (first | exact Bool.noConfusion hc | (exfalso; omega) | skip)) | (intro c hc; (try (simp only [AH.zA] at hc; repeat (have hn := hc.1; replace hc := hc.2))); (first | (refine zP hc ?_ ?_ ?_ ; omega; omega; (clear hc; intro hc; subst hc)) | (refine u64_k hc ?_ ?_ ?_ ; omega; omega; (clear hc; intro hc; subst hc)) | skip)) | (apply Exists.intro; apply And.intro; (first | (focus (repeat (first | (with_reducible assumption) | (with_reducible exact AH.zC _ _ _))); done))) | (apply And.intro; (first | rfl | (with_reducible assumption) | omega | (simp <;> fail) | (focus (repeat' (first | (with_reducible assumption) | exact one_iS _ _ | rfl | apply one_take)); done))) | (refine ACall.to (hm _) ?_))) <;> (try (conv => whnf))
   refine ⟨.int .i64 (min m (n - m) : Nat), AH.set H c (.row (iL n fun k => if k < m + min m (n - m) then 1 else 0) 0), ?_, ?_⟩
   ·(repeat' ((conv => whnf); first | refine Then.mk ?_ | refine OpsA.zD ?_ | refine OpsA.zE ?_ | refine AWq.zI ?_ | refine AWq.zB ?_ | refine AWq.zG ?_ | refine AWq.zF ?_ | refine AWq.zH ?_ | refine AWq.ret ?_ | refine AWq.zK ?_ | refine AWq.zJ ?_ | refine DrawA.zM ?_ | refine DrawA.zN ?_ | (refine Both.mk ?_ ?_ <;> intro hc <;> (first | exact Bool.noConfusion hc | (exfalso; omega) | skip)) | (intro c hc; (try (simp only [AH.zA] at hc; repeat (have hn := hc.1; replace hc := hc.2))); (first | (refine zP hc ?_ ?_ ?_ ; omega; omega; (clear hc; intro hc; subst hc)) | (refine u64_k hc ?_ ?_ ?_ ; omega; omega; (clear hc; intro hc; subst hc)) | skip)) | (apply Exists.intro; apply And.intro; (first | (focus (repeat (first | (with_reducible assumption) | (with_reducible exact AH.zC _ _ _))); done))) | (apply And.intro; (first | rfl | (with_reducible assumption) | omega | (simp <;> fail) | (focus (repeat' (first | (with_reducible assumption) | exact one_iS _ _ | rfl | apply one_take)); done))))) <;> (try (conv => whnf))
    refine (AH.zS _ _ _ _).trans (congrArg (fun l => AH.set H c (.row l 0)) ?_)
    have e1 : Nat.min m (n - m) = min m (n - m) := rfl
    rw [Int.toNat_natCast, Int.toNat_natCast, e1, List.drop_zero, Nat.mul_one, Nat.mul_one, iL_take _ hm2, iL_take _ (by omega), Nat.zero_add, iL_wrs _ _ (by omega)]
    refine iL_congr fun k hk => ?_
    split <;> split <;> first | rfl | omega | (split <;> first | rfl | omega)
   ·(repeat' ((conv => whnf); first | refine Then.mk ?_ | refine OpsA.zD ?_ | refine OpsA.zE ?_ | refine AWq.zI ?_ | refine AWq.zB ?_ | refine AWq.zG ?_ | refine AWq.zF ?_ | refine AWq.zH ?_ | refine AWq.ret ?_ | refine AWq.zK ?_ | refine AWq.zJ ?_ | refine DrawA.zM ?_ | refine DrawA.zN ?_ | (refine Both.mk ?_ ?_ <;> intro hc <;> (first | exact Bool.noConfusion hc | (exfalso; omega) | skip)) | (intro c hc; (try (simp only [AH.zA] at hc; repeat (have hn := hc.1; replace hc := hc.2))); (first | (refine zP hc ?_ ?_ ?_ ; omega; omega; (clear hc; intro hc; subst hc)) | (refine u64_k hc ?_ ?_ ?_ ; omega; omega; (clear hc; intro hc; subst hc)) | skip)) | (apply Exists.intro; apply And.intro; (first | (focus (repeat (first | (with_reducible assumption) | (with_reducible exact AH.zC _ _ _))); done))) | (apply And.intro; (first | rfl | (with_reducible assumption) | omega | (simp <;> fail) | (focus (repeat' (first | (with_reducible assumption) | exact one_iS _ _ | rfl | apply one_take)); done))))) <;> (try (conv => whnf))
    exact ⟨m + min m (n - m), by omega, by omega, ⟨congrArg (AV.int .i64) (by omega), trivial⟩, HLe.refl _⟩
  ·have hme : m = n := by omega
   (repeat' ((conv => whnf); first | refine Then.mk ?_ | refine OpsA.zD ?_ | refine OpsA.zE ?_ | refine AWq.zI ?_ | refine AWq.zB ?_ | refine AWq.zG ?_ | refine AWq.zF ?_ | refine AWq.zH ?_ | refine AWq.ret ?_ | refine AWq.zK ?_ | refine AWq.zJ ?_ | refine DrawA.zM ?_ | refine DrawA.zN ?_ | (refine Both.mk ?_ ?_ <;> intro hc <;> (first | exact Bool.noConfusion hc | (exfalso; omega) | skip)) | (intro c hc; (try (simp only [AH.zA] at hc; repeat (have hn := hc.1; replace hc := hc.2))); (first | (refine zP hc ?_ ?_ ?_ ; omega; omega; (clear hc; intro hc; subst hc)) | (refine u64_k hc ?_ ?_ ?_ ; omega; omega; (clear hc; intro hc; subst hc)) | skip)) | (apply Exists.intro; apply And.intro; (first | (focus (repeat (first | (with_reducible assumption) | (with_reducible exact AH.zC _ _ _))); done))) | (apply And.intro; (first | rfl | (with_reducible assumption) | omega | (simp <;> fail) | (focus (repeat' (first | (with_reducible assumption) | exact one_iS _ _ | rfl | apply one_take)); done))))) <;> (try (conv => whnf))
   exact congrArg (fun l => AH.set H c (.row l 0)) (iL_congr fun k hk => by rw [if_pos (by omega)])
def mdH (H : AH) (p q n : Nat) (c : Nat → Nat) : AH := (H.set q (.row (iL n fun k => (c k : Int)) 0)).set p (.row [.sl q 0 1 0 n none, .int .i64 (plc c n : Nat)] 0)
set_option maxRecDepth 8000 in
theorem fresh_c (n : Nat) (h1 : 1 ≤ n) (h2 : n ≤ 1000000) (H : AH) :
  ACall Try.prog 103 [.int .i64 n] H (fun y H' => ∃ p q, H p = none ∧ H q = none ∧ p ≠ q ∧ y = .ptr p 0 0 ∧ H' = mdH H p q n fun _ => 1) := by
 refine zQ zU (dok _) Try.func103 rfl (by decide) rfl ?_
 (repeat' ((conv => whnf); first | refine Then.mk ?_ | left | refine OpsA.zD ?_ | refine OpsA.zE ?_ | refine AWq.zI ?_ | refine AWq.zB ?_ | refine AWq.ret ?_ | (intro c hc; (try (simp only [AH.zA] at hc; repeat (have hn := hc.1; replace hc := hc.2))); (first | skip)) | (apply And.intro; (first | rfl)))) <;> (try (conv => whnf))
 refine (Repeat_c n h1 h2 _).mono ?_
 rintro y H' ⟨q, hq, rfl, rfl⟩
 (repeat' ((conv => whnf); first | refine Then.mk ?_ | left | refine OpsA.zD ?_ | refine OpsA.zE ?_ | refine AWq.zI ?_ | refine AWq.zB ?_ | refine AWq.ret ?_ | (intro c hc; (try (simp only [AH.zA] at hc; repeat (have hn := hc.1; replace hc := hc.2))); (first | skip)) | (apply And.intro; (first | rfl)))) <;> (try (conv => whnf))
 refine ⟨c, q, hc, hq, hn, rfl, ?_⟩
 unfold mdH
 rw [plc_ones]
 rfl
open Go.Fw Go
structure MdAt (H : AH) (p q n : Nat) (c : Nat → Nat) : Prop where
 hp : H p = some (.row [.sl q 0 1 0 n none, .int .i64 (plc c n : Nat)] 0)
 hq : H q = some (.row (iL n fun k => (c k : Int)) 0)
 ne : p ≠ q
 ok : MdOk n c
theorem MdAt.set {H : AH} {p q n : Nat} {c d : Nat → Nat} (h : p ≠ q) (hd : MdOk n d) : MdAt (mdH H p q n d) p q n d := by
 refine ⟨AH.zC _ _ _, ?_, h, hd⟩
 unfold mdH
 rw [AH.zR _ _ (Ne.symm h), AH.zC]
theorem iL_gi {n i : Nat} (X : Ln) (h : i < n) : (iL n X)[(i : Int).toNat]? = some (.int .i64 (X i)) := iL_get X h
set_option maxRecDepth 8000 in
theorem place_c {H : AH} {p q n : Nat} {c : Nat → Nat} (h : MdAt H p q n c) (s : Nat) (hs : s ≤ n) :
  ACall Try.prog 104 [.ptr p 0 0, .int .i64 s] H (fun y H' => y = .int .i64 (plc c s : Nat) ∧ H' = H) := by
 obtain ⟨hp, hq, hne, hok⟩ := h
 have hn := hok.hn
 obtain ⟨T, hT⟩ : ∃ T : Nat, T = plc c n := ⟨_, rfl⟩
 have hTb : T ≤ 32768 := by rw [hT]; exact hok.sum
 rw [← hT] at hp
 have hcell := fun i (hi : i < n) => iL_gi (fun k => (c k : Int)) hi
 have hlen : (iL n fun k => (c k : Int)).length = n := iL_len _ _
 generalize (iL n fun k => (c k : Int)) = cells at *
 refine zQ zU (dok _) Try.func104 rfl (by decide) rfl ?_
 (repeat' ((conv => whnf); first | refine Then.mk ?_ | refine OpsA.zD ?_ | refine OpsA.zE ?_ | refine AWq.zI ?_ | refine AWq.zB ?_ | refine AWq.zG ?_ | refine AWq.zF ?_ | refine AWq.zH ?_ | refine AWq.ret ?_ | refine AWq.zK ?_ | refine AWq.zJ ?_ | (refine Both.mk ?_ ?_ <;> intro hc <;> (first | exact Bool.noConfusion hc | (exfalso; omega) | skip)) | (intro c hc; (try (simp only [AH.zA] at hc; repeat (have hn := hc.1; replace hc := hc.2))); (first | (refine zP hc ?_ ?_ ?_ ; omega; omega; (clear hc; intro hc; subst hc)) | skip)) | (apply Exists.intro; apply And.intro; (first | (focus (repeat (first | (with_reducible assumption))); done))) | (apply Exists.intro; apply And.intro; first | (with_reducible assumption) | ((try simp only [zW, z0z, zZ, zY]); first | (with_reducible assumption) | rfl)) | (apply And.intro; (first | rfl | (with_reducible assumption) | omega)))) <;> (try (conv => whnf))
 refine zT (σ := Nat) (5 :: 7 :: 15 :: 16 :: 17 :: 18 :: 19 :: 20 :: 21 :: 22 :: []) (fun i => [(15, .int .i64 i), (5, .int .i64 (plc c i : Nat))]) (fun _ => H) (fun i => i ≤ s) (fun i => s - i) 0 rfl ?_ ?_ ?_ ?_
 ·exact Nat.zero_le _
 ·exact ⟨rfl, rfl, trivial⟩
 ·exact HLe.refl _
 ·rintro i hi
  dsimp only at hi ⊢
  refine AWp.of zU (dok _) rfl ?_
  have hpl : plc c i ≤ T := by rw [hT]; exact plc_le (by omega)
  by_cases his : i < s
  ·have hg := hcell i (by omega)
   have hci := hok.le (show i < n by omega)
   (repeat' ((conv => whnf); first | refine Then.mk ?_ | refine OpsA.zD ?_ | refine OpsA.zE ?_ | refine AWq.zI ?_ | refine AWq.zB ?_ | refine AWq.zG ?_ | refine AWq.zF ?_ | refine AWq.zH ?_ | refine AWq.ret ?_ | refine AWq.zK ?_ | refine AWq.zJ ?_ | (refine Both.mk ?_ ?_ <;> intro hc <;> (first | exact Bool.noConfusion hc | (exfalso; omega) | skip)) | (intro c hc; (try (simp only [AH.zA] at hc; repeat (have hn := hc.1; replace hc := hc.2))); (first | (refine zP hc ?_ ?_ ?_ ; omega; omega; (clear hc; intro hc; subst hc)) | skip)) | (apply Exists.intro; apply And.intro; (first | (focus (repeat (first | (with_reducible assumption))); done))) | (apply Exists.intro; apply And.intro; first | (with_reducible assumption) | ((try simp only [zW, z0z, zZ, zY]); first | (with_reducible assumption) | rfl)) | (apply And.intro; (first | rfl | (with_reducible assumption) | omega)))) <;> (try (conv => whnf))
   exact ⟨i + 1, by omega, by omega, ⟨congrArg (AV.int .i64) (by omega), congrArg (AV.int .i64) (by show ((plc c i : Nat) : Int) + (c i : Int) = ((plc c i + c i : Nat) : Int); omega), trivial⟩, HLe.refl _⟩
  ·have hie : i = s := by omega
   subst hie
   (repeat' ((conv => whnf); first | refine Then.mk ?_ | refine OpsA.zD ?_ | refine OpsA.zE ?_ | refine AWq.zI ?_ | refine AWq.zB ?_ | refine AWq.zG ?_ | refine AWq.zF ?_ | refine AWq.zH ?_ | refine AWq.ret ?_ | refine AWq.zK ?_ | refine AWq.zJ ?_ | (refine Both.mk ?_ ?_ <;> intro hc <;> (first | exact Bool.noConfusion hc | (exfalso; omega) | skip)) | (intro c hc; (try (simp only [AH.zA] at hc; repeat (have hn := hc.1; replace hc := hc.2))); (first | (refine zP hc ?_ ?_ ?_ ; omega; omega; (clear hc; intro hc; subst hc)) | skip)) | (apply Exists.intro; apply And.intro; (first | (focus (repeat (first | (with_reducible assumption))); done))) | (apply Exists.intro; apply And.intro; first | (with_reducible assumption) | ((try simp only [zW, z0z, zZ, zY]); first | (with_reducible assumption) | rfl)) | (apply And.intro; (first | rfl | (with_reducible assumption) | omega)))) <;> (try (conv => whnf))
theorem wrA_same' {l : List AV} {k : Nat} (v : AV) (h : k < l.length) : (wrA l k [v])[k]? = some v := by
 unfold wrA
 rw [List.append_assoc, List.getElem?_append_right (by rw [List.length_take]; omega), List.length_take, Nat.min_eq_left (by omega), Nat.sub_self]
 rfl
set_option maxRecDepth 8000 in
theorem see_c {H : AH} {p q n : Nat} {c : Nat → Nat} (h : MdAt H p q n c) (s : Nat) (hs : s < n) :
  ACall Try.prog 105 [.ptr p 0 0, .int .i64 s] H (fun y H' => y = .int .i64 0 ∧ H' = mdH H p q n (seeM n c s)) := by
 obtain ⟨hp, hq, hne, hok⟩ := h
 have hn := hok.hn
 have hu : plc (upM c s) n = plc c n + 32 := by
  have := plc_add (c := c) (s := s) (a := 32) (n := n)
  rw [if_pos hs] at this
  exact this
 have hTb := hok.sum
 have hcs := hok.le hs
 have hpu : ∀ k, k < n → upM c s k ≤ 32800 := fun k hk => by
  have := hok.le hk
  unfold upM; split <;> omega
 obtain ⟨T, hT⟩ : ∃ T : Nat, T = plc c n := ⟨_, rfl⟩
 rw [← hT] at hp hTb hu
 obtain ⟨cells, hce⟩ : ∃ cells, cells = iL n fun k => (c k : Int) := ⟨_, rfl⟩
 have hg : cells[(s : Int).toNat]? = some (.int .i64 (c s)) := by rw [hce]; exact iL_gi (fun k => (c k : Int)) hs
 have hlen : cells.length = n := by rw [hce]; exact iL_len _ _
 have hw : wrA cells (0 + (s : Int).toNat * 1) [.int .i64 ((c s : Int) + 32)] = iL n fun k => (upM c s k : Int) := by
  rw [Nat.zero_add, Nat.mul_one, Int.toNat_natCast, hce, iL_wr _ hs]
  refine iL_congr fun k hk => ?_
  unfold upM
  split
  ·rename_i e; rw [e]; omega
  ·rfl
 rw [← hce] at hq
 have hqp : q ≠ p := Ne.symm hne
 refine zQ zU (dok _) Try.func105 rfl (by decide) rfl ?_
 by_cases hbig : 32768 < T + 32
 ·(repeat' ((conv => whnf); first | refine Then.mk ?_ | refine OpsA.zD ?_ | refine OpsA.zE ?_ | refine AWq.zI ?_ | refine AWq.zB ?_ | refine AWq.zG ?_ | refine AWq.zF ?_ | refine AWq.zH ?_ | refine AWq.ret ?_ | refine AWq.zK ?_ | refine AWq.zJ ?_ | refine DrawA.zM ?_ | refine DrawA.zN ?_ | refine AWq.zO (by decide +kernel) ?_ | (refine Both.mk ?_ ?_ <;> intro hc <;> (first | exact Bool.noConfusion hc | (exfalso; omega) | skip)) | (intro c hc; (try (simp only [AH.zA] at hc; repeat (have hn := hc.1; replace hc := hc.2))); (first | (refine zP hc ?_ ?_ ?_ ; omega; omega; (clear hc; intro hc; subst hc)) | skip)) | (apply Exists.intro; apply And.intro; (first | (focus (repeat (first | (with_reducible assumption) | (with_reducible exact AH.zC _ _ _) | ((first | refine AH.zL ?_ ?_); (first | (with_reducible assumption))))); done))) | (apply Exists.intro; apply And.intro; first | (with_reducible assumption) | ((try simp only [zW, z0z, zZ, zY]); first | (with_reducible assumption) | assumption | rfl)) | (apply And.intro; (first | rfl | (with_reducible assumption) | exact zX rfl | omega | assumption | (simp <;> omega))))) <;> (try (conv => whnf))
  refine zT (σ := Nat) (5 :: 6 :: 47 :: 48 :: 49 :: 50 :: 51 :: 52 :: 53 :: 54 :: 55 :: 56 :: 57 :: 58 :: 59 :: 60 :: 61 :: 62 :: 63 :: 64 :: 65 :: 66 :: 67 :: 68 :: 69 :: 70 :: 71 :: 72 :: 73 :: 74 :: 75 :: []) (fun i => [(47, .int .i64 i)]) (fun i => (H.set q (.row (iL n fun k => ((if k < i then (upM c s k + 1) / 2 else upM c s k : Nat) : Int)) 0)).set p (.row [.sl q 0 1 0 n none, .int .i64 (plc (fun k => (upM c s k + 1) / 2) i : Nat)] 0)) (fun i => i ≤ n) (fun i => n - i) 0 rfl ?_ ?_ ?_ ?_
  ·exact Nat.zero_le _
  ·exact ⟨rfl, trivial⟩
  ·refine HLe.of_eq ?_
   have e0 : (iL n fun k => ((if k < 0 then (upM c s k + 1) / 2 else upM c s k : Nat) : Int)) = wrA cells (0 + (s : Int).toNat * 1) [.int .i64 ((c s : Int) + 32)] := by
    rw [hw]; exact iL_congr fun k hk => by rw [if_neg (by omega)]
   rw [e0]
   ((funext s; simp only [AH.set, AH.del]; repeat' split) <;> (first | rfl | (exfalso; omega)))
  ·rintro i hi
   dsimp only at hi ⊢
   refine AWp.of zU (dok _) rfl ?_
   by_cases hin : i < n
   ·have hh : 2 * plc (fun k => (upM c s k + 1) / 2) i ≤ plc (upM c s) i + i := plc_half
    have hh2 : plc (upM c s) i ≤ plc (upM c s) n := plc_le hi
    obtain ⟨hT2, hTT⟩ : ∃ x : Nat, x = plc (fun k => (upM c s k + 1) / 2) i := ⟨_, rfl⟩
    have hui := hpu i hin
    have ht : (((upM c s i : Int) + 1)).tdiv 2 = ((upM c s i + 1) / 2 : Nat) := by
     rw [Int.tdiv_eq_ediv_of_nonneg (by omega)]; omega
    have hx : (upM c s i + 1) / 2 ≤ 16400 := by omega
    obtain ⟨z, hz⟩ : ∃ z, z = iL n fun k => ((if k < i then (upM c s k + 1) / 2 else upM c s k : Nat) : Int) := ⟨_, rfl⟩
    have g1 : z[(i : Int).toNat]? = some (.int .i64 (upM c s i)) := by
     rw [hz]; refine (iL_gi _ hin).trans ?_
     rw [if_neg (by omega)]
    have hzl : z.length = n := by rw [hz]; exact iL_len _ _
    have g2 : (wrA z (i : Int).toNat [.int .i64 (((upM c s i : Int) + 1).tdiv 2)])[(i : Int).toNat]? = some (.int .i64 (((upM c s i : Int) + 1).tdiv 2)) := by
     rw [Int.toNat_natCast]
     exact wrA_same' _ (by omega)
    have w2 : wrA z (0 + (i : Int).toNat * 1) [.int .i64 (((upM c s i : Int) + 1).tdiv 2)] = iL n fun k => ((if k < i + 1 then (upM c s k + 1) / 2 else upM c s k : Nat) : Int) := by
     rw [Nat.zero_add, Nat.mul_one, Int.toNat_natCast, hz, iL_wr _ hin, ht]
     refine iL_congr fun k hk => ?_
     by_cases e : k = i
     ·subst e; rw [if_pos rfl, if_pos (by omega)]
     ·rw [if_neg e]
      by_cases e2 : k < i
      ·rw [if_pos e2, if_pos (by omega)]
      ·rw [if_neg e2, if_neg (by omega)]
    have w1 : (plc (fun k => (upM c s k + 1) / 2) i : Int) + ((upM c s i : Int) + 1).tdiv 2 = (plc (fun k => (upM c s k + 1) / 2) (i + 1) : Nat) := by
     rw [ht]
     show _ = ((plc (fun k => (upM c s k + 1) / 2) i + (upM c s i + 1) / 2 : Nat) : Int)
     omega
    rw [← hz]
    (repeat' ((conv => whnf); first | refine Then.mk ?_ | refine OpsA.zD ?_ | refine OpsA.zE ?_ | refine AWq.zI ?_ | refine AWq.zB ?_ | refine AWq.zG ?_ | refine AWq.zF ?_ | refine AWq.zH ?_ | refine AWq.ret ?_ | refine AWq.zK ?_ | refine AWq.zJ ?_ | refine DrawA.zM ?_ | refine DrawA.zN ?_ | refine AWq.zO (by decide +kernel) ?_ | (refine Both.mk ?_ ?_ <;> intro hc <;> (first | exact Bool.noConfusion hc | (exfalso; omega) | skip)) | (intro c hc; (try (simp only [AH.zA] at hc; repeat (have hn := hc.1; replace hc := hc.2))); (first | (refine zP hc ?_ ?_ ?_ ; omega; omega; (clear hc; intro hc; subst hc)) | skip)) | (apply Exists.intro; apply And.intro; (first | (focus (repeat (first | (with_reducible assumption) | (with_reducible exact AH.zC _ _ _) | ((first | refine AH.zL ?_ ?_); (first | (with_reducible assumption))))); done))) | (apply Exists.intro; apply And.intro; first | (with_reducible assumption) | ((try simp only [zW, z0z, zZ, zY]); first | (with_reducible assumption) | assumption | rfl)) | (apply And.intro; (first | rfl | (with_reducible assumption) | exact zX rfl | omega | assumption | (simp <;> omega))))) <;> (try (conv => whnf))
    refine ⟨i + 1, by omega, by omega, ⟨congrArg (AV.int .i64) (by omega), trivial⟩, HLe.of_eq ?_⟩
    rw [← w2, ← w1]
    ((funext s; simp only [AH.set, AH.del]; repeat' split) <;> (first | rfl | (exfalso; omega)))
   ·have hie : i = n := by omega
    subst hie
    (repeat' ((conv => whnf); first | refine Then.mk ?_ | refine OpsA.zD ?_ | refine OpsA.zE ?_ | refine AWq.zI ?_ | refine AWq.zB ?_ | refine AWq.zG ?_ | refine AWq.zF ?_ | refine AWq.zH ?_ | refine AWq.ret ?_ | refine AWq.zK ?_ | refine AWq.zJ ?_ | refine DrawA.zM ?_ | refine DrawA.zN ?_ | refine AWq.zO (by decide +kernel) ?_ | (refine Both.mk ?_ ?_ <;> intro hc <;> (first | exact Bool.noConfusion hc | (exfalso; omega) | skip)) | (intro c hc; (try (simp only [AH.zA] at hc; repeat (have hn := hc.1; replace hc := hc.2))); (first | (refine zP hc ?_ ?_ ?_ ; omega; omega; (clear hc; intro hc; subst hc)) | skip)) | (apply Exists.intro; apply And.intro; (first | (focus (repeat (first | (with_reducible assumption) | (with_reducible exact AH.zC _ _ _) | ((first | refine AH.zL ?_ ?_); (first | (with_reducible assumption))))); done))) | (apply Exists.intro; apply And.intro; first | (with_reducible assumption) | ((try simp only [zW, z0z, zZ, zY]); first | (with_reducible assumption) | assumption | rfl)) | (apply And.intro; (first | rfl | (with_reducible assumption) | exact zX rfl | omega | assumption | (simp <;> omega))))) <;> (try (conv => whnf))
    have e : seeM i c s = fun k => (upM c s k + 1) / 2 := if_pos (by omega)
    unfold mdH
    rw [e]
    have e2 : (iL i fun k => ((if k < i then (upM c s k + 1) / 2 else upM c s k : Nat) : Int)) = iL i fun k => (((upM c s k + 1) / 2 : Nat) : Int) := iL_congr fun k hk => by rw [if_pos hk]
    rw [e2]
 ·(repeat' ((conv => whnf); first | refine Then.mk ?_ | refine OpsA.zD ?_ | refine OpsA.zE ?_ | refine AWq.zI ?_ | refine AWq.zB ?_ | refine AWq.zG ?_ | refine AWq.zF ?_ | refine AWq.zH ?_ | refine AWq.ret ?_ | refine AWq.zK ?_ | refine AWq.zJ ?_ | refine DrawA.zM ?_ | refine DrawA.zN ?_ | refine AWq.zO (by decide +kernel) ?_ | (refine Both.mk ?_ ?_ <;> intro hc <;> (first | exact Bool.noConfusion hc | (exfalso; omega) | skip)) | (intro c hc; (try (simp only [AH.zA] at hc; repeat (have hn := hc.1; replace hc := hc.2))); (first | (refine zP hc ?_ ?_ ?_ ; omega; omega; (clear hc; intro hc; subst hc)) | skip)) | (apply Exists.intro; apply And.intro; (first | (focus (repeat (first | (with_reducible assumption) | (with_reducible exact AH.zC _ _ _) | ((first | refine AH.zL ?_ ?_); (first | (with_reducible assumption))))); done))) | (apply Exists.intro; apply And.intro; first | (with_reducible assumption) | ((try simp only [zW, z0z, zZ, zY]); first | (with_reducible assumption) | assumption | rfl)) | (apply And.intro; (first | rfl | (with_reducible assumption) | exact zX rfl | omega | assumption | (simp <;> omega))))) <;> (try (conv => whnf))
  show (H.set q (.row (wrA cells (0 + (s : Int).toNat * 1) [.int .i64 ((c s : Int) + 32)]) 0)).set p (.row [.sl q 0 1 0 n none, .int .i64 ((T : Int) + 32)] 0) = _
  have e : seeM n c s = upM c s := if_neg (by omega)
  unfold mdH
  rw [e, hw, hu]
  rfl
open Go.Fw Go
theorem wr64 {r : Nat} (h : r < 18446744073709551616) : IntKind.u64.wrap (r : Int) = r := by rw [wrap_u64']; omega
theorem wrap_u8' (x : Int) : IntKind.u8.wrap x = x % 256 := by show x.emod (2 ^ 8) = _; rfl
set_option maxRecDepth 8000 in
theorem narrow_c {H : AH} {w : Nat} {x : AV} {low W p c t : Nat} (hw : H w = some (.row [.int .u64 low, .int .u64 W, x] 0)) (hs : StOk p c t) (hW : W ≤ 4294967296) :
  ACall Try.prog 106 [.ptr w 0 0, .int .i64 c, .int .i64 t, .int .i64 p] H (fun y H' => y = .int .u64 (W / t * p : Nat) ∧ H' = H.set w (.row [.int .u64 low, .int .u64 (W / t * c : Nat), x] 0)) := by
 obtain ⟨h1, h2, h3⟩ := hs
 have hd : (W : Int).tdiv (t : Int) = (W / t : Nat) := (Int.ofNat_tdiv W t).symm
 have a1 : W / t * p ≤ W := Nat.le_trans (Nat.mul_le_mul_left _ (show p ≤ t by omega)) (Nat.div_mul_le_self _ _)
 have a2 : W / t * c ≤ W := Nat.le_trans (Nat.mul_le_mul_left _ (show c ≤ t by omega)) (Nat.div_mul_le_self _ _)
 have a3 : W / t ≤ W := Nat.div_le_self _ _
 have b1 := Int.natCast_mul (W / t) p
 have b2 := Int.natCast_mul (W / t) c
 have e1 : IntKind.u64.wrap ((W : Int).tdiv (t : Int)) = (W / t : Nat) := by rw [hd]; exact wr64 (by omega)
 have e2 : IntKind.u64.wrap (((W / t : Nat) : Int) * p) = (W / t * p : Nat) := by rw [← b1]; exact wr64 (by omega)
 have e3 : IntKind.u64.wrap (((W / t : Nat) : Int) * c) = (W / t * c : Nat) := by rw [← b2]; exact wr64 (by omega)
 refine zQ zU (dok _) Try.func106 rfl (by decide) rfl ?_
 (repeat' ((conv => whnf); first | refine Then.mk ?_ | refine OpsA.zD ?_ | refine OpsA.zE ?_ | refine AWq.zI ?_ | refine AWq.zB ?_ | refine AWq.ret ?_ | (intro c hc; (try (simp only [AH.zA] at hc; repeat (have hn := hc.1; replace hc := hc.2))); (first | (have hc2 := Eq.trans hc (by with_reducible assumption); clear hc; subst hc2) | (refine u64_k hc ?_ ?_ ?_ ; omega; omega; (clear hc; intro hc; subst hc)))) | (apply Exists.intro; apply And.intro; (first | (focus (repeat (first | (with_reducible assumption))); done))) | (apply Exists.intro; apply And.intro; first | (with_reducible assumption) | ((try simp only [zW, z0z, zZ, zY]); first | (with_reducible assumption) | rfl)) | (apply And.intro; (first | rfl | (with_reducible assumption) | exact zX rfl | omega)))) <;> (try (conv => whnf))
 rfl
def wtH (H : AH) (w r v : Nat) (bs : List UInt8) (low W : Nat) : AH := (H.set r (.row (u8s bs) v)).set w (.row [.int .u64 low, .int .u64 W, .sl r v 1 0 bs.length none] 0)
def wcH (H : AH) (w r : Nat) (σ : Cs) : AH := wtH H w r σ.L (dig σ.L (σ.V / 4294967296)) (σ.V % 4294967296) σ.W
def car (L top k : Nat) : List UInt8 := dig (L - k) (top / 256 ^ k) ++ List.replicate k 0
theorem car_len {L top k : Nat} (h : k ≤ L) : (car L top k).length = L := by simp [car]; omega
theorem car_zero (L top : Nat) : car L top 0 = dig L top := by simp [car]
theorem dig_succ (m y : Nat) : dig (m + 1) y = dig m (y / 256) ++ [UInt8.ofNat (y % 256)] := rfl
theorem car_get {L top k : Nat} (h : k < L) : (u8s (car L top k))[L - 1 - k]? = some (.int .u8 ((top / 256 ^ k % 256 : Nat) : Int)) := by
 have e : L - k = (L - 1 - k) + 1 := by omega
 have hd : (UInt8.ofNat (top / 256 ^ k % 256)).toNat = top / 256 ^ k % 256 := by simp
 unfold car u8s
 rw [e, dig_succ, List.append_assoc, List.getElem?_map, List.getElem?_append_right (by simp), dig_len, Nat.sub_self]
 show some (AV.int .u8 ((UInt8.ofNat (top / 256 ^ k % 256)).toNat : Int)) = _
 rw [hd]
theorem set_mid {α : Type} (a c : List α) (x y : α) : (a ++ [x] ++ c).set a.length y = a ++ [y] ++ c := by
 rw [List.append_assoc, List.set_append_right _ _ (Nat.le_refl _), Nat.sub_self, List.append_assoc]; rfl
theorem car_wr {L top k : Nat} (h : k < L) (y : UInt8) : wrA (u8s (car L top k)) (L - 1 - k) [.int .u8 y.toNat] = u8s (dig (L - 1 - k) (top / 256 ^ (k + 1)) ++ [y] ++ List.replicate k 0) := by
 have e : L - k = (L - 1 - k) + 1 := by omega
 have hl : (dig (L - 1 - k) (top / 256 ^ k / 256)).length = L - 1 - k := dig_len _ _
 rw [wr_u8s (by rw [car_len (by omega)]; omega)]
 congr 1
 unfold car
 rw [e, dig_succ, Nat.pow_succ, ← Nat.div_div_eq_div_mul]
 have := set_mid (dig (L - 1 - k) (top / 256 ^ k / 256)) (List.replicate k 0) (UInt8.ofNat (top / 256 ^ k % 256)) y
 rw [hl] at this
 exact this
theorem car_next {L top k : Nat} (h : k < L) : dig (L - 1 - k) (top / 256 ^ (k + 1)) ++ [0] ++ List.replicate k 0 = car L top (k + 1) := by
 unfold car
 rw [List.append_assoc, show L - (k + 1) = L - 1 - k by omega]
 congr 1
theorem car_end {L top k : Nat} (h : k < L) (h1 : top + 1 = (top / 256 ^ k + 1) * 256 ^ k) (h2 : top / 256 ^ k % 256 ≠ 255) :
  dig (L - 1 - k) (top / 256 ^ (k + 1)) ++ [UInt8.ofNat (top / 256 ^ k % 256 + 1)] ++ List.replicate k 0 = dig L (top + 1) := by
 rw [h1]
 have e : L = (L - 1 - k + 1) + k := by omega
 have := dig_zeros (L - 1 - k + 1) (top / 256 ^ k + 1) k
 rw [← e] at this
 rw [this, Nat.pow_succ, ← Nat.div_div_eq_div_mul, dig_succ]
 have hb : top / 256 ^ k % 256 < 256 := Nat.mod_lt _ (by decide)
 rw [show (top / 256 ^ k + 1) / 256 = top / 256 ^ k / 256 by omega, show (top / 256 ^ k + 1) % 256 = top / 256 ^ k % 256 + 1 by omega]
theorem car_inv {top k : Nat} (h1 : top + 1 = (top / 256 ^ k + 1) * 256 ^ k) (h2 : top / 256 ^ k % 256 = 255) : top + 1 = (top / 256 ^ (k + 1) + 1) * 256 ^ (k + 1) := by
 have e : top / 256 ^ (k + 1) = top / 256 ^ k / 256 := by rw [Nat.pow_succ, Nat.div_div_eq_div_mul]
 have e2 : top / 256 ^ k + 1 = (top / 256 ^ k / 256 + 1) * 256 := by omega
 rw [e, Nat.pow_succ, Nat.mul_comm (256 ^ k) 256, ← Nat.mul_assoc, ← e2]
 exact h1
set_option maxHeartbeats 4000000 in
set_option maxRecDepth 8000 in
theorem wstep_c {H : AH} {w r : Nat} {σ : Cs} {p c t : Nat} (hwr : w ≠ r) (hc : CsOk σ) (hs : StOk p c t) (hL : σ.L ≤ 1000000000000) :
  ACall Try.prog 85 [.ptr w 0 0, .int .i64 p, .int .i64 c, .int .i64 t] (wcH H w r σ) (fun y H' => y = .tup [] ∧ H' = wcH H w r (stp σ p c t)) := by
 obtain ⟨v, hv⟩ : ∃ v, v = σ.L := ⟨_, rfl⟩
 obtain ⟨low, hlow⟩ : ∃ low, low = σ.V % 4294967296 := ⟨_, rfl⟩
 obtain ⟨top, htop⟩ : ∃ top, top = σ.V / 4294967296 := ⟨_, rfl⟩
 have hw : wcH H w r σ w = some (.row [.int .u64 low, .int .u64 σ.W, .sl r v 1 0 (dig σ.L top).length none] 0) := by
  rw [hlow, htop, hv]; exact AH.zC _ _ _
 have hn := narrow_c hw hs hc.hi
 obtain ⟨k1, k2, k3, k4⟩ := nrw_ok hc hs
 have hi := hc.hi
 have hroom := hc.room
 have k3 : σ.V + σ.W / t * p + σ.W / t * c ≤ σ.V + σ.W := k3
 have k1 : 512 ≤ σ.W / t * c := k1
 have k2 : σ.W / t * c ≤ σ.W := k2
 have hst : stp σ p c t = shf 3 ⟨σ.V + σ.W / t * p, σ.W / t * c, σ.L⟩ := rfl
 rw [hst]
 have hrw : r ≠ w := Ne.symm hwr
 obtain ⟨X, hX⟩ : ∃ X, X = σ.W / t * p := ⟨_, rfl⟩
 obtain ⟨Y, hY⟩ : ∃ Y, Y = σ.W / t * c := ⟨_, rfl⟩
 rw [← hX, ← hY] at k3 ⊢
 rw [← hX] at k4 hn
 rw [← hY] at k1 k2 hn
 have hH : wcH H w r σ = wtH H w r v (dig σ.L top) low σ.W := by rw [hlow, htop, hv]; rfl
 rw [hH] at hw hn ⊢
 clear hst hH
 refine zQ zU (dok _) Try.func85 rfl (by decide) rfl ?_
 refine AWq.zI ?_
 refine AWq.drawF mo ([20], [13]) (fun G => ∃ W' x, G w = some (.row [.int .u64 low, W', x] 0)) ⟨_, _, hw⟩ (by decide +kernel) ?_
 (repeat' ((conv => whnf); first | refine Then.mk ?_ | refine OpsA.zD ?_ | refine OpsA.zE ?_ | refine AWq.zI ?_ | refine AWq.zB ?_ | refine AWq.zG ?_ | refine AWq.zF ?_ | refine AWq.zH ?_ | refine AWq.zK ?_ | refine AWq.zJ ?_ | refine DrawA.zM ?_ | refine DrawA.zN ?_ | refine DrawF.consD ?_ | refine DrawF.nil ?_ | refine AWq.zO (by decide +kernel) ?_ | (apply Exists.intro; apply Exists.intro; apply And.intro; exact hn) | (refine Both.mk ?_ ?_ <;> intro hc <;> (first | exact Bool.noConfusion hc | exact absurd hc (by assumption) | (exfalso; omega) | skip)) | (intro c hc; (try (simp only [AH.zA] at hc; repeat (have hn := hc.1; replace hc := hc.2))); (first | (have hc2 := Eq.trans hc (by with_reducible assumption); clear hc; subst hc2) | (refine zP hc ?_ ?_ ?_ ; omega; omega; (clear hc; intro hc; subst hc)) | (refine u64_k hc ?_ ?_ ?_ ; omega; omega; (clear hc; intro hc; subst hc)) | (refine u8_k hc ?_ ?_ ?_ ; omega; omega; (clear hc; intro hc; subst hc)) | skip)) | (apply Exists.intro; apply And.intro; (first | (focus (repeat (first | (with_reducible assumption) | (with_reducible exact AH.zC _ _ _) | ((first | refine AH.zL ?_ ?_); (first | (with_reducible assumption))))); done) | (focus (repeat (first | exact AH.zC _ _ _)); done))) | (apply Exists.intro; apply And.intro; first | (with_reducible assumption) | ((try simp only [zW, z0z, zZ, zY]); first | (with_reducible assumption) | rfl)) | (apply And.intro; (first | rfl | (with_reducible assumption) | exact zX rfl | omega | (simp <;> omega))))) <;> (try (conv => whnf))
 refine ⟨.int .u64 low, ?_, ?_, ?_⟩
 ·(repeat' ((conv => whnf); first | refine Then.mk ?_ | refine OpsA.zD ?_ | refine OpsA.zE ?_ | refine AWq.zI ?_ | refine AWq.zB ?_ | refine AWq.zG ?_ | refine AWq.zF ?_ | refine AWq.zH ?_ | refine AWq.zK ?_ | refine AWq.zJ ?_ | refine DrawA.zM ?_ | refine DrawA.zN ?_ | refine DrawF.consD ?_ | refine DrawF.nil ?_ | refine AWq.zO (by decide +kernel) ?_ | (refine Both.mk ?_ ?_ <;> intro hc <;> (first | exact Bool.noConfusion hc | exact absurd hc (by assumption) | (exfalso; omega) | skip)) | (intro c hc; (try (simp only [AH.zA] at hc; repeat (have hn := hc.1; replace hc := hc.2))); (first | (have hc2 := Eq.trans hc (by with_reducible assumption); clear hc; subst hc2) | (refine zP hc ?_ ?_ ?_ ; omega; omega; (clear hc; intro hc; subst hc)) | (refine u64_k hc ?_ ?_ ?_ ; omega; omega; (clear hc; intro hc; subst hc)) | (refine u8_k hc ?_ ?_ ?_ ; omega; omega; (clear hc; intro hc; subst hc)) | skip)) | (apply Exists.intro; apply And.intro; (first | (focus (repeat (first | (with_reducible assumption) | (with_reducible exact AH.zC _ _ _) | ((first | refine AH.zL ?_ ?_); (first | (with_reducible assumption))))); done) | (focus (repeat (first | exact AH.zC _ _ _)); done))) | (apply Exists.intro; apply And.intro; first | (with_reducible assumption) | ((try simp only [zW, z0z, zZ, zY]); first | (with_reducible assumption) | rfl)) | (apply And.intro; (first | rfl | (with_reducible assumption) | exact zX rfl | omega | (simp <;> omega))))) <;> (try (conv => whnf))
 ·intro G hG
  obtain ⟨W', x, hG⟩ : ∃ W' x, G w = some (.row [.int .u64 low, W', x] 0) := hG
  (repeat' ((conv => whnf); first | refine Then.mk ?_ | refine OpsA.zD ?_ | refine OpsA.zE ?_ | refine AWq.zI ?_ | refine AWq.zB ?_ | refine AWq.zG ?_ | refine AWq.zF ?_ | refine AWq.zH ?_ | refine AWq.zK ?_ | refine AWq.zJ ?_ | refine DrawA.zM ?_ | refine DrawA.zN ?_ | refine DrawF.consD ?_ | refine DrawF.nil ?_ | refine AWq.zO (by decide +kernel) ?_ | (refine Both.mk ?_ ?_ <;> intro hc <;> (first | exact Bool.noConfusion hc | exact absurd hc (by assumption) | (exfalso; omega) | skip)) | (intro c hc; (try (simp only [AH.zA] at hc; repeat (have hn := hc.1; replace hc := hc.2))); (first | (have hc2 := Eq.trans hc (by with_reducible assumption); clear hc; subst hc2) | (refine zP hc ?_ ?_ ?_ ; omega; omega; (clear hc; intro hc; subst hc)) | (refine u64_k hc ?_ ?_ ?_ ; omega; omega; (clear hc; intro hc; subst hc)) | (refine u8_k hc ?_ ?_ ?_ ; omega; omega; (clear hc; intro hc; subst hc)) | skip)) | (apply Exists.intro; apply And.intro; (first | (focus (repeat (first | (with_reducible assumption) | (with_reducible exact AH.zC _ _ _) | ((first | refine AH.zL ?_ ?_); (first | (with_reducible assumption))))); done) | (focus (repeat (first | exact AH.zC _ _ _)); done))) | (apply Exists.intro; apply And.intro; first | (with_reducible assumption) | ((try simp only [zW, z0z, zZ, zY]); first | (with_reducible assumption) | rfl)) | (apply And.intro; (first | rfl | (with_reducible assumption) | exact zX rfl | omega | (simp <;> omega))))) <;> (try (conv => whnf))
 (repeat' ((conv => whnf); first | refine Then.mk ?_ | refine OpsA.zD ?_ | refine OpsA.zE ?_ | refine AWq.zI ?_ | refine AWq.zB ?_ | refine AWq.zG ?_ | refine AWq.zF ?_ | refine AWq.zH ?_ | refine AWq.zK ?_ | refine AWq.zJ ?_ | refine DrawA.zM ?_ | refine DrawA.zN ?_ | refine DrawF.consD ?_ | refine DrawF.nil ?_ | refine AWq.zO (by decide +kernel) ?_ | (apply Exists.intro; apply Exists.intro; apply And.intro; exact hn) | (refine Both.mk ?_ ?_ <;> intro hc <;> (first | exact Bool.noConfusion hc | exact absurd hc (by assumption) | (exfalso; omega) | skip)) | (intro c hc; (try (simp only [AH.zA] at hc; repeat (have hn := hc.1; replace hc := hc.2))); (first | (have hc2 := Eq.trans hc (by with_reducible assumption); clear hc; subst hc2) | (refine zP hc ?_ ?_ ?_ ; omega; omega; (clear hc; intro hc; subst hc)) | (refine u64_k hc ?_ ?_ ?_ ; omega; omega; (clear hc; intro hc; subst hc)) | (refine u8_k hc ?_ ?_ ?_ ; omega; omega; (clear hc; intro hc; subst hc)) | skip)) | (apply Exists.intro; apply And.intro; (first | (focus (repeat (first | (with_reducible assumption) | (with_reducible exact AH.zC _ _ _) | ((first | refine AH.zL ?_ ?_); (first | (with_reducible assumption))))); done) | (focus (repeat (first | exact AH.zC _ _ _)); done))) | (apply Exists.intro; apply And.intro; first | (with_reducible assumption) | ((try simp only [zW, z0z, zZ, zY]); first | (with_reducible assumption) | rfl)) | (apply And.intro; (first | rfl | (with_reducible assumption) | exact zX rfl | omega | (simp <;> omega))))) <;> (try (conv => whnf))
 refine And.intro (show ∃ W' x, _ = _ from ⟨_, _, AH.zC _ _ _⟩) ?_
 (repeat' ((conv => whnf); first | refine OpsA.zD ?_ | refine OpsA.zE ?_ | refine AWq.zI ?_ | refine AWq.zB ?_ | refine AWq.zG ?_ | refine AWq.zF ?_ | refine AWq.zH ?_ | refine AWq.zK ?_ | refine AWq.zJ ?_ | refine DrawA.zM ?_ | refine DrawA.zN ?_ | refine DrawF.consD ?_ | refine DrawF.nil ?_ | refine AWq.zO (by decide +kernel) ?_ | (refine Both.mk ?_ ?_ <;> intro hc <;> (first | exact Bool.noConfusion hc | exact absurd hc (by assumption) | (exfalso; omega) | skip)) | (intro c hc; (try (simp only [AH.zA] at hc; repeat (have hn := hc.1; replace hc := hc.2))); (first | (have hc2 := Eq.trans hc (by with_reducible assumption); clear hc; subst hc2) | (refine zP hc ?_ ?_ ?_ ; omega; omega; (clear hc; intro hc; subst hc)) | (refine u64_k hc ?_ ?_ ?_ ; omega; omega; (clear hc; intro hc; subst hc)) | (refine u8_k hc ?_ ?_ ?_ ; omega; omega; (clear hc; intro hc; subst hc)) | skip)) | (apply Exists.intro; apply And.intro; (first | (focus (repeat (first | (with_reducible assumption) | (with_reducible exact AH.zC _ _ _) | ((first | refine AH.zL ?_ ?_); (first | (with_reducible assumption))))); done) | (focus (repeat (first | exact AH.zC _ _ _)); done))) | (apply Exists.intro; apply And.intro; first | (with_reducible assumption) | ((try simp only [zW, z0z, zZ, zY]); first | (with_reducible assumption) | rfl)) | (apply And.intro; (first | rfl | (with_reducible assumption) | exact zX rfl | omega | (simp <;> omega))))) <;> (try (conv => whnf))
 refine Then.mk (AWq.in ?_)
 refine AWp_cutd (H2 := wtH H w r v (dig σ.L top) (low + X) Y) [(0, .ptr w 0 0)] rfl ⟨rfl, trivial⟩ (fun _ => rfl) (HLe.of_eq ?_) ?_
 ·refine Eq.trans ?_ (Eq.symm ((congrArg (fun G => AH.set G w _) (AH.zS _ _ _ _)).trans (AH.zS _ _ _ _)))
  exact congrArg (fun z => AH.set _ w (.row [.int .u64 z, .int .u64 Y, .sl r v 1 0 (dig σ.L top).length none] 0)) (Int.natCast_add low X)
 have hlb : low < 4294967296 := by omega
 have htl : 4294967296 ≤ low + X → top + 1 < 256 ^ σ.L := fun h => by
  generalize 256 ^ σ.L = P at hroom ⊢
  omega
 refine AWp.of zU (dok _) rfl ?_
 apply Kept_split
 case main =>
  intro tail
  by_cases hca : 4294967296 ≤ low + X
  ·have htl := htl hca
   have hdl := dig_len σ.L top
   (repeat' ((conv => whnf); first | refine Then.mk ?_ | refine OpsA.zD ?_ | refine OpsA.zE ?_ | refine AWq.zI ?_ | refine AWq.zB ?_ | refine AWq.zG ?_ | refine AWq.zF ?_ | refine AWq.zH ?_ | refine AWq.zK ?_ | refine AWq.zJ ?_ | refine DrawA.zM ?_ | refine DrawA.zN ?_ | refine DrawF.consD ?_ | refine DrawF.nil ?_ | refine AWq.zO (by decide +kernel) ?_ | (refine Both.mk ?_ ?_ <;> intro hc <;> (first | exact Bool.noConfusion hc | exact absurd hc (by assumption) | (exfalso; omega) | skip)) | (intro c hc; (try (simp only [AH.zA] at hc; repeat (have hn := hc.1; replace hc := hc.2))); (first | (have hc2 := Eq.trans hc (by with_reducible assumption); clear hc; subst hc2) | (refine zP hc ?_ ?_ ?_ ; omega; omega; (clear hc; intro hc; subst hc)) | (refine u64_k hc ?_ ?_ ?_ ; omega; omega; (clear hc; intro hc; subst hc)) | (refine u8_k hc ?_ ?_ ?_ ; omega; omega; (clear hc; intro hc; subst hc)) | skip)) | (apply Exists.intro; apply And.intro; (first | (focus (repeat (first | (with_reducible assumption) | (with_reducible exact AH.zC _ _ _) | ((first | refine AH.zL ?_ ?_); (first | (with_reducible assumption))))); done) | (focus (repeat (first | exact AH.zC _ _ _)); done))) | (apply Exists.intro; apply And.intro; first | (with_reducible assumption) | ((try simp only [zW, z0z, zZ, zY]); first | (with_reducible assumption) | rfl)) | (apply And.intro; (first | rfl | (with_reducible assumption) | exact zX rfl | omega | (simp <;> omega))))) <;> (try (conv => whnf))
   refine zT (σ := Nat) (8 :: 46 :: 47 :: 48 :: 49 :: 50 :: 51 :: 52 :: 53 :: 54 :: 55 :: 56 :: 57 :: 58 :: 59 :: 60 :: 61 :: []) (fun k => [(8, .int .i64 ((σ.L : Int) - 1 - k))]) (fun k => wtH H w r v (car σ.L top k) (low + X - 4294967296) Y) (fun k => k < σ.L ∧ top + 1 = (top / 256 ^ k + 1) * 256 ^ k) (fun k => σ.L - k) 0 rfl ?_ ?_ ?_ ?_
   ·refine ⟨?_, by simp⟩
    by_cases h : σ.L = 0
    ·rw [h] at htl; simp at htl
    ·omega
   ·refine ⟨congrArg (AV.int .i64) ?_, trivial⟩
    omega
   ·refine HLe.of_eq ?_
    rw [car_zero]
    refine Eq.trans ?_ (Eq.symm (AH.zS _ _ _ _))
    exact congrArg (fun z => AH.set _ w (.row [.int .u64 z, .int .u64 Y, .sl r v 1 0 (dig σ.L top).length none] 0)) (by omega)
   ·rintro k ⟨hk1, hk2⟩
    refine AWp.of zU (dok _) rfl ?_
    have hll : (car σ.L top k).length = σ.L := car_len (by omega)
    obtain ⟨z, hz⟩ : ∃ z, z = u8s (car σ.L top k) := ⟨_, rfl⟩
    have hzl : z.length = σ.L := by rw [hz]; simp [u8s, hll]
    have hix : ((σ.L : Int) - 1 - k).toNat = σ.L - 1 - k := by omega
    have hg : z[((σ.L : Int) - 1 - k).toNat]? = some (.int .u8 ((top / 256 ^ k % 256 : Nat) : Int)) := by rw [hix, hz]; exact car_get hk1
    have hw1 : wtH H w r v (car σ.L top k) (low + X - 4294967296) Y w = some (.row [.int .u64 ((low + X - 4294967296 : Nat) : Int), .int .u64 Y, .sl r v 1 0 σ.L none] 0) := by
     unfold wtH; rw [hll]; exact AH.zC _ _ _
    have hr1 : wtH H w r v (car σ.L top k) (low + X - 4294967296) Y r = some (.row z v) := by
     unfold wtH; rw [AH.zR _ _ hrw, AH.zC, hz]
    have hdm : top / 256 ^ k % 256 < 256 := Nat.mod_lt _ (by decide)
    have hset : ∀ bs : List UInt8, bs.length = σ.L → (wtH H w r v (car σ.L top k) (low + X - 4294967296) Y).set r (.row (u8s bs) v) = wtH H w r v bs (low + X - 4294967296) Y := fun bs hb => by
     unfold wtH
     rw [hll, hb, AH.set_comm _ _ _ hwr, AH.zS]
    by_cases h255 : top / 256 ^ k % 256 = 255
    ·rw [h255] at hg
     have hk3 := car_inv hk2 h255
     have hkl : k + 1 < σ.L := by
      by_cases e : k + 1 = σ.L
      ·exfalso
       rw [← e] at htl
       exact absurd htl (Nat.not_lt.2 (by rw [hk3]; exact Nat.le_mul_of_pos_left _ (Nat.succ_pos _)))
      ·omega
     (repeat' ((conv => whnf); first | refine Then.mk ?_ | refine OpsA.zD ?_ | refine OpsA.zE ?_ | refine AWq.zI ?_ | refine AWq.zB ?_ | refine AWq.zG ?_ | refine AWq.zF ?_ | refine AWq.zH ?_ | refine AWq.zK ?_ | refine AWq.zJ ?_ | refine DrawA.zM ?_ | refine DrawA.zN ?_ | refine DrawF.consD ?_ | refine DrawF.nil ?_ | refine AWq.zO (by decide +kernel) ?_ | (refine Both.mk ?_ ?_ <;> intro hc <;> (first | exact Bool.noConfusion hc | exact absurd hc (by assumption) | (exfalso; omega) | skip)) | (intro c hc; (try (simp only [AH.zA] at hc; repeat (have hn := hc.1; replace hc := hc.2))); (first | (have hc2 := Eq.trans hc (by with_reducible assumption); clear hc; subst hc2) | (refine zP hc ?_ ?_ ?_ ; omega; omega; (clear hc; intro hc; subst hc)) | (refine u64_k hc ?_ ?_ ?_ ; omega; omega; (clear hc; intro hc; subst hc)) | (refine u8_k hc ?_ ?_ ?_ ; omega; omega; (clear hc; intro hc; subst hc)) | skip)) | (apply Exists.intro; apply And.intro; (first | (focus (repeat (first | (with_reducible assumption) | (with_reducible exact AH.zC _ _ _) | ((first | refine AH.zL ?_ ?_); (first | (with_reducible assumption))))); done) | (focus (repeat (first | exact AH.zC _ _ _)); done))) | (apply Exists.intro; apply And.intro; first | (with_reducible assumption) | ((try simp only [zW, z0z, zZ, zY]); first | (with_reducible assumption) | rfl)) | (apply And.intro; (first | rfl | (with_reducible assumption) | exact zX rfl | omega | (simp <;> omega))))) <;> (try (conv => whnf))
     refine ⟨k + 1, ⟨hkl, hk3⟩, by show σ.L - (k + 1) < σ.L - k; omega, ⟨congrArg (AV.int .i64) (by omega), trivial⟩, HLe.of_eq ?_⟩
     rw [← hset _ (car_len (by omega)), ← car_next hk1, ← car_wr hk1 0]
     show _ = (wtH H w r v (car σ.L top k) (low + X - 4294967296) Y).set r (.row (wrA z (0 + ((σ.L : Int) - 1 - k).toNat * 1) [.int .u8 0]) v)
     rw [Nat.zero_add, Nat.mul_one, hix, hz]
     rfl
    ·have hne : ¬ ((top / 256 ^ k % 256 : Nat) : Int) = 255 := by omega
     (repeat' ((conv => whnf); first | refine OpsA.zD ?_ | refine OpsA.zE ?_ | refine AWq.zI ?_ | refine AWq.zB ?_ | refine AWq.zG ?_ | refine AWq.zF ?_ | refine AWq.zH ?_ | refine AWq.zK ?_ | refine AWq.zJ ?_ | refine DrawA.zM ?_ | refine DrawA.zN ?_ | refine DrawF.consD ?_ | refine DrawF.nil ?_ | refine AWq.zO (by decide +kernel) ?_ | (refine Both.mk ?_ ?_ <;> intro hc <;> (first | exact Bool.noConfusion hc | exact absurd hc (by assumption) | (exfalso; omega) | skip)) | (intro c hc; (try (simp only [AH.zA] at hc; repeat (have hn := hc.1; replace hc := hc.2))); (first | (have hc2 := Eq.trans hc (by with_reducible assumption); clear hc; subst hc2) | (refine zP hc ?_ ?_ ?_ ; omega; omega; (clear hc; intro hc; subst hc)) | (refine u64_k hc ?_ ?_ ?_ ; omega; omega; (clear hc; intro hc; subst hc)) | (refine u8_k hc ?_ ?_ ?_ ; omega; omega; (clear hc; intro hc; subst hc)) | skip)) | (apply Exists.intro; apply And.intro; (first | (focus (repeat (first | (with_reducible assumption) | (with_reducible exact AH.zC _ _ _) | ((first | refine AH.zL ?_ ?_); (first | (with_reducible assumption))))); done) | (focus (repeat (first | exact AH.zC _ _ _)); done))) | (apply Exists.intro; apply And.intro; first | (with_reducible assumption) | ((try simp only [zW, z0z, zZ, zY]); first | (with_reducible assumption) | rfl)) | (apply And.intro; (first | rfl | (with_reducible assumption) | exact zX rfl | omega | (simp <;> omega))))) <;> (try (conv => whnf))
     refine Then.mk ?_
     (repeat' ((conv => whnf); first | refine OpsA.zD ?_ | refine OpsA.zE ?_ | refine AWq.zI ?_ | refine AWq.zB ?_ | refine AWq.zG ?_ | refine AWq.zF ?_ | refine AWq.zH ?_ | refine AWq.zK ?_ | refine AWq.zJ ?_ | refine DrawA.zM ?_ | refine DrawA.zN ?_ | refine DrawF.consD ?_ | refine DrawF.nil ?_ | refine AWq.zO (by decide +kernel) ?_ | (refine Both.mk ?_ ?_ <;> intro hc <;> (first | exact Bool.noConfusion hc | exact absurd hc (by assumption) | (exfalso; omega) | skip)) | (intro c hc; (try (simp only [AH.zA] at hc; repeat (have hn := hc.1; replace hc := hc.2))); (first | (have hc2 := Eq.trans hc (by with_reducible assumption); clear hc; subst hc2) | (refine zP hc ?_ ?_ ?_ ; omega; omega; (clear hc; intro hc; subst hc)) | (refine u64_k hc ?_ ?_ ?_ ; omega; omega; (clear hc; intro hc; subst hc)) | (refine u8_k hc ?_ ?_ ?_ ; omega; omega; (clear hc; intro hc; subst hc)) | skip)) | (apply Exists.intro; apply And.intro; (first | (focus (repeat (first | (with_reducible assumption) | (with_reducible exact AH.zC _ _ _) | ((first | refine AH.zL ?_ ?_); (first | (with_reducible assumption))))); done) | (focus (repeat (first | exact AH.zC _ _ _)); done))) | (apply Exists.intro; apply And.intro; first | (with_reducible assumption) | ((try simp only [zW, z0z, zZ, zY]); first | (with_reducible assumption) | rfl)) | (apply And.intro; (first | rfl | (with_reducible assumption) | exact zX rfl | omega | (simp <;> omega))))) <;> (try (conv => whnf))
     refine Then.mk ?_
     (repeat' ((conv => whnf); first | refine OpsA.zD ?_ | refine OpsA.zE ?_ | refine AWq.zI ?_ | refine AWq.zB ?_ | refine AWq.zG ?_ | refine AWq.zF ?_ | refine AWq.zH ?_ | refine AWq.zK ?_ | refine AWq.zJ ?_ | refine DrawA.zM ?_ | refine DrawA.zN ?_ | refine DrawF.consD ?_ | refine DrawF.nil ?_ | refine AWq.zO (by decide +kernel) ?_ | (refine Both.mk ?_ ?_ <;> intro hc <;> (first | exact Bool.noConfusion hc | exact absurd hc (by assumption) | (exfalso; omega) | skip)) | (intro c hc; (try (simp only [AH.zA] at hc; repeat (have hn := hc.1; replace hc := hc.2))); (first | (have hc2 := Eq.trans hc (by with_reducible assumption); clear hc; subst hc2) | (refine zP hc ?_ ?_ ?_ ; omega; omega; (clear hc; intro hc; subst hc)) | (refine u64_k hc ?_ ?_ ?_ ; omega; omega; (clear hc; intro hc; subst hc)) | (refine u8_k hc ?_ ?_ ?_ ; omega; omega; (clear hc; intro hc; subst hc)) | skip)) | (apply Exists.intro; apply And.intro; (first | (focus (repeat (first | (with_reducible assumption) | (with_reducible exact AH.zC _ _ _) | ((first | refine AH.zL ?_ ?_); (first | (with_reducible assumption))))); done) | (focus (repeat (first | exact AH.zC _ _ _)); done))) | (apply Exists.intro; apply And.intro; first | (with_reducible assumption) | ((try simp only [zW, z0z, zZ, zY]); first | (with_reducible assumption) | rfl)) | (apply And.intro; (first | rfl | (with_reducible assumption) | exact zX rfl | omega | (simp <;> omega))))) <;> (try (conv => whnf))
     refine Then.mk (AWq.in ?_)
     refine AWp_cutd (H2 := wcH H w r ⟨σ.V + X, Y, σ.L⟩) [(0, .ptr w 0 0)] rfl ⟨rfl, trivial⟩ (fun _ => rfl) (HLe.of_eq ?_) ?_
     ·have hd8 : (UInt8.ofNat (top / 256 ^ k % 256 + 1)).toNat = top / 256 ^ k % 256 + 1 := by simp; omega
      have e : wcH H w r ⟨σ.V + X, Y, σ.L⟩ = wtH H w r v (dig σ.L (top + 1)) (low + X - 4294967296) Y := by
       unfold wcH
       dsimp only
       rw [hv, show (σ.V + X) / 4294967296 = top + 1 by omega, show (σ.V + X) % 4294967296 = low + X - 4294967296 by omega]
      rw [e, ← hset _ (dig_len _ _), ← car_end hk1 hk2 h255, ← car_wr hk1, hd8]
      show _ = (wtH H w r v (car σ.L top k) (low + X - 4294967296) Y).set r (.row (wrA z (0 + ((σ.L : Int) - 1 - k).toNat * 1) [.int .u8 (((top / 256 ^ k % 256 : Nat) : Int) + 1)]) v)
      rw [Nat.zero_add, Nat.mul_one, hix, hz]
      rfl
     exact tail.out
  ·(repeat' ((conv => whnf); first | refine OpsA.zD ?_ | refine OpsA.zE ?_ | refine AWq.zI ?_ | refine AWq.zB ?_ | refine AWq.zG ?_ | refine AWq.zF ?_ | refine AWq.zH ?_ | refine AWq.zK ?_ | refine AWq.zJ ?_ | refine DrawA.zM ?_ | refine DrawA.zN ?_ | refine DrawF.consD ?_ | refine DrawF.nil ?_ | refine AWq.zO (by decide +kernel) ?_ | (refine Both.mk ?_ ?_ <;> intro hc <;> (first | exact Bool.noConfusion hc | exact absurd hc (by assumption) | (exfalso; omega) | skip)) | (intro c hc; (try (simp only [AH.zA] at hc; repeat (have hn := hc.1; replace hc := hc.2))); (first | (have hc2 := Eq.trans hc (by with_reducible assumption); clear hc; subst hc2) | (refine zP hc ?_ ?_ ?_ ; omega; omega; (clear hc; intro hc; subst hc)) | (refine u64_k hc ?_ ?_ ?_ ; omega; omega; (clear hc; intro hc; subst hc)) | (refine u8_k hc ?_ ?_ ?_ ; omega; omega; (clear hc; intro hc; subst hc)) | skip)) | (apply Exists.intro; apply And.intro; (first | (focus (repeat (first | (with_reducible assumption) | (with_reducible exact AH.zC _ _ _) | ((first | refine AH.zL ?_ ?_); (first | (with_reducible assumption))))); done) | (focus (repeat (first | exact AH.zC _ _ _)); done))) | (apply Exists.intro; apply And.intro; first | (with_reducible assumption) | ((try simp only [zW, z0z, zZ, zY]); first | (with_reducible assumption) | rfl)) | (apply And.intro; (first | rfl | (with_reducible assumption) | exact zX rfl | omega | (simp <;> omega))))) <;> (try (conv => whnf))
   refine Then.mk ?_
   (repeat' ((conv => whnf); first | refine OpsA.zD ?_ | refine OpsA.zE ?_ | refine AWq.zI ?_ | refine AWq.zB ?_ | refine AWq.zG ?_ | refine AWq.zF ?_ | refine AWq.zH ?_ | refine AWq.zK ?_ | refine AWq.zJ ?_ | refine DrawA.zM ?_ | refine DrawA.zN ?_ | refine DrawF.consD ?_ | refine DrawF.nil ?_ | refine AWq.zO (by decide +kernel) ?_ | (refine Both.mk ?_ ?_ <;> intro hc <;> (first | exact Bool.noConfusion hc | exact absurd hc (by assumption) | (exfalso; omega) | skip)) | (intro c hc; (try (simp only [AH.zA] at hc; repeat (have hn := hc.1; replace hc := hc.2))); (first | (have hc2 := Eq.trans hc (by with_reducible assumption); clear hc; subst hc2) | (refine zP hc ?_ ?_ ?_ ; omega; omega; (clear hc; intro hc; subst hc)) | (refine u64_k hc ?_ ?_ ?_ ; omega; omega; (clear hc; intro hc; subst hc)) | (refine u8_k hc ?_ ?_ ?_ ; omega; omega; (clear hc; intro hc; subst hc)) | skip)) | (apply Exists.intro; apply And.intro; (first | (focus (repeat (first | (with_reducible assumption) | (with_reducible exact AH.zC _ _ _) | ((first | refine AH.zL ?_ ?_); (first | (with_reducible assumption))))); done) | (focus (repeat (first | exact AH.zC _ _ _)); done))) | (apply Exists.intro; apply And.intro; first | (with_reducible assumption) | ((try simp only [zW, z0z, zZ, zY]); first | (with_reducible assumption) | rfl)) | (apply And.intro; (first | rfl | (with_reducible assumption) | exact zX rfl | omega | (simp <;> omega))))) <;> (try (conv => whnf))
   refine Then.mk (AWq.in ?_)
   refine AWp_cutd (H2 := wcH H w r ⟨σ.V + X, Y, σ.L⟩) [(0, .ptr w 0 0)] rfl ⟨rfl, trivial⟩ (fun _ => rfl) (HLe.of_eq ?_) ?_
   ·unfold wcH
    dsimp only
    rw [hv, show (σ.V + X) / 4294967296 = top by omega, show (σ.V + X) % 4294967296 = low + X by omega]
   exact tail.out
 case tl =>
 have hP : 4294967296 * 256 ^ σ.L = 4294967296 * 256 ^ σ.L := rfl
 refine AWp.of zU (dok _) rfl ?_
 clear hn hw htl hlb hlow htop
 (repeat' ((conv => whnf); first | refine Then.mk ?_ | refine OpsA.zD ?_ | refine OpsA.zE ?_ | refine AWq.zI ?_ | refine AWq.zB ?_ | refine AWq.zG ?_ | refine AWq.zF ?_ | refine AWq.zH ?_ | refine AWq.zK ?_ | refine AWq.zJ ?_ | refine DrawA.zM ?_ | refine DrawA.zN ?_ | refine DrawF.consD ?_ | refine DrawF.nil ?_ | refine AWq.zO (by decide +kernel) ?_ | (refine Both.mk ?_ ?_ <;> intro hc <;> (first | exact Bool.noConfusion hc | exact absurd hc (by assumption) | (exfalso; omega) | skip)) | (intro c hc; (try (simp only [AH.zA] at hc; repeat (have hn := hc.1; replace hc := hc.2))); (first | (have hc2 := Eq.trans hc (by with_reducible assumption); clear hc; subst hc2) | (refine zP hc ?_ ?_ ?_ ; omega; omega; (clear hc; intro hc; subst hc)) | (refine u64_k hc ?_ ?_ ?_ ; omega; omega; (clear hc; intro hc; subst hc)) | (refine u8_k hc ?_ ?_ ?_ ; omega; omega; (clear hc; intro hc; subst hc)) | skip)) | (apply Exists.intro; apply And.intro; (first | (focus (repeat (first | (with_reducible assumption) | (with_reducible exact AH.zC _ _ _) | ((first | refine AH.zL ?_ ?_); (first | (with_reducible assumption))))); done) | (focus (repeat (first | exact AH.zC _ _ _)); done))) | (apply Exists.intro; apply And.intro; first | (with_reducible assumption) | ((try simp only [zW, z0z, zZ, zY]); first | (with_reducible assumption) | rfl)) | (apply And.intro; (first | rfl | (with_reducible assumption) | exact zX rfl | omega | (simp <;> omega))))) <;> (try (conv => whnf))
 refine zT (σ := Nat × Cs) (71 :: 72 :: 73 :: 74 :: 75 :: 76 :: 77 :: 78 :: 79 :: 80 :: 81 :: 82 :: 83 :: 84 :: 85 :: 86 :: 87 :: 88 :: 89 :: 90 :: 91 :: 92 :: 93 :: 94 :: 95 :: 96 :: 97 :: 98 :: 99 :: 100 :: 101 :: 102 :: 103 :: 104 :: 105 :: 106 :: 107 :: 108 :: 109 :: 110 :: 111 :: 112 :: []) (fun (f, τ) => []) (fun (f, τ) => wcH H w r τ) (fun (f, τ) => shf f τ = shf 3 ⟨σ.V + X, Y, σ.L⟩ ∧ 16777216 ≤ τ.W * 256 ^ f ∧ τ.W ≤ 4294967296 ∧ τ.L + f ≤ σ.L + 3) (fun (f, τ) => f) (3, ⟨σ.V + X, Y, σ.L⟩) rfl ?_ ?_ ?_ ?_
 ·refine ⟨rfl, ?_, by show Y ≤ _; omega, Nat.le_refl _⟩
  show 16777216 ≤ Y * 256 ^ 3
  rw [show (256 : Nat) ^ 3 = 16777216 by decide]; omega
 ·exact trivial
 ·exact HLe.refl _
 ·rintro ⟨f, τ⟩ ⟨h1, h2, h3, h4⟩
  dsimp only at h1 h2 h3 h4 ⊢
  refine AWp.of zU (dok _) rfl ?_
  obtain ⟨lo, hlo⟩ : ∃ lo, lo = τ.V % 4294967296 := ⟨_, rfl⟩
  obtain ⟨tp, htp⟩ : ∃ tp, tp = τ.V / 4294967296 := ⟨_, rfl⟩
  obtain ⟨v', hv'⟩ : ∃ v', v' = τ.L := ⟨_, rfl⟩
  have hH : wcH H w r τ = wtH H w r v' (dig τ.L tp) lo τ.W := by rw [hlo, htp, hv']; rfl
  rw [hH]
  have hw1 : wtH H w r v' (dig τ.L tp) lo τ.W w = some (.row [.int .u64 lo, .int .u64 τ.W, .sl r v' 1 0 τ.L none] 0) := by
   unfold wtH; rw [dig_len]; exact AH.zC _ _ _
  have hr1 : wtH H w r v' (dig τ.L tp) lo τ.W r = some (.row (u8s (dig τ.L tp)) v') := by
   unfold wtH; rw [AH.zR _ _ hrw, AH.zC]
  have hll : (u8s (dig τ.L tp)).length = τ.L := by simp [u8s]
  have hlb : lo < 4294967296 := by omega
  by_cases hsm : τ.W < 16777216
  ·have hf : f ≠ 0 := fun e => by subst e; simp at h2; omega
   obtain ⟨z, hz⟩ : ∃ z, z = u8s (dig τ.L tp) := ⟨_, rfl⟩
   rw [← hz] at hr1 hll
   obtain ⟨G, hG⟩ : ∃ G, G = wtH H w r v' (dig τ.L tp) lo τ.W := ⟨_, rfl⟩
   rw [← hG] at hw1 hr1 ⊢
   obtain ⟨L, hLe⟩ : ∃ L, L = τ.L := ⟨_, rfl⟩
   rw [← hLe] at hw1 hll h4
   have hLb : L ≤ 2000000000000 := by omega
   have s1 : (lo : Int).fdiv (2 ^ min (Int.toNat 24) IntKind.u64.bits) = (lo / 16777216 : Nat) := by
    rw [show (2 : Int) ^ min (Int.toNat 24) IntKind.u64.bits = 16777216 by decide, Int.fdiv_eq_ediv_of_nonneg _ (by omega)]; omega
   have s2 : IntKind.u8.wrap (lo / 16777216 : Nat) = (lo / 16777216 : Nat) := by rw [wrap_u8']; omega
   have s3 : IntKind.u64.wrap ((lo : Int) * 2 ^ min (Int.toNat 8) IntKind.u64.bits) = (lo * 256 : Nat) := by
    rw [show (2 : Int) ^ min (Int.toNat 8) IntKind.u64.bits = 256 by decide, wrap_u64']; omega
   have s4 : ((lo * 256 : Nat) : Int).tmod 4294967296 = (lo * 256 % 4294967296 : Nat) := by
    rw [Int.tmod_eq_emod_of_nonneg (by omega)]; omega
   have s5 : IntKind.u64.wrap ((τ.W : Int) * 2 ^ min (Int.toNat 8) IntKind.u64.bits) = (τ.W * 256 : Nat) := by
    rw [show (2 : Int) ^ min (Int.toNat 8) IntKind.u64.bits = 256 by decide, wrap_u64']; omega
   have kk := Kept.mk (And.intro h1 (And.intro h2 (And.intro h4 (And.intro hlo (And.intro htp (And.intro hz (And.intro hG (And.intro hLe hv'))))))))
   clear h1 h2 h4 hlo htp hz hG hLe hv' hv hX hY k1 k2 k3 k4 hi hL hP hroom
   (repeat' ((conv => whnf); first | refine Then.mk ?_ | refine OpsA.zD ?_ | refine OpsA.zE ?_ | refine AWq.zI ?_ | refine AWq.zB ?_ | refine AWq.zG ?_ | refine AWq.zF ?_ | refine AWq.zH ?_ | refine AWq.zK ?_ | refine AWq.zJ ?_ | refine DrawA.zM ?_ | refine DrawA.zN ?_ | refine DrawF.consD ?_ | refine DrawF.nil ?_ | refine AWq.zO (by decide +kernel) ?_ | (refine Both.mk ?_ ?_ <;> intro hc <;> (first | exact Bool.noConfusion hc | exact absurd hc (by assumption) | (exfalso; omega) | skip)) | (intro c hc; (try (simp only [AH.zA] at hc; repeat (have hn := hc.1; replace hc := hc.2))); (first | (have hc2 := Eq.trans hc (by with_reducible assumption); clear hc; subst hc2) | (refine zP hc ?_ ?_ ?_ ; omega; omega; (clear hc; intro hc; subst hc)) | (refine u64_k hc ?_ ?_ ?_ ; omega; omega; (clear hc; intro hc; subst hc)) | (refine u8_k hc ?_ ?_ ?_ ; omega; omega; (clear hc; intro hc; subst hc)) | skip)) | (apply Exists.intro; apply And.intro; (first | (focus (repeat (first | (with_reducible assumption) | (with_reducible exact AH.zC _ _ _) | ((first | refine AH.zL ?_ ?_); (first | (with_reducible assumption))))); done) | (focus (repeat (first | exact AH.zC _ _ _)); done))) | (apply Exists.intro; apply And.intro; first | (with_reducible assumption) | ((try simp only [zW, z0z, zZ, zY]); first | (with_reducible assumption) | rfl)) | (apply And.intro; (first | rfl | (with_reducible assumption) | exact zX rfl | omega | (simp <;> omega))))) <;> (try (conv => whnf))
   obtain ⟨h1, h2, h4, hlo, htp, hz, hG, hLe, hv'⟩ := kk.out
   have hsf : shf f τ = shf (f - 1) ⟨τ.V * 256, τ.W * 256, τ.L + 1⟩ := by
    obtain ⟨g, rfl⟩ : ∃ g, f = g + 1 := ⟨f - 1, by omega⟩
    exact if_pos hsm
   refine ⟨(f - 1, ⟨τ.V * 256, τ.W * 256, τ.L + 1⟩), ⟨?_, ?_, ?_, ?_⟩, ?_, trivial, HLe.of_eq ?_⟩
   ·dsimp only; rw [← hsf]; exact h1
   ·show 16777216 ≤ τ.W * 256 * 256 ^ (f - 1)
    rw [Nat.mul_assoc, ← Nat.pow_succ', show (f - 1).succ = f by omega]; exact h2
   ·show τ.W * 256 ≤ 4294967296
    omega
   ·show τ.L + 1 + (f - 1) ≤ _
    omega
   ·show f - 1 < f
    omega
   ·have b1 : z ++ [AV.int .u8 ((lo / 16777216 : Nat) : Int)] = u8s (dig (τ.L + 1) (τ.V * 256 / 4294967296)) := by
     rw [show τ.V * 256 / 4294967296 = tp * 256 + lo / 16777216 by omega, dig_snoc _ _ _ (by omega), hz, ← u8s_append]
     have : (UInt8.ofNat (lo / 16777216)).toNat = lo / 16777216 := by simp; omega
     show _ = _ ++ [AV.int .u8 ((UInt8.ofNat (lo / 16777216)).toNat : Int)]
     rw [this]
    show wcH H w r ⟨τ.V * 256, τ.W * 256, τ.L + 1⟩ = (((G.set r (.row (z ++ [AV.int .u8 ((lo / 16777216 : Nat) : Int)]) (v' + 1))).set w (.row [.int .u64 lo, .int .u64 τ.W, .sl r (v' + 1) 1 0 (L + 1) none] 0)).set w (.row [.int .u64 (lo * 256 % 4294967296 : Nat), .int .u64 τ.W, .sl r (v' + 1) 1 0 (L + 1) none] 0)).set w (.row [.int .u64 (lo * 256 % 4294967296 : Nat), .int .u64 (τ.W * 256 : Nat), .sl r (v' + 1) 1 0 (L + 1) none] 0)
    rw [b1, AH.zS, AH.zS, hG, hLe, hv']
    unfold wcH wtH
    dsimp only
    rw [AH.set_back _ hrw, AH.zS, dig_len, show τ.V * 256 % 4294967296 = lo * 256 % 4294967296 by omega]
  ·(repeat' ((conv => whnf); first | refine Then.mk ?_ | refine OpsA.zD ?_ | refine OpsA.zE ?_ | refine AWq.zI ?_ | refine AWq.zB ?_ | refine AWq.zG ?_ | refine AWq.zF ?_ | refine AWq.zH ?_ | refine AWq.zK ?_ | refine AWq.zJ ?_ | refine DrawA.zM ?_ | refine DrawA.zN ?_ | refine DrawF.consD ?_ | refine DrawF.nil ?_ | refine AWq.zO (by decide +kernel) ?_ | (refine Both.mk ?_ ?_ <;> intro hc <;> (first | exact Bool.noConfusion hc | exact absurd hc (by assumption) | (exfalso; omega) | skip)) | (intro c hc; (try (simp only [AH.zA] at hc; repeat (have hn := hc.1; replace hc := hc.2))); (first | (have hc2 := Eq.trans hc (by with_reducible assumption); clear hc; subst hc2) | (refine zP hc ?_ ?_ ?_ ; omega; omega; (clear hc; intro hc; subst hc)) | (refine u64_k hc ?_ ?_ ?_ ; omega; omega; (clear hc; intro hc; subst hc)) | (refine u8_k hc ?_ ?_ ?_ ; omega; omega; (clear hc; intro hc; subst hc)) | skip)) | (apply Exists.intro; apply And.intro; (first | (focus (repeat (first | (with_reducible assumption) | (with_reducible exact AH.zC _ _ _) | ((first | refine AH.zL ?_ ?_); (first | (with_reducible assumption))))); done) | (focus (repeat (first | exact AH.zC _ _ _)); done))) | (apply Exists.intro; apply And.intro; first | (with_reducible assumption) | ((try simp only [zW, z0z, zZ, zY]); first | (with_reducible assumption) | rfl)) | (apply And.intro; (first | rfl | (with_reducible assumption) | exact zX rfl | omega | (simp <;> omega))))) <;> (try (conv => whnf))
   rw [← hH, ← h1, shf_done (by omega)]
open Go.Fw Go
set_option maxRecDepth 8000 in
theorem writer_c (H : AH) : ACall Try.prog 81 [] H (fun y H' => ∃ w r, H w = none ∧ H r = none ∧ w ≠ r ∧ y = .ptr w 0 0 ∧ H' = wcH H w r cs0) := by
 refine zQ zU (dok _) Try.func81 rfl (by decide) rfl ?_
 (repeat' ((conv => whnf); first | left | refine OpsA.zD ?_ | refine OpsA.zE ?_ | refine AWq.zI ?_ | refine AWq.zB ?_ | refine AWq.ret ?_ | (intro c hc; (try (simp only [AH.zA] at hc; repeat (have hn := hc.1; replace hc := hc.2))); (first | skip)) | (apply And.intro; (first | rfl)))) <;> (try (conv => whnf))
 refine Then.mk ?_
 (repeat' ((conv => whnf); first | left | refine OpsA.zD ?_ | refine OpsA.zE ?_ | refine AWq.zI ?_ | refine AWq.zB ?_ | refine AWq.ret ?_ | (intro c hc; (try (simp only [AH.zA] at hc; repeat (have hn := hc.1; replace hc := hc.2))); (first | skip)) | (apply And.intro; (first | rfl)))) <;> (try (conv => whnf))
 refine Then.mk (AWq.in ?_)
 refine AWp_nilC 1 [.int .u64 0, .int .u64 4294967296] [] (p := c) (u := 0) (AH.zC _ _ _) fun r hr hrw => ?_
 have hrH := (AH.none_set hr).2
 refine AWp.of zU (dok _) rfl ?_
 (repeat' ((conv => whnf); first | left | refine OpsA.zD ?_ | refine OpsA.zE ?_ | refine AWq.zI ?_ | refine AWq.zB ?_ | refine AWq.ret ?_ | (intro c hc; (try (simp only [AH.zA] at hc; repeat (have hn := hc.1; replace hc := hc.2))); (first | skip)) | (apply And.intro; (first | rfl)))) <;> (try (conv => whnf))
 refine ⟨c, r, hc, hrH, Ne.symm hrw, rfl, ?_⟩
 exact (AH.set_back H (Ne.symm hrw) _ _ _).trans (AH.set_comm _ _ _ (Ne.symm hrw))
structure WrAt (H : AH) (w r : Nat) (σ : Cs) : Prop where
 hw : H w = some (.row [.int .u64 (σ.V % 4294967296 : Nat), .int .u64 σ.W, .sl r σ.L 1 0 σ.L none] 0)
 hr : H r = some (.row (u8s (dig σ.L (σ.V / 4294967296))) σ.L)
 ne : w ≠ r
theorem WrAt.eq {H : AH} {w r : Nat} {σ : Cs} (h : WrAt H w r σ) : wcH H w r σ = H := by
 unfold wcH wtH
 rw [AH.set_id h.hr, dig_len]
 exact AH.set_id h.hw
theorem WrAt.set {H : AH} {w r : Nat} {σ : Cs} (h : w ≠ r) : WrAt (wcH H w r σ) w r σ := by
 refine ⟨?_, ?_, h⟩
 ·unfold wcH wtH; rw [AH.zC, dig_len]
 ·unfold wcH wtH; rw [AH.zR _ _ (Ne.symm h), AH.zC]
theorem wcH_ne {H : AH} {w r a : Nat} {σ : Cs} (h1 : a ≠ w) (h2 : a ≠ r) : wcH H w r σ a = H a := by
 unfold wcH wtH
 rw [AH.zR _ _ h1, AH.zR _ _ h2]
theorem mdH_ne {H : AH} {p q n a : Nat} {c : Nat → Nat} (h1 : a ≠ p) (h2 : a ≠ q) : mdH H p q n c a = H a := by
 unfold mdH
 rw [AH.zR _ _ h1, AH.zR _ _ h2]
theorem MdAt.same {H G : AH} {p q n : Nat} {c : Nat → Nat} (h : MdAt H p q n c) (h1 : G p = H p) (h2 : G q = H q) : MdAt G p q n c :=
 ⟨by rw [h1]; exact h.hp, by rw [h2]; exact h.hq, h.ne, h.ok⟩
theorem WrAt.same {H G : AH} {w r : Nat} {σ : Cs} (h : WrAt H w r σ) (h1 : G w = H w) (h2 : G r = H r) : WrAt G w r σ :=
 ⟨by rw [h1]; exact h.hw, by rw [h2]; exact h.hr, h.ne⟩
theorem k_step_c {G : AH} {w r : Nat} {σ : Cs} {p c t : Nat} (hw : WrAt G w r σ) (hc : CsOk σ) (hs : StOk p c t) (hL : σ.L ≤ 1000000000000) :
  ACall Try.prog 85 [.ptr w 0 0, .int .i64 p, .int .i64 c, .int .i64 t] G (fun y H' => y = .tup [] ∧ H' = wcH G w r (stp σ p c t)) := by
 have := wstep_c (H := G) hw.ne hc hs hL
 rwa [hw.eq] at this
set_option maxRecDepth 8000 in
theorem symbol_c {G : AH} {w r p q n : Nat} {σ : Cs} {c : Nat → Nat} {s : Nat} (hw : WrAt G w r σ) (hm : MdAt G p q n c) (h1 : p ≠ w) (h2 : p ≠ r) (h3 : q ≠ w) (h4 : q ≠ r) (hs : s < n) (hc : CsOk σ) (hL : σ.L ≤ 1000000000000) :
  ACall Try.prog 84 [.ptr w 0 0, .ptr p 0 0, .int .i64 s] G (fun y H' => y = .tup [] ∧ H' = mdH (wcH G w r (stp σ (plc c s) (c s) (plc c n))) p q n (seeM n c s)) := by
 have hp := place_c hm s (by omega)
 have hst : StOk (plc c s) (c s) (plc c n) := ⟨hm.ok.pos s hs, plc_one hs, hm.ok.sum⟩
 have hstep := k_step_c hw hc hst hL
 have hsee := see_c (hm.same (G := wcH G w r (stp σ (plc c s) (c s) (plc c n))) (wcH_ne h1 h2) (wcH_ne h3 h4)) s hs
 have hmp := hm.hp
 have hmq := hm.hq
 have hcell := iL_gi (fun k => (c k : Int)) hs
 have hlen : (iL n fun k => (c k : Int)).length = n := iL_len _ _
 generalize (iL n fun k => (c k : Int)) = cells at *
 have hts := hm.ok.sum
 obtain ⟨T, hT⟩ : ∃ T, T = plc c n := ⟨_, rfl⟩
 obtain ⟨A, hA⟩ : ∃ A, A = plc c s := ⟨_, rfl⟩
 rw [← hT] at hmp hstep hsee hts ⊢
 rw [← hA] at hp hstep hsee ⊢
 refine zQ zU (dok _) Try.func84 rfl (by decide) rfl ?_
 (repeat' ((conv => whnf); first | refine AWq.drawM ([21], []) (by decide +kernel) ?_ | refine Then.mk ?_ | refine OpsA.zD ?_ | refine OpsA.zE ?_ | refine AWq.zI ?_ | refine AWq.zB ?_ | refine DrawA.zM ?_ | refine DrawA.zN ?_ | (apply Exists.intro; apply And.intro; exact hp) | (apply Exists.intro; apply Exists.intro; apply And.intro; exact hstep) | (apply Exists.intro; apply And.intro; (first | (focus (repeat (first | (with_reducible assumption))); done))) | (apply Exists.intro; apply And.intro; first | (with_reducible assumption) | ((try simp only [zW, z0z, zZ, zY]); first | (with_reducible assumption) | rfl)) | (apply And.intro; (first | rfl | (with_reducible assumption) | omega)) | (refine ACall.to (hsee) ?_))) <;> (try (conv => whnf))
set_option maxRecDepth 8000 in
theorem code_c {H : AH} {w r : Nat} {σ : Cs} (hne : w ≠ r) (hL : σ.L ≤ 1000000000000) :
  ACall Try.prog 86 [.ptr w 0 0] (wcH H w r σ) (fun y H' => y = .cs (u8s (codeS σ)) (codeS σ).length ∧ H' = (wcH H w r σ).del r) := by
 have hwa : WrAt (wcH H w r σ) w r σ := WrAt.set hne
 have hw := hwa.hw
 have hr := hwa.hr
 generalize wcH H w r σ = G at *
 obtain ⟨lo, hlo⟩ : ∃ lo, lo = σ.V % 4294967296 := ⟨_, rfl⟩
 rw [← hlo] at hw
 have hlb : lo < 4294967296 := by omega
 obtain ⟨z, hz⟩ : ∃ z, z = u8s (dig σ.L (σ.V / 4294967296)) := ⟨_, rfl⟩
 have hzl : z.length = σ.L := by rw [hz]; simp
 rw [← hz] at hr
 have a1 : (lo : Int).fdiv (2 ^ min (Int.toNat 24) IntKind.u64.bits) = (lo / 16777216 : Nat) := by
  rw [show (2 : Int) ^ min (Int.toNat 24) IntKind.u64.bits = 16777216 by decide, Int.fdiv_eq_ediv_of_nonneg _ (by omega)]; omega
 have a2 : IntKind.u8.wrap (lo / 16777216 : Nat) = (lo / 16777216 : Nat) := by rw [wrap_u8']; omega
 have b1 : (lo : Int).fdiv (2 ^ min (Int.toNat 16) IntKind.u64.bits) = (lo / 65536 : Nat) := by
  rw [show (2 : Int) ^ min (Int.toNat 16) IntKind.u64.bits = 65536 by decide, Int.fdiv_eq_ediv_of_nonneg _ (by omega)]; omega
 have b2 : IntKind.u8.wrap (lo / 65536 : Nat) = (lo / 65536 % 256 : Nat) := by rw [wrap_u8']; omega
 have c1 : (lo : Int).fdiv (2 ^ min (Int.toNat 8) IntKind.u64.bits) = (lo / 256 : Nat) := by
  rw [show (2 : Int) ^ min (Int.toNat 8) IntKind.u64.bits = 256 by decide, Int.fdiv_eq_ediv_of_nonneg _ (by omega)]; omega
 have c2 : IntKind.u8.wrap (lo / 256 : Nat) = (lo / 256 % 256 : Nat) := by rw [wrap_u8']; omega
 have d2 : IntKind.u8.wrap (lo : Nat) = (lo % 256 : Nat) := by rw [wrap_u8']; omega
 have hall : z ++ [AV.int .u8 (lo / 16777216 : Nat), AV.int .u8 (lo / 65536 % 256 : Nat), AV.int .u8 (lo / 256 % 256 : Nat), AV.int .u8 (lo % 256 : Nat)] = u8s (dig (σ.L + 4) σ.V) := by
  have e : σ.V = (((σ.V / 4294967296 * 256 + lo / 16777216) * 256 + lo / 65536 % 256) * 256 + lo / 256 % 256) * 256 + lo % 256 := by omega
  conv => rhs; rw [e]
  rw [show σ.L + 4 = σ.L + 1 + 1 + 1 + 1 from rfl, dig_snoc _ _ _ (by omega), dig_snoc _ _ _ (by omega), dig_snoc _ _ _ (by omega), dig_snoc _ _ _ (by omega), hz]
  have t : ∀ x, x < 256 → (UInt8.ofNat x).toNat = x := fun x h => by simp; omega
  simp only [u8s, List.map_append, List.map_cons, List.map_nil, List.append_assoc]
  rw [t _ (by omega), t _ (by omega), t _ (by omega), t _ (by omega)]
  rfl
 clear hz
 refine zQ zU (dok _) Try.func86 rfl (by decide) rfl ?_
 (repeat' ((conv => whnf); first | refine OpsA.zD ?_ | refine OpsA.zE ?_ | refine AWq.zI ?_ | refine AWq.zB ?_ | refine AWq.zG ?_ | refine AWq.zF ?_ | refine AWq.zH ?_ | refine AWq.ret ?_ | refine AWq.zK ?_ | refine AWq.zJ ?_ | refine DrawA.zM ?_ | refine DrawA.zN ?_ | refine AWq.zO (by decide +kernel) ?_ | (refine Both.mk ?_ ?_ <;> intro hc <;> (first | exact Bool.noConfusion hc | exact absurd (by with_reducible rfl) hc | exact absurd hc (by assumption) | (exfalso; omega) | skip)) | (intro c hc; (try (simp only [AH.zA] at hc; repeat (have hn := hc.1; replace hc := hc.2))); (first | (have hc2 := Eq.trans hc (by with_reducible assumption); clear hc; subst hc2) | (refine zP hc ?_ ?_ ?_ ; omega; omega; (clear hc; intro hc; subst hc)) | skip)) | (apply Exists.intro; apply And.intro; (first | (focus (repeat (first | (with_reducible assumption))); done))) | (apply Exists.intro; apply And.intro; first | (with_reducible assumption) | ((try simp only [zW, z0z, zZ, zY]); first | (with_reducible assumption) | rfl)) | (apply And.intro; (first | rfl | (with_reducible assumption) | omega)))) <;> (try (conv => whnf))
 refine Then.mk ?_
 (repeat' ((conv => whnf); first | refine OpsA.zD ?_ | refine OpsA.zE ?_ | refine AWq.zI ?_ | refine AWq.zB ?_ | refine AWq.zG ?_ | refine AWq.zF ?_ | refine AWq.zH ?_ | refine AWq.ret ?_ | refine AWq.zK ?_ | refine AWq.zJ ?_ | refine DrawA.zM ?_ | refine DrawA.zN ?_ | refine AWq.zO (by decide +kernel) ?_ | (refine Both.mk ?_ ?_ <;> intro hc <;> (first | exact Bool.noConfusion hc | exact absurd (by with_reducible rfl) hc | exact absurd hc (by assumption) | (exfalso; omega) | skip)) | (intro c hc; (try (simp only [AH.zA] at hc; repeat (have hn := hc.1; replace hc := hc.2))); (first | (have hc2 := Eq.trans hc (by with_reducible assumption); clear hc; subst hc2) | (refine zP hc ?_ ?_ ?_ ; omega; omega; (clear hc; intro hc; subst hc)) | skip)) | (apply Exists.intro; apply And.intro; (first | (focus (repeat (first | (with_reducible assumption))); done))) | (apply Exists.intro; apply And.intro; first | (with_reducible assumption) | ((try simp only [zW, z0z, zZ, zY]); first | (with_reducible assumption) | rfl)) | (apply And.intro; (first | rfl | (with_reducible assumption) | omega)))) <;> (try (conv => whnf))
 refine Then.mk (AWq.in ?_)
 refine AWp_freeze1 (r := r) (v := σ.L + 1) (es := 1) (n := σ.L + 4) (lim := none) (cells := u8s (dig (σ.L + 4) σ.V)) 3 rfl rfl ?_ (by simp) ?_
 ·show AH.set G r (.row (z ++ _) _) r = _
  rw [AH.zC]
  exact congrArg (fun l => some (AO.row l (σ.L + 1))) hall
 have hG : ∀ o, (AH.set G r o).del r = G.del r := fun o => by
  funext a; simp only [AH.del, AH.set]; split <;> rfl
 rw [hG]
 have hbl : (dig (σ.L + 4) σ.V).length = σ.L + 4 := dig_len _ _
 have hcs : codeS σ = (dig (σ.L + 4) σ.V).take (trimN (dig (σ.L + 4) σ.V) (σ.L + 4)) := by
  unfold codeS trim
  rw [hbl]
 rw [hcs]
 generalize dig (σ.L + 4) σ.V = bs at *
 obtain ⟨L4, hL4⟩ : ∃ L4, L4 = σ.L + 4 := ⟨_, rfl⟩
 rw [← hL4] at hbl ⊢
 have hul : (u8s bs).length = L4 * 1 := by simp [hbl]
 clear hall hcs a1 a2 b1 b2 c1 c2 d2
 refine AWp.of zU (dok _) rfl ?_
 (repeat' ((conv => whnf); first | refine Then.mk ?_ | refine OpsA.zD ?_ | refine OpsA.zE ?_ | refine AWq.zI ?_ | refine AWq.zB ?_ | refine AWq.zG ?_ | refine AWq.zF ?_ | refine AWq.zH ?_ | refine AWq.ret ?_ | refine AWq.zK ?_ | refine AWq.zJ ?_ | refine DrawA.zM ?_ | refine DrawA.zN ?_ | refine AWq.zO (by decide +kernel) ?_ | (refine Both.mk ?_ ?_ <;> intro hc <;> (first | exact Bool.noConfusion hc | exact absurd (by with_reducible rfl) hc | exact absurd hc (by assumption) | (exfalso; omega) | skip)) | (intro c hc; (try (simp only [AH.zA] at hc; repeat (have hn := hc.1; replace hc := hc.2))); (first | (have hc2 := Eq.trans hc (by with_reducible assumption); clear hc; subst hc2) | (refine zP hc ?_ ?_ ?_ ; omega; omega; (clear hc; intro hc; subst hc)) | skip)) | (apply Exists.intro; apply And.intro; (first | (focus (repeat (first | (with_reducible assumption))); done))) | (apply Exists.intro; apply And.intro; first | (with_reducible assumption) | ((try simp only [zW, z0z, zZ, zY]); first | (with_reducible assumption) | rfl)) | (apply And.intro; (first | rfl | (with_reducible assumption) | omega)))) <;> (try (conv => whnf))
 refine zT (σ := Nat) (4 :: 40 :: 41 :: 42 :: 43 :: 44 :: 45 :: 46 :: 47 :: 48 :: 49 :: 50 :: 51 :: []) (fun n => [(4, .int .i64 n)]) (fun _ => G.del r) (fun n => n ≤ L4 ∧ trimN bs L4 = trimN bs n) (fun n => n) L4 rfl ?_ ?_ ?_ ?_
 ·exact ⟨Nat.le_refl _, rfl⟩
 ·exact ⟨rfl, trivial⟩
 ·exact HLe.refl _
 ·rintro n ⟨h1, h2⟩
  refine AWp.of zU (dok _) rfl ?_
  have fin : ∀ m, m ≤ L4 → trimN bs L4 = m → AV.cs (List.take ((m : Int).toNat * 1) (u8s bs)) (m : Int).toNat = AV.cs (u8s (List.take (trimN bs L4) bs)) (List.take (trimN bs L4) bs).length ∧ G.del r = G.del r := fun m hm he => by
   refine ⟨?_, rfl⟩
   rw [he, Int.toNat_natCast, Nat.mul_one, u8s_take, List.length_take, Nat.min_eq_left (by omega)]
  by_cases h0 : n = 0
  ·subst h0
   (repeat' ((conv => whnf); first | refine Then.mk ?_ | refine OpsA.zD ?_ | refine OpsA.zE ?_ | refine AWq.zI ?_ | refine AWq.zB ?_ | refine AWq.zG ?_ | refine AWq.zF ?_ | refine AWq.zH ?_ | refine AWq.ret ?_ | refine AWq.zK ?_ | refine AWq.zJ ?_ | refine DrawA.zM ?_ | refine DrawA.zN ?_ | refine AWq.zO (by decide +kernel) ?_ | (refine Both.mk ?_ ?_ <;> intro hc <;> (first | exact Bool.noConfusion hc | exact absurd (by with_reducible rfl) hc | exact absurd hc (by assumption) | (exfalso; omega) | skip)) | (intro c hc; (try (simp only [AH.zA] at hc; repeat (have hn := hc.1; replace hc := hc.2))); (first | (have hc2 := Eq.trans hc (by with_reducible assumption); clear hc; subst hc2) | (refine zP hc ?_ ?_ ?_ ; omega; omega; (clear hc; intro hc; subst hc)) | skip)) | (apply Exists.intro; apply And.intro; (first | (focus (repeat (first | (with_reducible assumption))); done))) | (apply Exists.intro; apply And.intro; first | (with_reducible assumption) | ((try simp only [zW, z0z, zZ, zY]); first | (with_reducible assumption) | rfl)) | (apply And.intro; (first | rfl | (with_reducible assumption) | omega)))) <;> (try (conv => whnf))
   exact fin 0 (by omega) (by rw [h2]; rfl)
  ·obtain ⟨k, rfl⟩ : ∃ k, n = k + 1 := ⟨n - 1, by omega⟩
   have hg : (u8s bs)[((k + 1 : Nat) - 1 : Int).toNat]? = some (.int .u8 (bs.getD k 0).toNat) := by
    rw [show ((k + 1 : Nat) - 1 : Int).toNat = k by omega]
    exact u8s_get (by omega)
   have hb := u8_range (bs.getD k 0)
   obtain ⟨b, hbe⟩ : ∃ b, b = bs.getD k 0 := ⟨_, rfl⟩
   have h2' : trimN bs (k + 1) = if b = 0 then trimN bs k else k + 1 := by rw [hbe]; rfl
   rw [← hbe] at hg hb
   obtain ⟨B, hB⟩ : ∃ B : Int, B = (b.toNat : Int) := ⟨_, rfl⟩
   rw [← hB] at hg hb
   by_cases hz : B = 0
   ·have hb0 : b = 0 := UInt8.toNat_inj.1 (by show b.toNat = 0; omega)
    rw [if_pos hb0] at h2'
    subst hz
    (repeat' ((conv => whnf); first | refine Then.mk ?_ | refine OpsA.zD ?_ | refine OpsA.zE ?_ | refine AWq.zI ?_ | refine AWq.zB ?_ | refine AWq.zG ?_ | refine AWq.zF ?_ | refine AWq.zH ?_ | refine AWq.ret ?_ | refine AWq.zK ?_ | refine AWq.zJ ?_ | refine DrawA.zM ?_ | refine DrawA.zN ?_ | refine AWq.zO (by decide +kernel) ?_ | (refine Both.mk ?_ ?_ <;> intro hc <;> (first | exact Bool.noConfusion hc | exact absurd (by with_reducible rfl) hc | exact absurd hc (by assumption) | (exfalso; omega) | skip)) | (intro c hc; (try (simp only [AH.zA] at hc; repeat (have hn := hc.1; replace hc := hc.2))); (first | (have hc2 := Eq.trans hc (by with_reducible assumption); clear hc; subst hc2) | (refine zP hc ?_ ?_ ?_ ; omega; omega; (clear hc; intro hc; subst hc)) | skip)) | (apply Exists.intro; apply And.intro; (first | (focus (repeat (first | (with_reducible assumption))); done))) | (apply Exists.intro; apply And.intro; first | (with_reducible assumption) | ((try simp only [zW, z0z, zZ, zY]); first | (with_reducible assumption) | rfl)) | (apply And.intro; (first | rfl | (with_reducible assumption) | omega)))) <;> (try (conv => whnf))
    exact ⟨k, ⟨by omega, by omega⟩, by omega, ⟨congrArg (AV.int .i64) (by omega), trivial⟩, HLe.refl _⟩
   ·have hb0 : ¬ b = 0 := fun e => hz (by rw [hB, e]; rfl)
    rw [if_neg hb0] at h2'
    (repeat' ((conv => whnf); first | refine Then.mk ?_ | refine OpsA.zD ?_ | refine OpsA.zE ?_ | refine AWq.zI ?_ | refine AWq.zB ?_ | refine AWq.zG ?_ | refine AWq.zF ?_ | refine AWq.zH ?_ | refine AWq.ret ?_ | refine AWq.zK ?_ | refine AWq.zJ ?_ | refine DrawA.zM ?_ | refine DrawA.zN ?_ | refine AWq.zO (by decide +kernel) ?_ | (refine Both.mk ?_ ?_ <;> intro hc <;> (first | exact Bool.noConfusion hc | exact absurd (by with_reducible rfl) hc | exact absurd hc (by assumption) | (exfalso; omega) | skip)) | (intro c hc; (try (simp only [AH.zA] at hc; repeat (have hn := hc.1; replace hc := hc.2))); (first | (have hc2 := Eq.trans hc (by with_reducible assumption); clear hc; subst hc2) | (refine zP hc ?_ ?_ ?_ ; omega; omega; (clear hc; intro hc; subst hc)) | skip)) | (apply Exists.intro; apply And.intro; (first | (focus (repeat (first | (with_reducible assumption))); done))) | (apply Exists.intro; apply And.intro; first | (with_reducible assumption) | ((try simp only [zW, z0z, zZ, zY]); first | (with_reducible assumption) | rfl)) | (apply And.intro; (first | rfl | (with_reducible assumption) | omega)))) <;> (try (conv => whnf))
    exact fin (k + 1) (by omega) (by omega)
open Go.Fw Go
structure Mods (G : AH) (P Q : Nat → Nat) (m n : Nat) (M : Nat → Nat → Nat) : Prop where
 md : ∀ k, k < m → MdAt G (P k) (Q k) n (M k)
 pp : ∀ j k, j < m → k < m → j ≠ k → P j ≠ P k
 qq : ∀ j k, j < m → k < m → j ≠ k → Q j ≠ Q k
 pq : ∀ j k, j < m → k < m → P j ≠ Q k
theorem Mods.same {G G' : AH} {P Q : Nat → Nat} {m n : Nat} {M : Nat → Nat → Nat} (h : Mods G P Q m n M) (hs : ∀ k, k < m → G' (P k) = G (P k) ∧ G' (Q k) = G (Q k)) : Mods G' P Q m n M :=
 ⟨fun k hk => (h.md k hk).same (hs k hk).1 (hs k hk).2, h.pp, h.qq, h.pq⟩
theorem Mods.set {G : AH} {P Q : Nat → Nat} {m n : Nat} {M : Nat → Nat → Nat} (h : Mods G P Q m n M) {k : Nat} (hk : k < m) {c : Nat → Nat} (hc : MdOk n c) :
  Mods (mdH G (P k) (Q k) n c) P Q m n (fun j => if j = k then c else M j) := by
 refine ⟨fun j hj => ?_, h.pp, h.qq, h.pq⟩
 by_cases e : j = k
 ·subst e
  rw [if_pos rfl]
  exact MdAt.set (c := c) (h.md j hj).ne hc
 ·rw [if_neg e]
  exact (h.md j hj).same (mdH_ne (h.pp _ _ hj hk e) (h.pq _ _ hj hk)) (mdH_ne (Ne.symm (h.pq _ _ hk hj)) (h.qq _ _ hj hk e))
theorem AH.ne_none' {H : AH} {r s : Nat} {o : AO} (h : H r = Option.none) (k : H s = some o) : r ≠ s := fun e => by rw [← e, h] at k; cases k
theorem Mods.fresh {G : AH} {P Q : Nat → Nat} {m n : Nat} {M : Nat → Nat → Nat} (h : Mods G P Q m n M) {a : Nat} (ha : G a = Option.none) {k : Nat} (hk : k < m) : P k ≠ a ∧ Q k ≠ a :=
 ⟨Ne.symm (AH.ne_none' ha (h.md k hk).hp), Ne.symm (AH.ne_none' ha (h.md k hk).hq)⟩
def putF (f : Nat → Nat) (k v : Nat) : Nat → Nat := fun j => if j = k then v else f j
theorem putF_at (f : Nat → Nat) (k v : Nat) : putF f k v k = v := if_pos rfl
theorem putF_ne (f : Nat → Nat) {k j : Nat} (v : Nat) (h : j ≠ k) : putF f k v j = f j := if_neg h
theorem Mods.more {G : AH} {P Q : Nat → Nat} {m n : Nat} {M : Nat → Nat → Nat} (h : Mods G P Q m n M) {p q : Nat} (hp : G p = Option.none) (hq : G q = Option.none) (hne : p ≠ q) (hM : MdOk n (M m)) :
  Mods (mdH G p q n (M m)) (putF P m p) (putF Q m q) (m + 1) n M := by
 have a1 : ∀ k, k < m → putF P m p k = P k := fun k hk => putF_ne _ _ (by omega)
 have a2 : ∀ k, k < m → putF Q m q k = Q k := fun k hk => putF_ne _ _ (by omega)
 have b1 : ∀ k, k < m + 1 → k < m ∨ k = m := fun k hk => by omega
 refine ⟨fun k hk => ?_, fun j k hj hk hjk => ?_, fun j k hj hk hjk => ?_, fun j k hj hk => ?_⟩
 ·rcases b1 k hk with hk | rfl
  ·rw [a1 k hk, a2 k hk]
   exact (h.md k hk).same (mdH_ne (h.fresh hp hk).1 (h.fresh hq hk).1) (mdH_ne (h.fresh hp hk).2 (h.fresh hq hk).2)
  ·rw [putF_at, putF_at]
   exact MdAt.set (c := M 0) hne hM
 ·rcases b1 j hj with hj | rfl <;> rcases b1 k hk with hk | rfl
  ·rw [a1 j hj, a1 k hk]; exact h.pp j k hj hk hjk
  ·rw [a1 j hj, putF_at]; exact (h.fresh hp hj).1
  ·rw [a1 k hk, putF_at]; exact Ne.symm (h.fresh hp hk).1
  ·exact absurd rfl hjk
 ·rcases b1 j hj with hj | rfl <;> rcases b1 k hk with hk | rfl
  ·rw [a2 j hj, a2 k hk]; exact h.qq j k hj hk hjk
  ·rw [a2 j hj, putF_at]; exact (h.fresh hq hj).2
  ·rw [a2 k hk, putF_at]; exact Ne.symm (h.fresh hq hk).2
  ·exact absurd rfl hjk
 ·rcases b1 j hj with hj | rfl <;> rcases b1 k hk with hk | rfl
  ·rw [a1 j hj, a2 k hk]; exact h.pq j k hj hk
  ·rw [a1 j hj, putF_at]; exact (h.fresh hq hj).1
  ·rw [a2 k hk, putF_at]; exact Ne.symm (h.fresh hp hk).2
  ·rw [putF_at, putF_at]; exact hne
def psL (P : Nat → Nat) (m : Nat) : List AV := (List.range m).map fun k => .ptr (P k) 0 0
@[simp] theorem psL_len (P : Nat → Nat) (m : Nat) : (psL P m).length = m := by simp [psL]
theorem psL_get {P : Nat → Nat} {m k : Nat} (h : k < m) : (psL P m)[k]? = some (.ptr (P k) 0 0) := by
 unfold psL
 rw [List.getElem?_map, List.getElem?_range h]; rfl
theorem psL_snoc (P : Nat → Nat) (m p : Nat) : psL P m ++ [.ptr p 0 0] = psL (putF P m p) (m + 1) := by
 unfold psL
 rw [List.range_succ, List.map_append]
 congr 1
 ·refine List.map_congr_left fun k hk => ?_
  have : k < m := by simpa using hk
  rw [putF_ne _ _ (by omega)]
 ·simp [putF_at]
structure AlphaOk (H G : AH) (a n i : Nat) (P Q : Nat → Nat) : Prop where
 mods : Mods G P Q i n fun _ _ => 1
 row : G a = some (.row (psL P i) i)
 le : HLe H G
 na : ∀ k, k < i → P k ≠ a ∧ Q k ≠ a
 new : ∀ k, k < i → H (P k) = none ∧ H (Q k) = none
set_option maxRecDepth 8000 in
theorem alphabet_c (n m : Nat) (hn1 : 1 ≤ n) (hn2 : n ≤ 1024) (hm1 : 1 ≤ m) (hm2 : m ≤ 256) (H : AH) :
  ACall Try.prog 80 [.int .i64 n, .int .i64 m] H (fun y H' => ∃ P Q, y = .tup [.cs (psL P m) m, .int .i64 0] ∧ Mods H' P Q m n (fun _ _ => 1) ∧ HLe H H' ∧ ∀ k, k < m → H (P k) = none ∧ H (Q k) = none) := by
 refine zQ zU (dok _) Try.func80 rfl (by decide) rfl ?_
 (repeat' ((conv => whnf); first | left | refine OpsA.zD ?_ | refine OpsA.zE ?_ | refine AWq.zI ?_ | refine AWq.zB ?_ | refine AWq.zG ?_ | refine AWq.zF ?_ | refine AWq.zH ?_ | refine AWq.ret ?_ | refine AWq.zK ?_ | refine AWq.zJ ?_ | (refine Both.mk ?_ ?_ <;> intro hc <;> (first | exact Bool.noConfusion hc | (exfalso; omega) | skip)) | (intro c hc; (try (simp only [AH.zA] at hc; repeat (have hn := hc.1; replace hc := hc.2))); (first | (refine zP hc ?_ ?_ ?_ ; omega; omega; (clear hc; intro hc; subst hc)) | skip)) | (apply Exists.intro; apply And.intro; (first | (focus (repeat (first | (with_reducible assumption))); done))) | (apply And.intro; (first | rfl | (with_reducible assumption) | omega)))) <;> (try (conv => whnf))
 refine Then.mk ?_
 (repeat' ((conv => whnf); first | left | refine OpsA.zD ?_ | refine OpsA.zE ?_ | refine AWq.zI ?_ | refine AWq.zB ?_ | refine AWq.zG ?_ | refine AWq.zF ?_ | refine AWq.zH ?_ | refine AWq.ret ?_ | refine AWq.zK ?_ | refine AWq.zJ ?_ | (refine Both.mk ?_ ?_ <;> intro hc <;> (first | exact Bool.noConfusion hc | (exfalso; omega) | skip)) | (intro c hc; (try (simp only [AH.zA] at hc; repeat (have hn := hc.1; replace hc := hc.2))); (first | (refine zP hc ?_ ?_ ?_ ; omega; omega; (clear hc; intro hc; subst hc)) | skip)) | (apply Exists.intro; apply And.intro; (first | (focus (repeat (first | (with_reducible assumption))); done))) | (apply And.intro; (first | rfl | (with_reducible assumption) | omega)))) <;> (try (conv => whnf))
 refine Then.mk ?_
 (repeat' ((conv => whnf); first | left | refine OpsA.zD ?_ | refine OpsA.zE ?_ | refine AWq.zI ?_ | refine AWq.zB ?_ | refine AWq.zG ?_ | refine AWq.zF ?_ | refine AWq.zH ?_ | refine AWq.ret ?_ | refine AWq.zK ?_ | refine AWq.zJ ?_ | (refine Both.mk ?_ ?_ <;> intro hc <;> (first | exact Bool.noConfusion hc | (exfalso; omega) | skip)) | (intro c hc; (try (simp only [AH.zA] at hc; repeat (have hn := hc.1; replace hc := hc.2))); (first | (refine zP hc ?_ ?_ ?_ ; omega; omega; (clear hc; intro hc; subst hc)) | skip)) | (apply Exists.intro; apply And.intro; (first | (focus (repeat (first | (with_reducible assumption))); done))) | (apply And.intro; (first | rfl | (with_reducible assumption) | omega)))) <;> (try (conv => whnf))
 refine Then.mk ?_
 (repeat' ((conv => whnf); first | left | refine OpsA.zD ?_ | refine OpsA.zE ?_ | refine AWq.zI ?_ | refine AWq.zB ?_ | refine AWq.zG ?_ | refine AWq.zF ?_ | refine AWq.zH ?_ | refine AWq.ret ?_ | refine AWq.zK ?_ | refine AWq.zJ ?_ | (refine Both.mk ?_ ?_ <;> intro hc <;> (first | exact Bool.noConfusion hc | (exfalso; omega) | skip)) | (intro c hc; (try (simp only [AH.zA] at hc; repeat (have hn := hc.1; replace hc := hc.2))); (first | (refine zP hc ?_ ?_ ?_ ; omega; omega; (clear hc; intro hc; subst hc)) | skip)) | (apply Exists.intro; apply And.intro; (first | (focus (repeat (first | (with_reducible assumption))); done))) | (apply And.intro; (first | rfl | (with_reducible assumption) | omega)))) <;> (try (conv => whnf))
 refine Then.mk (AWq.in ?_)
 refine AWp_nilrow1 6 1 rfl rfl fun a ha => ?_
 refine AWp.of zU (dok _) rfl ?_
 (repeat' ((conv => whnf); first | refine Then.mk ?_ | left | refine OpsA.zD ?_ | refine OpsA.zE ?_ | refine AWq.zI ?_ | refine AWq.zB ?_ | refine AWq.zG ?_ | refine AWq.zF ?_ | refine AWq.zH ?_ | refine AWq.ret ?_ | refine AWq.zK ?_ | refine AWq.zJ ?_ | (refine Both.mk ?_ ?_ <;> intro hc <;> (first | exact Bool.noConfusion hc | (exfalso; omega) | skip)) | (intro c hc; (try (simp only [AH.zA] at hc; repeat (have hn := hc.1; replace hc := hc.2))); (first | (refine zP hc ?_ ?_ ?_ ; omega; omega; (clear hc; intro hc; subst hc)) | skip)) | (apply Exists.intro; apply And.intro; (first | (focus (repeat (first | (with_reducible assumption))); done))) | (apply And.intro; (first | rfl | (with_reducible assumption) | omega)))) <;> (try (conv => whnf))
 refine zT (σ := AH × Nat × (Nat → Nat) × (Nat → Nat)) (6 :: 22 :: 23 :: 24 :: 25 :: 26 :: 27 :: 28 :: 29 :: []) (fun (G, i, P, Q) => [(6, .sl a i 1 0 i none), (22, .int .i64 i)]) (fun (G, i, P, Q) => G) (fun (G, i, P, Q) => i ≤ m ∧ AlphaOk H G a n i P Q) (fun (G, i, P, Q) => m - i) (_, 0, fun _ => 0, fun _ => 0) rfl ?_ ?_ (HLe.refl _) ?_
 ·refine ⟨Nat.zero_le _, ⟨⟨fun k hk => absurd hk (by omega), fun j k hj => absurd hj (by omega), fun j k hj => absurd hj (by omega), fun j k hj => absurd hj (by omega)⟩, AH.zC _ _ _, HLe.fresh _ ha, fun k hk => absurd hk (by omega), fun k hk => absurd hk (by omega)⟩⟩
 ·exact ⟨rfl, rfl, trivial⟩
 ·rintro ⟨G, i, P, Q⟩ ⟨hi, hok⟩
  dsimp only at hi hok ⊢
  obtain ⟨hmods, hrow, hle, hna, hnew⟩ := hok
  refine AWp.of zU (dok _) rfl ?_
  have hpl : (psL P i).length = i := psL_len _ _
  by_cases him : i < m
  ·(repeat' ((conv => whnf); first | refine Then.mk ?_ | left | refine OpsA.zD ?_ | refine OpsA.zE ?_ | refine AWq.zI ?_ | refine AWq.zB ?_ | refine AWq.zG ?_ | refine AWq.zF ?_ | refine AWq.zH ?_ | refine AWq.ret ?_ | refine AWq.zK ?_ | refine AWq.zJ ?_ | (refine Both.mk ?_ ?_ <;> intro hc <;> (first | exact Bool.noConfusion hc | (exfalso; omega) | skip)) | (intro c hc; (try (simp only [AH.zA] at hc; repeat (have hn := hc.1; replace hc := hc.2))); (first | (refine zP hc ?_ ?_ ?_ ; omega; omega; (clear hc; intro hc; subst hc)) | skip)) | (apply Exists.intro; apply And.intro; (first | (focus (repeat (first | (with_reducible assumption))); done))) | (apply And.intro; (first | rfl | (with_reducible assumption) | omega)))) <;> (try (conv => whnf))
   refine (fresh_c n hn1 (by omega) _).mono ?_
   rintro y H' ⟨p, q, hp, hq, hpq, rfl, rfl⟩
   have hap : a ≠ p := AH.ne_none hp hrow
   have haq : a ≠ q := AH.ne_none hq hrow
   have hrow2 : mdH G p q n (fun _ => 1) a = some (.row (psL P i) i) := by rw [mdH_ne hap haq]; exact hrow
   have hm2 := hmods.more hp hq hpq (MdOk.new hn2)
   (repeat' ((conv => whnf); first | refine Then.mk ?_ | left | refine OpsA.zD ?_ | refine OpsA.zE ?_ | refine AWq.zI ?_ | refine AWq.zB ?_ | refine AWq.zG ?_ | refine AWq.zF ?_ | refine AWq.zH ?_ | refine AWq.ret ?_ | refine AWq.zK ?_ | refine AWq.zJ ?_ | (refine Both.mk ?_ ?_ <;> intro hc <;> (first | exact Bool.noConfusion hc | (exfalso; omega) | skip)) | (intro c hc; (try (simp only [AH.zA] at hc; repeat (have hn := hc.1; replace hc := hc.2))); (first | (refine zP hc ?_ ?_ ?_ ; omega; omega; (clear hc; intro hc; subst hc)) | skip)) | (apply Exists.intro; apply And.intro; (first | (focus (repeat (first | (with_reducible assumption))); done))) | (apply And.intro; (first | rfl | (with_reducible assumption) | omega)))) <;> (try (conv => whnf))
   have hna2 : ∀ k, k < i + 1 → putF P i p k ≠ a ∧ putF Q i q k ≠ a := fun k hk => by
    by_cases e : k = i
    ·subst e; rw [putF_at, putF_at]; exact ⟨Ne.symm hap, Ne.symm haq⟩
    ·rw [putF_ne _ _ e, putF_ne _ _ e]; exact hna k (by omega)
   have hHp : H p = none := HLe.none hle hp
   have hHq : H q = none := HLe.none hle hq
   refine ⟨((mdH G p q n fun _ => 1).set a (.row (psL P i ++ [.ptr p 0 0]) (i + 1)), i + 1, putF P i p, putF Q i q), ⟨?_, ?_⟩, ?_, ⟨rfl, congrArg (AV.int .i64) ?_, trivial⟩, HLe.refl _⟩
   ·show i + 1 ≤ m
    omega
   ·refine ⟨?_, ?_, ?_, hna2, ?_⟩
    ·exact hm2.same fun k hk => ⟨AH.zR _ _ (hna2 k hk).1, AH.zR _ _ (hna2 k hk).2⟩
    ·dsimp only
     rw [AH.zC, ← psL_snoc]
    ·exact HLe.set_of _ _ (HLe.set_of _ _ (HLe.set_of _ _ hle hHq) hHp) ha
    ·intro k hk
     show H (putF P i p k) = none ∧ H (putF Q i q k) = none
     by_cases e : k = i
     ·subst e; rw [putF_at, putF_at]; exact ⟨hHp, hHq⟩
     ·rw [putF_ne _ _ e, putF_ne _ _ e]; exact hnew k (by have : k < i + 1 := hk; omega)
   ·show m - (i + 1) < m - i
    omega
   ·show (i : Int) + 1 = (i + 1 : Nat)
    omega
  ·have hie : i = m := by omega
   subst hie
   (repeat' ((conv => whnf); first | left | refine OpsA.zD ?_ | refine OpsA.zE ?_ | refine AWq.zI ?_ | refine AWq.zB ?_ | refine AWq.zG ?_ | refine AWq.zF ?_ | refine AWq.zH ?_ | refine AWq.ret ?_ | refine AWq.zK ?_ | refine AWq.zJ ?_ | (refine Both.mk ?_ ?_ <;> intro hc <;> (first | exact Bool.noConfusion hc | (exfalso; omega) | skip)) | (intro c hc; (try (simp only [AH.zA] at hc; repeat (have hn := hc.1; replace hc := hc.2))); (first | (refine zP hc ?_ ?_ ?_ ; omega; omega; (clear hc; intro hc; subst hc)) | skip)) | (apply Exists.intro; apply And.intro; (first | (focus (repeat (first | (with_reducible assumption))); done))) | (apply And.intro; (first | rfl | (with_reducible assumption) | omega)))) <;> (try (conv => whnf))
   refine Then.mk (AWq.in ?_)
   refine AWp_freeze1 (r := a) (v := i) (es := 1) (n := i) (lim := none) (cells := psL P i) 6 rfl rfl hrow (by simp) ?_
   refine AWp.of zU (dok _) rfl ?_
   (repeat' ((conv => whnf); first | refine Then.mk ?_ | left | refine OpsA.zD ?_ | refine OpsA.zE ?_ | refine AWq.zI ?_ | refine AWq.zB ?_ | refine AWq.zG ?_ | refine AWq.zF ?_ | refine AWq.zH ?_ | refine AWq.ret ?_ | refine AWq.zK ?_ | refine AWq.zJ ?_ | (refine Both.mk ?_ ?_ <;> intro hc <;> (first | exact Bool.noConfusion hc | (exfalso; omega) | skip)) | (intro c hc; (try (simp only [AH.zA] at hc; repeat (have hn := hc.1; replace hc := hc.2))); (first | (refine zP hc ?_ ?_ ?_ ; omega; omega; (clear hc; intro hc; subst hc)) | skip)) | (apply Exists.intro; apply And.intro; (first | (focus (repeat (first | (with_reducible assumption))); done))) | (apply And.intro; (first | rfl | (with_reducible assumption) | omega)))) <;> (try (conv => whnf))
   exact ⟨P, Q, rfl, hmods.same fun k hk => ⟨AH.del_ne _ (hna k hk).1, AH.del_ne _ (hna k hk).2⟩, HLe.del _ hle ha, hnew⟩
open Go.Fw Go
theorem ACall.fin {P : Program} {g : FuncId} {args : List AV} {H : AH} {v : AV} (h : ACall P g args H fun y H' => AVle y v ∧ HLe H H') : ACall P g args H fun y H' => y = v ∧ H' = H :=
 ACall.told (h.mono fun y H' ⟨a, b⟩ => ⟨v, H, a, b, rfl, rfl⟩)
structure CdAt (H G : AH) (P Q : Nat → Nat) (w r m n : Nat) (E : Es) : Prop where
 mods : Mods G P Q m n E.M
 wr : WrAt G w r E.σ
 dj : ∀ k, k < m → P k ≠ w ∧ P k ≠ r ∧ Q k ≠ w ∧ Q k ≠ r
 le : HLe H G
 new : ∀ k, k < m → H (P k) = none ∧ H (Q k) = none
 hw : H w = none
 hr : H r = none
theorem le_mdH {H G : AH} {p q n : Nat} {c : Nat → Nat} (h : HLe H G) (hp : H p = none) (hq : H q = none) : HLe H (mdH G p q n c) := HLe.set_of _ _ (HLe.set_of _ _ h hq) hp
theorem le_wcH {H G : AH} {w r : Nat} {σ : Cs} (h : HLe H G) (hp : H w = none) (hq : H r = none) : HLe H (wcH G w r σ) := HLe.set_of _ _ (HLe.set_of _ _ h hq) hp
theorem CdAt.step {H G : AH} {P Q : Nat → Nat} {w r m n : Nat} {E : Es} (h : CdAt H G P Q w r m n E) (σ : Cs) : CdAt H (wcH G w r σ) P Q w r m n ⟨E.M, σ⟩ := by
 refine ⟨h.mods.same fun k hk => ?_, WrAt.set h.wr.ne, h.dj, le_wcH h.le h.hw h.hr, h.new, h.hw, h.hr⟩
 obtain ⟨a, b, c, d⟩ := h.dj k hk
 exact ⟨wcH_ne a b, wcH_ne c d⟩
def enG (G : AH) (P Q : Nat → Nat) (w r n : Nat) (E : Es) (k s : Nat) : AH := mdH (wcH G w r (symE n E k s).σ) (P k) (Q k) n (seeM n (E.M k) s)
theorem CdAt.sym {H G : AH} {P Q : Nat → Nat} {w r m n : Nat} {E : Es} (h : CdAt H G P Q w r m n E) {k s : Nat} (hk : k < m) (hs : s < n) : CdAt H (enG G P Q w r n E k s) P Q w r m n (symE n E k s) := by
 have h1 := h.step (symE n E k s).σ
 obtain ⟨a, b, c, d⟩ := h.dj k hk
 refine ⟨h1.mods.set hk ((h.mods.md k hk).ok.see hs), h1.wr.same (mdH_ne (Ne.symm a) (Ne.symm c)) (mdH_ne (Ne.symm b) (Ne.symm d)), h.dj, le_mdH h1.le (h.new k hk).1 (h.new k hk).2, h.new, h.hw, h.hr⟩
theorem CdAt.symbol {H G : AH} {P Q : Nat → Nat} {w r m n : Nat} {E : Es} (h : CdAt H G P Q w r m n E) (hc : CsOk E.σ) (hL : E.σ.L ≤ 1000000000000) {k s : Nat} (hk : k < m) (hs : s < n) :
  ACall Try.prog 84 [.ptr w 0 0, .ptr (P k) 0 0, .int .i64 s] G (fun y H' => y = .tup [] ∧ H' = enG G P Q w r n E k s) := by
 obtain ⟨a, b, c, d⟩ := h.dj k hk
 exact symbol_c h.wr (h.mods.md k hk) a b c d hs hc hL
theorem stp_L {σ : Cs} (h : CsOk σ) {p c t : Nat} (hs : StOk p c t) : (stp σ p c t).L ≤ σ.L + 2 := by
 obtain ⟨d, hd, he, _⟩ := stp_ex h hs
 rw [he]
 show σ.L + d ≤ _
 omega
def k_resV (x : List UInt8 × Int) : AV := .tup [.cs (u8s x.1) x.1.length, .int .i64 x.2]
theorem AVle.err {e : Int} : AVle (.tup [.nils, .int .i64 e]) (k_resV ([], e)) := AVle.tup (AVles.cons AVle.nils (AVles.cons (AVle.refl _) AVles.nil))
def I64L (l : List Int) : Prop := ∀ x ∈ l, -9223372036854775808 ≤ x ∧ x ≤ 9223372036854775807
theorem I64L.at {l : List Int} (h : I64L l) (i : Nat) : -9223372036854775808 ≤ l.getD i 0 ∧ l.getD i 0 ≤ 9223372036854775807 := by
 by_cases hi : i < l.length
 ·have : l.getD i 0 = l[i] := by rw [List.getD_eq_getElem?_getD, List.getElem?_eq_getElem hi]; rfl
  rw [this]; exact h _ (List.getElem_mem hi)
 ·rw [List.getD_eq_getElem?_getD, List.getElem?_eq_none (by omega)]; decide
open Go.Fw Go
theorem fold_zz (x : Int) : fold x = zz x := by
 unfold fold zz
 split <;> split <;> omega
set_option maxRecDepth 8000 in
theorem fold_c (x : Int) (h : -9223372036854775808 ≤ x ∧ x ≤ 9223372036854775807) (H : AH) :
  ACall Try.prog 82 [.int .i64 x] H (fun y H' => y = .int .u64 (fold x : Nat) ∧ H' = H) := by
 have e := zz_wire h.1 h.2
 rw [← fold_zz] at e
 refine zQ zU (dok _) Try.func82 rfl (by decide) rfl ?_
 (repeat' ((conv => whnf); first | refine Then.mk ?_ | refine OpsA.zD ?_ | refine OpsA.zE ?_ | refine AWq.zI ?_ | refine AWq.zB ?_ | refine AWq.ret ?_ | (intro c hc; (try (simp only [AH.zA] at hc; repeat (have hn := hc.1; replace hc := hc.2))); (first | subst hc)) | (apply And.intro; (first | rfl | omega)))) <;> (try (conv => whnf))
 exact ⟨congrArg (AV.int .u64) e, rfl⟩
theorem lenB_up {u k : Nat} (h1 : 2 ^ k ≤ u) : lenB u = k + lenB (u / 2 ^ k) := by
 have hp : 0 < 2 ^ k := Nat.pow_pos (by decide)
 have h0 : u ≠ 0 := by omega
 have hd : u / 2 ^ k ≠ 0 := by
  have := Nat.div_pos h1 hp; omega
 unfold lenB
 rw [if_neg h0, if_neg hd]
 have a := (Nat.le_log2 hd (k := (u / 2 ^ k).log2)).1 (Nat.le_refl _)
 have b := (Nat.log2_lt hd (k := (u / 2 ^ k).log2 + 1)).1 (Nat.lt_succ_self _)
 generalize (u / 2 ^ k).log2 = t at a b ⊢
 have c1 : k + t ≤ u.log2 := (Nat.le_log2 h0).2 (by
  rw [Nat.pow_add, Nat.mul_comm]
  exact (Nat.le_div_iff_mul_le hp).1 a)
 have c2 : u.log2 < k + (t + 1) := (Nat.log2_lt h0).2 (by
  rw [Nat.pow_add, Nat.mul_comm]
  exact (Nat.div_lt_iff_lt_mul hp).1 b)
 omega
def lenT (u : Nat) : Nat := if u < 1 then 0 else if u < 2 then 1 else if u < 4 then 2 else if u < 8 then 3 else if u < 16 then 4 else if u < 32 then 5 else if u < 64 then 6 else if u < 128 then 7 else 8
theorem lenT_ok : ∀ u, u < 256 → lenT u = lenB u := by decide +kernel
theorem lenB_two {u k : Nat} : ∃ x d : Nat, (2 ^ k ≤ u ∧ x = u / 2 ^ k ∧ d = k ∨ u < 2 ^ k ∧ x = u ∧ d = 0) ∧ lenB u = d + lenB x := by
 by_cases h : 2 ^ k ≤ u
 ·exact ⟨_, _, .inl ⟨h, rfl, rfl⟩, lenB_up h⟩
 ·exact ⟨_, _, .inr ⟨by omega, rfl, rfl⟩, by omega⟩
theorem sh32 (u : Nat) : (u : Int).fdiv (2 ^ min (Int.toNat 32) IntKind.u64.bits) = (u / 4294967296 : Nat) := by
 rw [show (2 : Int) ^ min (Int.toNat 32) IntKind.u64.bits = 4294967296 by decide, Int.fdiv_eq_ediv_of_nonneg _ (by omega)]; omega
theorem sh16 (u : Nat) : (u : Int).fdiv (2 ^ min (Int.toNat 16) IntKind.u64.bits) = (u / 65536 : Nat) := by
 rw [show (2 : Int) ^ min (Int.toNat 16) IntKind.u64.bits = 65536 by decide, Int.fdiv_eq_ediv_of_nonneg _ (by omega)]; omega
theorem sh8 (u : Nat) : (u : Int).fdiv (2 ^ min (Int.toNat 8) IntKind.u64.bits) = (u / 256 : Nat) := by
 rw [show (2 : Int) ^ min (Int.toNat 8) IntKind.u64.bits = 256 by decide, Int.fdiv_eq_ediv_of_nonneg _ (by omega)]; omega
def tab8 : List UInt8 := (List.range 256).map fun x => UInt8.ofNat (lenT x)
theorem tab8_at {l : List UInt8} (h : l = tab8) {x : Nat} (hx : x < 256) : (l.getD (x : Int).toNat 0).toNat = lenT x := by
 rw [h, Int.toNat_natCast]
 revert x
 decide +kernel
set_option maxRecDepth 8000 in
theorem len64_c (u : Nat) (h : u < 18446744073709551616) (H : AH) :
  ACall Try.prog 83 [.int .u64 u] H (fun y H' => y = .int .i64 (lenB u : Nat) ∧ H' = H) := by
 obtain ⟨x1, d1, h1, l1⟩ := lenB_two (u := u) (k := 32)
 obtain ⟨x2, d2, h2, l2⟩ := lenB_two (u := x1) (k := 16)
 obtain ⟨x3, d3, h3, l3⟩ := lenB_two (u := x2) (k := 8)
 have e1 := sh32 u
 have e2 := sh16 x1
 have e3 := sh8 x2
 simp only [show (2 : Nat) ^ 32 = 4294967296 by decide, show (2 : Nat) ^ 16 = 65536 by decide, show (2 : Nat) ^ 8 = 256 by decide] at h1 h2 h3
 have hx3 : x3 < 256 := by omega
 have hl := lenT_ok x3 hx3
 have hf : lenB u = d1 + d2 + d3 + lenB x3 := by omega
 have hb : lenB x3 ≤ 8 := by
  rw [← hl]; unfold lenT
  repeat' split
  all_goals omega
 rw [hf]
 obtain ⟨L, hL⟩ : ∃ L, L = lenB x3 := ⟨_, rfl⟩
 rw [← hL] at hb hl ⊢
 clear hf hL l1 l2 l3
 have hfin : ∀ l : List UInt8, l = tab8 → ∀ d : Nat, d ≤ 56 → ∀ e : Int, e = d → AV.int .i64 (IntKind.i64.wrap (e + IntKind.i64.wrap (l.getD (x3 : Int).toNat 0).toNat)) = AV.int .i64 (d + L : Nat) ∧ H = H := fun l hl2 d hd e he => by
  refine ⟨congrArg (AV.int .i64) ?_, rfl⟩
  rw [tab8_at hl2 hx3, hl, IntKind.wrap_i64, IntKind.wrap_i64, he]
  clear h e1 e2 e3 h1 h2 h3
  omega
 rcases h1 with ⟨a1, a2, a3⟩ | ⟨a1, a2, a3⟩ <;> subst a2 a3 <;> rcases h2 with ⟨b1, b2, b3⟩ | ⟨b1, b2, b3⟩ <;> subst b2 b3 <;> rcases h3 with ⟨c1, c2, c3⟩ | ⟨c1, c2, c3⟩ <;> subst c2 c3
 all_goals
  refine zQ zU (dok _) Try.func83 rfl (by decide) rfl ?_
  (repeat' ((conv => whnf); first | refine Then.mk ?_ | refine OpsA.zD ?_ | refine OpsA.zE ?_ | refine AWq.zI ?_ | refine AWq.zB ?_ | refine AWq.zG ?_ | refine AWq.zH ?_ | refine AWq.ret ?_ | (refine Both.mk ?_ ?_ <;> intro hc <;> (first | exact Bool.noConfusion hc | (exfalso; omega) | skip)) | (intro c hc; (try (simp only [AH.zA] at hc; repeat (have hn := hc.1; replace hc := hc.2))); (first | (have hc2 := Eq.trans hc (by with_reducible assumption); clear hc; subst hc2) | (refine zP hc ?_ ?_ ?_ ; omega; omega; (clear hc; intro hc; subst hc)) | (refine u8_k hc ?_ ?_ ?_ ; omega; omega; (clear hc; intro hc; subst hc)) | subst hc | skip)) | (apply And.intro; (first | rfl | omega | (exact Int.ofNat_lt.2 (Nat.lt_of_lt_of_eq (by with_reducible assumption) (by decide +kernel))))))) <;> (try (conv => whnf))
  exact hfin _ (by decide +kernel) _ (by decide) _ (by decide)
open Go.Fw Go
theorem shr_at (u k : Nat) (h : k ≤ 63) : (u : Int).fdiv (2 ^ min (Int.toNat (k : Int)) IntKind.u64.bits) = (u / 2 ^ k : Nat) := by
 rw [show min (Int.toNat (k : Int)) IntKind.u64.bits = k by show min k 64 = k; omega, Int.fdiv_eq_ediv_of_nonneg _ (Int.le_of_lt (Int.pow_pos (by decide)))]
 rw [Int.natCast_ediv, Int.natCast_pow]; rfl
theorem and_one (x : Nat) (h : x < 18446744073709551616) : bitsA .and .u64 (x : Nat) 1 = (x % 2 : Nat) := by
 show IntKind.u64.wrap ((BitVec.ofInt 64 (x : Int) &&& BitVec.ofInt 64 1).toNat : Int) = _
 have ha : (BitVec.ofInt 64 (x : Int)).toNat = x := by rw [BitVec.toNat_ofInt]; omega
 have hb : (BitVec.ofInt 64 1).toNat = 2 ^ 1 - 1 := by decide
 rw [BitVec.toNat_and, ha, hb, Nat.and_two_pow_sub_one_eq_mod, wrap_u64']
 omega
theorem bitsE_L {u : Nat} : ∀ (k : Nat) {σ : Cs}, CsOk σ → (bitsE u k σ).L ≤ σ.L + 2 * k
 | 0, _, _ => Nat.le_refl _
 | k + 1, σ, h => by
  have h1 := bitsE_L (u := u) k (bitE_ok h u k)
  have h2 : (bitE σ u k).L ≤ σ.L + 2 := stp_L h (bit_st u k)
  show (bitsE u k (bitE σ u k)).L ≤ _
  omega
theorem intI_L {I : Is} (h : IsOk I) {u : Nat} (hu : u < 2 ^ 64) : (intI I u).E.σ.L ≤ I.E.σ.L + 130 := by
 have hl := lenB_le hu
 have h1 := stp_L h.es.cs (h.es.st I.b (s := lenB u) (by omega))
 have h2 := bitsE_L (u := u) (lenB u - 1) (h.es.sym I.b (s := lenB u) (by omega)).cs
 have h3 : (symE 65 I.E I.b (lenB u)).σ.L ≤ I.E.σ.L + 2 := h1
 show (bitsE u (lenB u - 1) (symE 65 I.E I.b (lenB u)).σ).L ≤ _
 omega
theorem intsI_L : ∀ (us : List Nat) {I : Is}, (∀ u ∈ us, u < 2 ^ 64) → IsOk I → (intsI us I).E.σ.L ≤ I.E.σ.L + 130 * us.length
 | [], _, _, _ => Nat.le_refl _
 | u :: us, I, hu, h => by
  have h1 := intI_L h (hu u (by simp))
  have h2 := intsI_L us (I := intI I u) (fun v hv => hu v (by simp [hv])) (h.step (hu u (by simp)))
  show (intsI us (intI I u)).E.σ.L ≤ _
  rw [List.length_cons]
  omega
theorem fold_all {l : List Int} (h : I64L l) : ∀ u ∈ l.map fold, u < 2 ^ 64 := fun u hu => by
 obtain ⟨x, hx, rfl⟩ := List.mem_map.1 hu
 exact fold_lt (h x hx)
theorem I64L.take {l : List Int} (h : I64L l) (n : Nat) : I64L (l.take n) := fun x hx => h x (List.mem_of_mem_take hx)
set_option maxRecDepth 8000 in
theorem cInts_c (l : List Int) (hl : I64L l) (hlen : l.length ≤ 1000000) (H : AH) :
  ACall Try.prog 60 [.cs (iS .i64 l) l.length] H (fun y H' => y = k_resV (intsS l) ∧ H' = H) := by
 refine ACall.fin ?_
 have hsl : (iS .i64 l).length = l.length * 1 := by simp
 by_cases hlim : l.length ≤ 65536
 ·have he : intsS l = (codeS (intsI (l.map fold) is0).E.σ, 0) := if_pos hlim
  rw [he]
  refine zQ zU (dok _) Try.func60 rfl (by decide) rfl ?_
  (repeat' ((conv => whnf); first | refine Then.mk ?_ | refine OpsA.zD ?_ | refine OpsA.zE ?_ | refine AWq.zI ?_ | refine AWq.zB ?_ | refine AWq.zG ?_ | refine AWq.zF ?_ | refine AWq.zH ?_ | refine AWq.ret ?_ | refine AWq.zK ?_ | refine AWq.zJ ?_ | (refine Both.mk ?_ ?_ <;> intro hc <;> (first | exact Bool.noConfusion hc | (exfalso; omega) | skip)) | (intro c hc; (try (simp only [AH.zA] at hc; repeat (have hn := hc.1; replace hc := hc.2))); (first | (have hc2 := Eq.trans hc (by with_reducible assumption); clear hc; subst hc2) | (refine zP hc ?_ ?_ ?_ ; omega; omega; (clear hc; intro hc; subst hc)) | skip)) | (apply Exists.intro; apply And.intro; first | (with_reducible assumption) | ((try simp only [zW, z0z, zZ, zY]); first | (with_reducible assumption) | rfl)) | (apply And.intro; (first | rfl | (with_reducible assumption) | omega)))) <;> (try (conv => whnf))
  refine (alphabet_c 65 65 (by omega) (by omega) (by omega) (by omega) _).mono ?_
  rintro y H' ⟨P, Q, rfl, hmods, hle, hnew⟩
  have hpl : (psL P 65).length = 65 := psL_len _ _
  (repeat' ((conv => whnf); first | refine Then.mk ?_ | refine OpsA.zD ?_ | refine OpsA.zE ?_ | refine AWq.zI ?_ | refine AWq.zB ?_ | refine AWq.zG ?_ | refine AWq.zF ?_ | refine AWq.zH ?_ | refine AWq.ret ?_ | refine AWq.zK ?_ | refine AWq.zJ ?_ | (refine Both.mk ?_ ?_ <;> intro hc <;> (first | exact Bool.noConfusion hc | (exfalso; omega) | skip)) | (intro c hc; (try (simp only [AH.zA] at hc; repeat (have hn := hc.1; replace hc := hc.2))); (first | (have hc2 := Eq.trans hc (by with_reducible assumption); clear hc; subst hc2) | (refine zP hc ?_ ?_ ?_ ; omega; omega; (clear hc; intro hc; subst hc)) | skip)) | (apply Exists.intro; apply And.intro; first | (with_reducible assumption) | ((try simp only [zW, z0z, zZ, zY]); first | (with_reducible assumption) | rfl)) | (apply And.intro; (first | rfl | (with_reducible assumption) | omega)))) <;> (try (conv => whnf))
  refine (writer_c _).mono ?_
  rintro y G ⟨w, r, hw, hr, hwr, rfl, rfl⟩
  have hcd : CdAt H (wcH H' w r cs0) P Q w r 65 65 es0 := by
   have hd : ∀ k, k < 65 → P k ≠ w ∧ P k ≠ r ∧ Q k ≠ w ∧ Q k ≠ r := fun k hk => ⟨(hmods.fresh hw hk).1, (hmods.fresh hr hk).1, (hmods.fresh hw hk).2, (hmods.fresh hr hk).2⟩
   exact ⟨hmods.same fun k hk => ⟨wcH_ne (hd k hk).1 (hd k hk).2.1, wcH_ne (hd k hk).2.2.1 (hd k hk).2.2.2⟩, WrAt.set hwr, hd, le_wcH hle (HLe.none hle hw) (HLe.none hle hr), hnew, HLe.none hle hw, HLe.none hle hr⟩
  generalize wcH H' w r cs0 = G0 at hcd ⊢
  (repeat' ((conv => whnf); first | refine Then.mk ?_ | refine OpsA.zD ?_ | refine OpsA.zE ?_ | refine AWq.zI ?_ | refine AWq.zB ?_ | refine AWq.zG ?_ | refine AWq.zF ?_ | refine AWq.zH ?_ | refine AWq.ret ?_ | refine AWq.zK ?_ | refine AWq.zJ ?_ | (refine Both.mk ?_ ?_ <;> intro hc <;> (first | exact Bool.noConfusion hc | (exfalso; omega) | skip)) | (intro c hc; (try (simp only [AH.zA] at hc; repeat (have hn := hc.1; replace hc := hc.2))); (first | (have hc2 := Eq.trans hc (by with_reducible assumption); clear hc; subst hc2) | (refine zP hc ?_ ?_ ?_ ; omega; omega; (clear hc; intro hc; subst hc)) | skip)) | (apply Exists.intro; apply And.intro; first | (with_reducible assumption) | ((try simp only [zW, z0z, zZ, zY]); first | (with_reducible assumption) | rfl)) | (apply And.intro; (first | rfl | (with_reducible assumption) | omega)))) <;> (try (conv => whnf))
  refine zT (σ := AH × Nat × Is) (7 :: 9 :: 10 :: 11 :: 12 :: 23 :: 24 :: 25 :: 26 :: 27 :: 28 :: 29 :: 30 :: 31 :: 32 :: 33 :: 34 :: 35 :: 36 :: 37 :: 38 :: 39 :: 40 :: 41 :: 42 :: 43 :: 44 :: 45 :: 46 :: 47 :: 48 :: 49 :: 50 :: 51 :: 52 :: []) (fun (G, i, I) => [(7, .int .i64 I.b), (23, .int .i64 i)]) (fun (G, i, I) => G) (fun (G, i, I) => i ≤ l.length ∧ intsI ((l.take i).map fold) is0 = I ∧ CdAt H G P Q w r 65 65 I.E) (fun (G, i, I) => l.length - i) (G0, 0, is0) rfl ?_ ?_ (HLe.refl _) ?_
  ·exact ⟨Nat.zero_le _, rfl, hcd⟩
  ·exact ⟨rfl, rfl, trivial⟩
  ·rintro ⟨G, i, I⟩ ⟨hi, hI, hcd⟩
   dsimp only at hi hI hcd ⊢
   refine AWp.of zU (dok _) rfl ?_
   have hok : IsOk I := by rw [← hI]; exact intsI_ok (fold_all (hl.take i)) is0_ok
   have hL : I.E.σ.L ≤ 130 * 65536 := by
    have := intsI_L ((l.take i).map fold) (I := is0) (fold_all (hl.take i)) is0_ok
    rw [hI] at this
    have h0 : is0.E.σ.L = 0 := rfl
    rw [h0, List.length_map, List.length_take] at this
    omega
   have hb := hok.b
   by_cases hil : i < l.length
   ·have hga : (iS .i64 l)[(i : Int).toNat]? = some (.int .i64 (l.getD i 0)) := iS_get hil
    have ha := hl.at i
    have hn : intsI ((l.take (i + 1)).map fold) is0 = intI I (fold (l.getD i 0)) := by
     rw [List.take_add_one, List.getElem?_eq_getElem hil, List.map_append]
     have : l.getD i 0 = l[i] := by rw [List.getD_eq_getElem?_getD, List.getElem?_eq_getElem hil]; rfl
     rw [this]
     show intsI (_ ++ [fold l[i]]) is0 = _
     rw [intsI_snoc, hI]
    generalize l.getD i 0 = a at *
    have hfold := fun H => fold_c a ha H
    have hu := fold_lt ha
    generalize fold a = u at *
    have hlen64 := fun H => len64_c u (by simpa using hu) H
    have hlb := lenB_le hu
    have hsm := hcd.symbol hok.es.cs (by omega) (k := I.b) (s := lenB u) (by omega) (by omega)
    have hcd2 := hcd.sym (k := I.b) (s := lenB u) (by omega) (by omega)
    have hok2 := hok.es.sym I.b (s := lenB u) (by omega)
    have hL2 : (symE 65 I.E I.b (lenB u)).σ.L ≤ I.E.σ.L + 2 := stp_L hok.es.cs (hok.es.st I.b (s := lenB u) (by omega))
    have hgp : (psL P 65)[(I.b : Int).toNat]? = some (.ptr (P I.b) 0 0) := psL_get (by omega)
    have hfin : intI I u = ⟨⟨(symE 65 I.E I.b (lenB u)).M, bitsE u (lenB u - 1) (symE 65 I.E I.b (lenB u)).σ⟩, lenB u⟩ := rfl
    generalize symE 65 I.E I.b (lenB u) = E2 at *
    obtain ⟨C, hC⟩ : ∃ C, C = lenB u := ⟨_, rfl⟩
    rw [← hC] at hlb hfin hlen64 hsm hcd2
    (repeat' ((conv => whnf); first | refine Then.mk ?_ | refine OpsA.zD ?_ | refine OpsA.zE ?_ | refine AWq.zI ?_ | refine AWq.zB ?_ | refine AWq.zG ?_ | refine AWq.zF ?_ | refine AWq.zH ?_ | refine AWq.ret ?_ | refine AWq.zK ?_ | refine AWq.zJ ?_ | (refine Both.mk ?_ ?_ <;> intro hc <;> (first | exact Bool.noConfusion hc | (exfalso; omega) | skip)) | (intro c hc; (try (simp only [AH.zA] at hc; repeat (have hn := hc.1; replace hc := hc.2))); (first | (have hc2 := Eq.trans hc (by with_reducible assumption); clear hc; subst hc2) | (refine zP hc ?_ ?_ ?_ ; omega; omega; (clear hc; intro hc; subst hc)) | skip)) | (apply Exists.intro; apply And.intro; first | (with_reducible assumption) | ((try simp only [zW, z0z, zZ, zY]); first | (with_reducible assumption) | rfl)) | (apply And.intro; (first | rfl | (with_reducible assumption) | omega)) | (refine ACall.to (hfold _) ?_) | (refine ACall.to (hlen64 _) ?_) | (refine ACall.to (hsm) ?_))) <;> (try (conv => whnf))
    generalize enG G P Q w r 65 I.E I.b C = G1 at hcd2 ⊢
    refine zT (σ := AH × Nat × Cs × Int) (12 :: 40 :: 41 :: 42 :: 43 :: 44 :: 45 :: 46 :: 47 :: 48 :: 49 :: 50 :: []) (fun (G, k, τ, j) => [(12, .int .i64 j)]) (fun (G, k, τ, j) => G) (fun (G, k, τ, j) => (j = (k : Int) - 1 ∨ k = 0 ∧ j = -2) ∧ bitsE u k τ = bitsE u (C - 1) E2.σ ∧ CsOk τ ∧ τ.L + 2 * k ≤ 20000000 ∧ k ≤ 63 ∧ CdAt H G P Q w r 65 65 ⟨E2.M, τ⟩) (fun (G, k, τ, j) => k) (G1, C - 1, E2.σ, (C : Int) - 2) rfl ?_ ?_ (HLe.refl _) ?_
    ·exact ⟨by omega, rfl, hok2.cs, by omega, by omega, hcd2⟩
    ·exact ⟨rfl, trivial⟩
    ·rintro ⟨G2, k, τ, j⟩ ⟨k1, k2, k3, k4, k5, k6⟩
     dsimp only at k1 k2 k3 k4 k5 k6 ⊢
     refine AWp.of zU (dok _) rfl ?_
     by_cases hk : k = 0
     ·subst hk
      have hj : j < 0 := by omega
      have he2 : intI I u = ⟨⟨E2.M, τ⟩, C⟩ := by rw [hfin, ← k2]; rfl
      rw [he2] at hn
      (repeat' ((conv => whnf); first | refine Then.mk ?_ | refine OpsA.zD ?_ | refine OpsA.zE ?_ | refine AWq.zI ?_ | refine AWq.zB ?_ | refine AWq.zG ?_ | refine AWq.zF ?_ | refine AWq.zH ?_ | refine AWq.ret ?_ | refine AWq.zK ?_ | refine AWq.zJ ?_ | (refine Both.mk ?_ ?_ <;> intro hc <;> (first | exact Bool.noConfusion hc | (exfalso; omega) | skip)) | (intro c hc; (try (simp only [AH.zA] at hc; repeat (have hn := hc.1; replace hc := hc.2))); (first | (have hc2 := Eq.trans hc (by with_reducible assumption); clear hc; subst hc2) | (refine zP hc ?_ ?_ ?_ ; omega; omega; (clear hc; intro hc; subst hc)) | skip)) | (apply Exists.intro; apply And.intro; first | (with_reducible assumption) | ((try simp only [zW, z0z, zZ, zY]); first | (with_reducible assumption) | rfl)) | (apply And.intro; (first | rfl | (with_reducible assumption) | omega)))) <;> (try (conv => whnf))
      exact ⟨(G2, i + 1, ⟨⟨E2.M, τ⟩, C⟩), ⟨hil, hn, k6⟩, by show l.length - (i + 1) < l.length - i; omega, ⟨rfl, congrArg (AV.int .i64) (by show (i : Int) + 1 = (i + 1 : Nat); omega), trivial⟩, HLe.refl _⟩
     ·obtain ⟨k, rfl⟩ : ∃ d, k = d + 1 := ⟨k - 1, by omega⟩
      obtain rfl : j = (k : Int) := by omega
      have f1 := shr_at u k (by omega)
      have hx : u / 2 ^ k < 18446744073709551616 := Nat.lt_of_le_of_lt (Nat.div_le_self _ _) (by simpa using hu)
      have hst := k_step_c k6.wr k3 (bit_st u k) (show τ.L ≤ _ by omega)
      have k6' := k6.step (bitE τ u k)
      have hok3 := bitE_ok k3 u k
      have hL3 : (bitE τ u k).L ≤ τ.L + 2 := stp_L k3 (bit_st u k)
      have hb2 : bitsE u (k + 1) τ = bitsE u k (bitE τ u k) := rfl
      have hst : ACall Try.prog 85 [.ptr w 0 0, .int .i64 (u / 2 ^ k % 2 : Nat), .int .i64 1, .int .i64 2] G2 (fun y H' => y = .tup [] ∧ H' = wcH G2 w r (bitE τ u k)) := hst
      rw [hb2] at k2
      generalize bitE τ u k = τ2 at *
      generalize u / 2 ^ k = x at *
      have f2 := and_one x hx
      have hx2 : x % 2 < 2 := Nat.mod_lt _ (by decide)
      generalize x % 2 = y at *
      (repeat' ((conv => whnf); first | refine Then.mk ?_ | refine OpsA.zD ?_ | refine OpsA.zE ?_ | refine AWq.zI ?_ | refine AWq.zB ?_ | refine AWq.zG ?_ | refine AWq.zF ?_ | refine AWq.zH ?_ | refine AWq.ret ?_ | refine AWq.zK ?_ | refine AWq.zJ ?_ | (refine Both.mk ?_ ?_ <;> intro hc <;> (first | exact Bool.noConfusion hc | (exfalso; omega) | skip)) | (intro c hc; (try (simp only [AH.zA] at hc; repeat (have hn := hc.1; replace hc := hc.2))); (first | (have hc2 := Eq.trans hc (by with_reducible assumption); clear hc; subst hc2) | (refine zP hc ?_ ?_ ?_ ; omega; omega; (clear hc; intro hc; subst hc)) | skip)) | (apply Exists.intro; apply And.intro; first | (with_reducible assumption) | ((try simp only [zW, z0z, zZ, zY]); first | (with_reducible assumption) | rfl)) | (apply And.intro; (first | rfl | (with_reducible assumption) | omega)) | (refine ACall.to (hst) ?_))) <;> (try (conv => whnf))
      exact ⟨(_, k, τ2, (k : Int) - 1), ⟨.inl rfl, k2, hok3, by dsimp only; omega, by dsimp only; omega, k6'⟩, Nat.lt_succ_self _, ⟨rfl, trivial⟩, HLe.refl _⟩
   ·have hie : i = l.length := by omega
    have hcode := code_c (H := G) (σ := I.E.σ) hcd.wr.ne (by omega)
    rw [hcd.wr.eq] at hcode
    rw [hie, List.take_length] at hI
    rw [hI]
    (repeat' ((conv => whnf); first | refine Then.mk ?_ | refine OpsA.zD ?_ | refine OpsA.zE ?_ | refine AWq.zI ?_ | refine AWq.zB ?_ | refine AWq.zG ?_ | refine AWq.zF ?_ | refine AWq.zH ?_ | refine AWq.ret ?_ | refine AWq.zK ?_ | refine AWq.zJ ?_ | (refine Both.mk ?_ ?_ <;> intro hc <;> (first | exact Bool.noConfusion hc | (exfalso; omega) | skip)) | (intro c hc; (try (simp only [AH.zA] at hc; repeat (have hn := hc.1; replace hc := hc.2))); (first | (have hc2 := Eq.trans hc (by with_reducible assumption); clear hc; subst hc2) | (refine zP hc ?_ ?_ ?_ ; omega; omega; (clear hc; intro hc; subst hc)) | skip)) | (apply Exists.intro; apply And.intro; first | (with_reducible assumption) | ((try simp only [zW, z0z, zZ, zY]); first | (with_reducible assumption) | rfl)) | (apply And.intro; (first | rfl | (with_reducible assumption) | omega)) | (refine ACall.to (hcode) ?_))) <;> (try (conv => whnf))
    exact ⟨AVle.refl _, HLe.del _ hcd.le hcd.hr⟩
 ·have he : intsS l = ([], 4) := if_neg hlim
  rw [he]
  refine zQ zU (dok _) Try.func60 rfl (by decide) rfl ?_
  (repeat' ((conv => whnf); first | refine Then.mk ?_ | refine OpsA.zD ?_ | refine OpsA.zE ?_ | refine AWq.zI ?_ | refine AWq.zB ?_ | refine AWq.zG ?_ | refine AWq.zF ?_ | refine AWq.zH ?_ | refine AWq.ret ?_ | refine AWq.zK ?_ | refine AWq.zJ ?_ | (refine Both.mk ?_ ?_ <;> intro hc <;> (first | exact Bool.noConfusion hc | (exfalso; omega) | skip)) | (intro c hc; (try (simp only [AH.zA] at hc; repeat (have hn := hc.1; replace hc := hc.2))); (first | (have hc2 := Eq.trans hc (by with_reducible assumption); clear hc; subst hc2) | (refine zP hc ?_ ?_ ?_ ; omega; omega; (clear hc; intro hc; subst hc)) | skip)) | (apply Exists.intro; apply And.intro; first | (with_reducible assumption) | ((try simp only [zW, z0z, zZ, zY]); first | (with_reducible assumption) | rfl)) | (apply And.intro; (first | rfl | (with_reducible assumption) | omega)))) <;> (try (conv => whnf))
  exact ⟨AVle.err, HLe.refl _⟩
open Go.Fw Go
set_option maxRecDepth 8000 in
theorem k_next_c {G : AH} {ic bc i : Nat} {b : List UInt8} (hi : G ic = some (.row [.int .i64 i] 0)) (hb : G bc = some (.row [.cs (u8s b) b.length] 0)) (hne : ic ≠ bc) (hil : i ≤ 1000000000000) (hbl : b.length ≤ 1000000000000) :
  ACall Try.prog 110 [.ptr ic 0 0, .ptr bc 0 0] G (fun y H' => y = .int .u64 (b.getD i 0).toNat ∧ H' = G.set ic (.row [.int .i64 (i + 1 : Nat)] 0)) := by
 have hbi : bc ≠ ic := Ne.symm hne
 have e1 : IntKind.i64.wrap ((i : Int) + 1) = (i + 1 : Nat) := by rw [IntKind.wrap_i64]; omega
 by_cases h : i < b.length
 ·have hg : (u8s b)[((i + 1 : Nat) - 1 : Int).toNat]? = some (.int .u8 (b.getD i 0).toNat) := by
   rw [show ((i + 1 : Nat) - 1 : Int).toNat = i by omega]; exact u8s_get h
  have hr := u8_range (b.getD i 0)
  obtain ⟨B, hB⟩ : ∃ B : Int, B = ((b.getD i 0).toNat : Int) := ⟨_, rfl⟩
  rw [← hB] at hg hr ⊢
  have e2 : IntKind.u64.wrap B = B := by rw [wrap_u64']; omega
  have hul : (u8s b).length = b.length := by simp
  refine zQ zU (dok _) Try.func110 rfl (by decide) rfl ?_
  (repeat' ((conv => whnf); first | refine Then.mk ?_ | refine OpsA.zD ?_ | refine OpsA.zE ?_ | refine AWq.zI ?_ | refine AWq.zB ?_ | refine AWq.zG ?_ | refine AWq.zH ?_ | refine AWq.ret ?_ | (refine Both.mk ?_ ?_ <;> intro hc <;> (first | exact Bool.noConfusion hc | (exfalso; omega) | skip)) | (intro c hc; (try (simp only [AH.zA] at hc; repeat (have hn := hc.1; replace hc := hc.2))); (first | (have hc2 := Eq.trans hc (by with_reducible assumption); clear hc; subst hc2) | (refine zP hc ?_ ?_ ?_ ; omega; omega; (clear hc; intro hc; subst hc)) | skip)) | (apply Exists.intro; apply And.intro; (first | (focus (repeat (first | (with_reducible assumption) | (with_reducible exact AH.zC _ _ _) | ((first | refine AH.zL ?_ ?_); (first | (with_reducible assumption))))); done))) | (apply Exists.intro; apply And.intro; first | (with_reducible assumption) | ((try simp only [zW, z0z, zZ, zY]); first | (with_reducible assumption) | rfl)) | (apply And.intro; (first | rfl | (with_reducible assumption) | exact zX rfl | omega)))) <;> (try (conv => whnf))
  rfl
 ·have h0 : (b.getD i 0) = 0 := by rw [List.getD_eq_getElem?_getD, List.getElem?_eq_none (by omega)]; rfl
  rw [h0]
  refine zQ zU (dok _) Try.func110 rfl (by decide) rfl ?_
  (repeat' ((conv => whnf); first | refine Then.mk ?_ | refine OpsA.zD ?_ | refine OpsA.zE ?_ | refine AWq.zI ?_ | refine AWq.zB ?_ | refine AWq.zG ?_ | refine AWq.zH ?_ | refine AWq.ret ?_ | (refine Both.mk ?_ ?_ <;> intro hc <;> (first | exact Bool.noConfusion hc | (exfalso; omega) | skip)) | (intro c hc; (try (simp only [AH.zA] at hc; repeat (have hn := hc.1; replace hc := hc.2))); (first | (have hc2 := Eq.trans hc (by with_reducible assumption); clear hc; subst hc2) | (refine zP hc ?_ ?_ ?_ ; omega; omega; (clear hc; intro hc; subst hc)) | skip)) | (apply Exists.intro; apply And.intro; (first | (focus (repeat (first | (with_reducible assumption) | (with_reducible exact AH.zC _ _ _) | ((first | refine AH.zL ?_ ?_); (first | (with_reducible assumption))))); done))) | (apply Exists.intro; apply And.intro; first | (with_reducible assumption) | ((try simp only [zW, z0z, zZ, zY]); first | (with_reducible assumption) | rfl)) | (apply And.intro; (first | rfl | (with_reducible assumption) | exact zX rfl | omega)))) <;> (try (conv => whnf))
  rfl
def rdRow (low W ic bc : Nat) : AO := .row [.int .u64 low, .int .u64 W, .fn (.func 110) [] [.ptr ic 0 0, .ptr bc 0 0]] 0
structure RdAt (G : AH) (d ic bc : Nat) (b : List UInt8) (σ : Cs) : Prop where
 hd : G d = some (rdRow (k_lowR b σ) σ.W ic bc)
 hi : G ic = some (.row [.int .i64 (σ.L + 4 : Nat)] 0)
 hb : G bc = some (.row [.cs (u8s b) b.length] 0)
 n1 : d ≠ ic
 n2 : d ≠ bc
 n3 : ic ≠ bc
def rdG (H : AH) (d ic bc : Nat) (b : List UInt8) (σ : Cs) : AH := (H.set ic (.row [.int .i64 (σ.L + 4 : Nat)] 0)).set d (rdRow (k_lowR b σ) σ.W ic bc)
theorem RdAt.set {G : AH} {d ic bc : Nat} {b : List UInt8} {σ : Cs} (h : RdAt G d ic bc b σ) (τ : Cs) : RdAt (rdG G d ic bc b τ) d ic bc b τ := by
 refine ⟨AH.zC _ _ _, ?_, ?_, h.n1, h.n2, h.n3⟩
 ·unfold rdG; rw [AH.zR _ _ (Ne.symm h.n1), AH.zC]
 ·unfold rdG; rw [AH.zR _ _ (Ne.symm h.n2), AH.zR _ _ (Ne.symm h.n3)]; exact h.hb
theorem RdAt.eq {G : AH} {d ic bc : Nat} {b : List UInt8} {σ : Cs} (h : RdAt G d ic bc b σ) : rdG G d ic bc b σ = G := by
 unfold rdG
 rw [AH.set_id h.hi, AH.set_id h.hd]
theorem rdG_ne {H : AH} {d ic bc a : Nat} {b : List UInt8} {σ : Cs} (h1 : a ≠ d) (h2 : a ≠ ic) : rdG H d ic bc b σ a = H a := by
 unfold rdG
 rw [AH.zR _ _ h1, AH.zR _ _ h2]
theorem rdG_set {H : AH} {d ic bc : Nat} {b : List UInt8} {σ τ : Cs} (h : d ≠ ic) : rdG (rdG H d ic bc b σ) d ic bc b τ = rdG H d ic bc b τ := by
 unfold rdG
 rw [AH.set_back _ (Ne.symm h), AH.zS]
set_option maxRecDepth 8000 in
theorem at_c {G : AH} {d ic bc : Nat} {b : List UInt8} {σ : Cs} (h : RdAt G d ic bc b σ) (hr : RdOk b σ) (hc : CsOk σ) (t : Nat) (ht1 : 1 ≤ t) (ht2 : t ≤ 32768) :
  ACall Try.prog 98 [.ptr d 0 0, .int .i64 t] G (fun y H' => y = .tup [.int .i64 (min (atR b σ t) t : Nat), .bool (decide (atR b σ t < t))] ∧ H' = G) := by
 obtain ⟨r1, r2, r3⟩ := nrw_r hc ht1 ht2
 have hlow := hr.low
 have hhi := hc.hi
 have hd := h.hd
 have hat : atR b σ t = k_lowR b σ / (σ.W / t) := rfl
 have ha2 : atR b σ t ≤ 4294967296 := by rw [hat]; exact Nat.le_trans (Nat.div_le_self _ _) (by omega)
 generalize k_lowR b σ = low at *
 have e1 : (σ.W : Int).tdiv (t : Int) = (σ.W / t : Nat) := (Int.ofNat_tdiv _ _).symm
 generalize σ.W / t = r at *
 have e2 : (low : Int).tdiv (r : Int) = (atR b σ t : Nat) := by rw [hat]; exact (Int.ofNat_tdiv _ _).symm
 generalize atR b σ t = a at *
 have e3 : IntKind.u64.wrap (t : Int) = t := by rw [wrap_u64']; omega
 have e4 : IntKind.u64.wrap (r : Int) = r := by rw [wrap_u64']; omega
 have e5 : IntKind.u64.wrap ((σ.W : Int).tdiv (t : Int)) = r := by rw [e1, e4]
 have e6 : IntKind.u64.wrap ((low : Int).tdiv (r : Int)) = a := by rw [e2, wrap_u64']; omega
 have e7 : min (a : Int) (t : Int) = (min a t : Nat) := by omega
 have e8 : IntKind.i64.wrap (min a t : Nat) = (min a t : Nat) := by rw [IntKind.wrap_i64]; omega
 unfold rdRow at hd
 clear hat e1 e2 r2
 by_cases hlt : a < t
 ·rw [decide_eq_true hlt]
  refine zQ zU (dok _) Try.func98 rfl (by decide) rfl ?_
  (repeat' ((conv => whnf); first | refine Then.mk ?_ | refine OpsA.zD ?_ | refine OpsA.zE ?_ | refine AWq.zI ?_ | refine AWq.zB ?_ | refine AWq.ret ?_ | refine DrawA.zM ?_ | refine DrawA.zN ?_ | refine AWq.zO (by decide +kernel) ?_ | (refine Both.mk ?_ ?_ <;> intro hc <;> (first | (exfalso; omega) | skip)) | (intro c hc; (try (simp only [AH.zA] at hc; repeat (have hn := hc.1; replace hc := hc.2))); (first | (have hc2 := Eq.trans hc (by with_reducible assumption); clear hc; subst hc2) | skip)) | (apply Exists.intro; apply And.intro; (first | (focus (repeat (first | (with_reducible assumption))); done))) | (apply Exists.intro; apply And.intro; first | (with_reducible assumption) | ((try simp only [zW, z0z, zZ, zY]); first | (with_reducible assumption) | rfl)) | (apply And.intro; (first | rfl | (with_reducible assumption) | omega)))) <;> (try (conv => whnf))
 ·rw [decide_eq_false hlt]
  refine zQ zU (dok _) Try.func98 rfl (by decide) rfl ?_
  (repeat' ((conv => whnf); first | refine Then.mk ?_ | refine OpsA.zD ?_ | refine OpsA.zE ?_ | refine AWq.zI ?_ | refine AWq.zB ?_ | refine AWq.ret ?_ | refine DrawA.zM ?_ | refine DrawA.zN ?_ | refine AWq.zO (by decide +kernel) ?_ | (refine Both.mk ?_ ?_ <;> intro hc <;> (first | (exfalso; omega) | skip)) | (intro c hc; (try (simp only [AH.zA] at hc; repeat (have hn := hc.1; replace hc := hc.2))); (first | (have hc2 := Eq.trans hc (by with_reducible assumption); clear hc; subst hc2) | skip)) | (apply Exists.intro; apply And.intro; (first | (focus (repeat (first | (with_reducible assumption))); done))) | (apply Exists.intro; apply And.intro; first | (with_reducible assumption) | ((try simp only [zW, z0z, zZ, zY]); first | (with_reducible assumption) | rfl)) | (apply And.intro; (first | rfl | (with_reducible assumption) | omega)))) <;> (try (conv => whnf))
theorem lowR_nrw {b : List UInt8} {σ : Cs} {p c t : Nat} : k_lowR b (nrw σ p c t) = k_lowR b σ - σ.W / t * p := by
 show bv b (σ.L + 4) - (σ.V + σ.W / t * p) = bv b (σ.L + 4) - σ.V - σ.W / t * p
 omega
theorem lowR_shf {b : List UInt8} {σ : Cs} (h : σ.V ≤ bv b (σ.L + 4)) : k_lowR b ⟨σ.V * 256, σ.W * 256, σ.L + 1⟩ = k_lowR b σ * 256 + (b.getD (σ.L + 4) 0).toNat := by
 show bv b (σ.L + 4) * 256 + (b.getD (σ.L + 4) 0).toNat - σ.V * 256 = (bv b (σ.L + 4) - σ.V) * 256 + (b.getD (σ.L + 4) 0).toNat
 omega
set_option maxHeartbeats 4000000 in
set_option maxRecDepth 8000 in
theorem k_rstep_c {H : AH} {d ic bc : Nat} {b : List UInt8} {σ : Cs} {p c t : Nat} (h : RdAt H d ic bc b σ) (hr : RdOk b σ) (hc : CsOk σ) (hs : StOk p c t) (h1 : p ≤ atR b σ t) (h2 : atR b σ t < p + c) (hL : σ.L ≤ 1000000000) (hbl : b.length ≤ 1000000000000) :
  ACall Try.prog 99 [.ptr d 0 0, .int .i64 p, .int .i64 c, .int .i64 t] H (fun y H' => y = .tup [] ∧ H' = rdG H d ic bc b (stp σ p c t)) := by
 have hd := h.hd
 have hb := h.hb
 have hi := h.hi
 have n1 := h.n1
 have n2 := h.n2
 have n3 := h.n3
 have n1' := Ne.symm n1
 unfold rdRow at hd
 have hn := narrow_c hd hs hc.hi
 obtain ⟨s1, s2, s3⟩ := hr.step hc hs h1 h2
 have hlow := hr.low
 have hhi := hc.hi
 have q1 : k_lowR b (nrw σ p c t) = k_lowR b σ - σ.W / t * p := lowR_nrw
 obtain ⟨k1, k2, k3, k4⟩ := nrw_ok hc hs
 have hrn : RdOk b (nrw σ p c t) := by
  have := hr.le
  refine ⟨?_, ?_⟩
  ·show σ.V + σ.W / t * p ≤ bv b (σ.L + 4)
   unfold k_lowR at s2; omega
  ·show bv b (σ.L + 4) < σ.V + σ.W / t * p + σ.W / t * c
   unfold k_lowR at s3; omega
 have hst : stp σ p c t = shf 3 (nrw σ p c t) := rfl
 have hLn : (nrw σ p c t).L = σ.L := rfl
 have hWn : (nrw σ p c t).W = σ.W / t * c := rfl
 rw [hst]
 rw [← hWn] at hn
 generalize nrw σ p c t = τ at *
 generalize σ.W / t * p = X at *
 generalize k_lowR b σ = low at *
 have e1 : IntKind.u64.wrap ((low : Int) - X) = (low - X : Nat) := by rw [wrap_u64']; omega
 refine zQ zU (dok _) Try.func99 rfl (by decide) rfl ?_
 refine AWq.zI ?_
 refine AWq.drawF mo ([19], [12]) (fun G => ∃ W', G d = some (.row [.int .u64 low, W', .fn (.func 110) [] [.ptr ic 0 0, .ptr bc 0 0]] 0)) ⟨_, hd⟩ (by decide +kernel) ?_
 (repeat' ((conv => whnf); first | refine Then.mk ?_ | refine OpsA.zD ?_ | refine OpsA.zE ?_ | refine AWq.zI ?_ | refine AWq.zB ?_ | refine AWq.zG ?_ | refine AWq.zF ?_ | refine AWq.zH ?_ | refine AWq.zK ?_ | refine AWq.zJ ?_ | refine DrawF.consD ?_ | refine DrawF.nil ?_ | (apply Exists.intro; apply Exists.intro; apply And.intro; exact hn) | (refine Both.mk ?_ ?_ <;> intro hc <;> (first | exact Bool.noConfusion hc | (exfalso; omega) | skip)) | (intro c hc; (try (simp only [AH.zA] at hc; repeat (have hn := hc.1; replace hc := hc.2))); (first | (have hc2 := Eq.trans hc (by with_reducible assumption); clear hc; subst hc2) | skip)) | (apply Exists.intro; apply And.intro; (first | (focus (repeat (first | (with_reducible assumption) | (with_reducible exact AH.zC _ _ _) | ((first | refine AH.zL ?_ ?_); (first | (with_reducible assumption))))); done))) | (apply Exists.intro; apply And.intro; first | (with_reducible assumption) | ((try simp only [zW, z0z, zZ, zY]); first | (with_reducible assumption) | rfl)) | (apply And.intro; (first | rfl | (with_reducible assumption) | exact zX rfl | omega)))) <;> (try (conv => whnf))
 refine ⟨.int .u64 low, ?_, ?_, ?_⟩
 ·(repeat' ((conv => whnf); first | refine Then.mk ?_ | refine OpsA.zD ?_ | refine OpsA.zE ?_ | refine AWq.zI ?_ | refine AWq.zB ?_ | refine AWq.zG ?_ | refine AWq.zF ?_ | refine AWq.zH ?_ | refine AWq.zK ?_ | refine AWq.zJ ?_ | refine DrawF.consD ?_ | refine DrawF.nil ?_ | (refine Both.mk ?_ ?_ <;> intro hc <;> (first | exact Bool.noConfusion hc | (exfalso; omega) | skip)) | (intro c hc; (try (simp only [AH.zA] at hc; repeat (have hn := hc.1; replace hc := hc.2))); (first | (have hc2 := Eq.trans hc (by with_reducible assumption); clear hc; subst hc2) | skip)) | (apply Exists.intro; apply And.intro; (first | (focus (repeat (first | (with_reducible assumption) | (with_reducible exact AH.zC _ _ _) | ((first | refine AH.zL ?_ ?_); (first | (with_reducible assumption))))); done))) | (apply Exists.intro; apply And.intro; first | (with_reducible assumption) | ((try simp only [zW, z0z, zZ, zY]); first | (with_reducible assumption) | rfl)) | (apply And.intro; (first | rfl | (with_reducible assumption) | exact zX rfl | omega)))) <;> (try (conv => whnf))
 ·intro G hG
  obtain ⟨W', hG⟩ : ∃ W', G d = some (.row [.int .u64 low, W', .fn (.func 110) [] [.ptr ic 0 0, .ptr bc 0 0]] 0) := hG
  (repeat' ((conv => whnf); first | refine Then.mk ?_ | refine OpsA.zD ?_ | refine OpsA.zE ?_ | refine AWq.zI ?_ | refine AWq.zB ?_ | refine AWq.zG ?_ | refine AWq.zF ?_ | refine AWq.zH ?_ | refine AWq.zK ?_ | refine AWq.zJ ?_ | refine DrawF.consD ?_ | refine DrawF.nil ?_ | (refine Both.mk ?_ ?_ <;> intro hc <;> (first | exact Bool.noConfusion hc | (exfalso; omega) | skip)) | (intro c hc; (try (simp only [AH.zA] at hc; repeat (have hn := hc.1; replace hc := hc.2))); (first | (have hc2 := Eq.trans hc (by with_reducible assumption); clear hc; subst hc2) | skip)) | (apply Exists.intro; apply And.intro; (first | (focus (repeat (first | (with_reducible assumption) | (with_reducible exact AH.zC _ _ _) | ((first | refine AH.zL ?_ ?_); (first | (with_reducible assumption))))); done))) | (apply Exists.intro; apply And.intro; first | (with_reducible assumption) | ((try simp only [zW, z0z, zZ, zY]); first | (with_reducible assumption) | rfl)) | (apply And.intro; (first | rfl | (with_reducible assumption) | exact zX rfl | omega)))) <;> (try (conv => whnf))
 (repeat' ((conv => whnf); first | refine Then.mk ?_ | refine OpsA.zD ?_ | refine OpsA.zE ?_ | refine AWq.zI ?_ | refine AWq.zB ?_ | refine AWq.zG ?_ | refine AWq.zF ?_ | refine AWq.zH ?_ | refine AWq.zK ?_ | refine AWq.zJ ?_ | refine DrawF.consD ?_ | refine DrawF.nil ?_ | (apply Exists.intro; apply Exists.intro; apply And.intro; exact hn) | (refine Both.mk ?_ ?_ <;> intro hc <;> (first | exact Bool.noConfusion hc | (exfalso; omega) | skip)) | (intro c hc; (try (simp only [AH.zA] at hc; repeat (have hn := hc.1; replace hc := hc.2))); (first | (have hc2 := Eq.trans hc (by with_reducible assumption); clear hc; subst hc2) | skip)) | (apply Exists.intro; apply And.intro; (first | (focus (repeat (first | (with_reducible assumption) | (with_reducible exact AH.zC _ _ _) | ((first | refine AH.zL ?_ ?_); (first | (with_reducible assumption))))); done))) | (apply Exists.intro; apply And.intro; first | (with_reducible assumption) | ((try simp only [zW, z0z, zZ, zY]); first | (with_reducible assumption) | rfl)) | (apply And.intro; (first | rfl | (with_reducible assumption) | exact zX rfl | omega)))) <;> (try (conv => whnf))
 refine And.intro (show ∃ W', _ = _ from ⟨_, AH.zC _ _ _⟩) ?_
 (repeat' ((conv => whnf); first | refine Then.mk ?_ | refine OpsA.zD ?_ | refine OpsA.zE ?_ | refine AWq.zI ?_ | refine AWq.zB ?_ | refine AWq.zG ?_ | refine AWq.zF ?_ | refine AWq.zH ?_ | refine AWq.zK ?_ | refine AWq.zJ ?_ | refine DrawF.consD ?_ | refine DrawF.nil ?_ | (refine Both.mk ?_ ?_ <;> intro hc <;> (first | exact Bool.noConfusion hc | (exfalso; omega) | skip)) | (intro c hc; (try (simp only [AH.zA] at hc; repeat (have hn := hc.1; replace hc := hc.2))); (first | (have hc2 := Eq.trans hc (by with_reducible assumption); clear hc; subst hc2) | skip)) | (apply Exists.intro; apply And.intro; (first | (focus (repeat (first | (with_reducible assumption) | (with_reducible exact AH.zC _ _ _) | ((first | refine AH.zL ?_ ?_); (first | (with_reducible assumption))))); done))) | (apply Exists.intro; apply And.intro; first | (with_reducible assumption) | ((try simp only [zW, z0z, zZ, zY]); first | (with_reducible assumption) | rfl)) | (apply And.intro; (first | rfl | (with_reducible assumption) | exact zX rfl | omega)))) <;> (try (conv => whnf))
 have hH0 : rdG H d ic bc b τ = H.set d (rdRow (low - X) τ.W ic bc) := by
  unfold rdG; rw [hLn, AH.set_id hi, q1]
 refine zT (σ := Nat × Cs) (24 :: 25 :: 26 :: 27 :: 28 :: 29 :: 30 :: 31 :: 32 :: 33 :: 34 :: 35 :: 36 :: 37 :: 38 :: 39 :: 40 :: 41 :: 42 :: 43 :: 44 :: 45 :: 46 :: 47 :: 48 :: 49 :: 50 :: 51 :: 52 :: 53 :: 54 :: []) (fun (f, τ) => []) (fun (f, τ) => rdG H d ic bc b τ) (fun (f, υ) => shf f υ = shf 3 τ ∧ 16777216 ≤ υ.W * 256 ^ f ∧ υ.W ≤ 4294967296 ∧ υ.L + f ≤ σ.L + 3 ∧ RdOk b υ) (fun (f, τ) => f) (3, τ) rfl ?_ trivial ?_ ?_
 ·refine ⟨rfl, ?_, by show τ.W ≤ _; omega, by show τ.L + 3 ≤ _; omega, hrn⟩
  show 16777216 ≤ τ.W * 256 ^ 3
  rw [show (256 : Nat) ^ 3 = 16777216 by decide]; omega
 ·refine HLe.of_eq ?_
  dsimp only
  rw [hH0]
  exact Eq.symm (AH.zS _ _ _ _)
 ·rintro ⟨f, υ⟩ ⟨g1, g2, g3, g4, g5⟩
  dsimp only at g1 g2 g3 g4 g5 ⊢
  refine AWp.of zU (dok _) rfl ?_
  have hat := h.set υ
  have hud := hat.hd
  have hui := hat.hi
  have hub := hat.hb
  have hset : ∀ υ', rdG (rdG H d ic bc b υ) d ic bc b υ' = rdG H d ic bc b υ' := fun _ => rdG_set n1
  have hsm := lowR_shf (b := b) g5.le
  have hlw := g5.low
  by_cases hw : υ.W < 16777216
  ·have hf : f ≠ 0 := fun e => by subst e; simp at g2; omega
   have hnx := k_next_c hui hub n3 (by omega) hbl
   have hsf : shf f υ = shf (f - 1) ⟨υ.V * 256, υ.W * 256, υ.L + 1⟩ := by
    obtain ⟨g, rfl⟩ : ∃ g, f = g + 1 := ⟨f - 1, by omega⟩
    exact if_pos hw
   have g5' : RdOk b ⟨υ.V * 256, υ.W * 256, υ.L + 1⟩ := by
    have hle := g5.le
    have hlt := g5.lt
    have hy : (b.getD (υ.L + 4) 0).toNat < 256 := (b.getD (υ.L + 4) 0).toNat_lt
    refine ⟨?_, ?_⟩
    ·show υ.V * 256 ≤ bv b (υ.L + 4) * 256 + (b.getD (υ.L + 4) 0).toNat
     omega
    ·show bv b (υ.L + 4) * 256 + (b.getD (υ.L + 4) 0).toNat < υ.V * 256 + υ.W * 256
     omega
   have hy : (b.getD (υ.L + 4) 0).toNat < 256 := (b.getD (υ.L + 4) 0).toNat_lt
   unfold rdRow at hud
   generalize k_lowR b υ = lw at *
   generalize (b.getD (υ.L + 4) 0).toNat = y at *
   have s3 : IntKind.u64.wrap ((lw : Int) * 2 ^ min (Int.toNat 8) IntKind.u64.bits) = (lw * 256 : Nat) := by
    rw [show (2 : Int) ^ min (Int.toNat 8) IntKind.u64.bits = 256 by decide, wrap_u64']; omega
   have s4 : IntKind.u64.wrap (((lw * 256 : Nat) : Int) + y) = (lw * 256 + y : Nat) := by rw [wrap_u64']; omega
   have s5 : IntKind.u64.wrap ((υ.W : Int) * 2 ^ min (Int.toNat 8) IntKind.u64.bits) = (υ.W * 256 : Nat) := by
    rw [show (2 : Int) ^ min (Int.toNat 8) IntKind.u64.bits = 256 by decide, wrap_u64']; omega
   generalize hG : rdG H d ic bc b υ = G at *
   (repeat' ((conv => whnf); first | refine Then.mk ?_ | refine OpsA.zD ?_ | refine OpsA.zE ?_ | refine AWq.zI ?_ | refine AWq.zB ?_ | refine AWq.zG ?_ | refine AWq.zF ?_ | refine AWq.zH ?_ | refine AWq.zK ?_ | refine AWq.zJ ?_ | refine DrawF.consD ?_ | refine DrawF.nil ?_ | (refine Both.mk ?_ ?_ <;> intro hc <;> (first | exact Bool.noConfusion hc | (exfalso; omega) | skip)) | (intro c hc; (try (simp only [AH.zA] at hc; repeat (have hn := hc.1; replace hc := hc.2))); (first | (have hc2 := Eq.trans hc (by with_reducible assumption); clear hc; subst hc2) | skip)) | (apply Exists.intro; apply And.intro; (first | (focus (repeat (first | (with_reducible assumption) | (with_reducible exact AH.zC _ _ _) | ((first | refine AH.zL ?_ ?_); (first | (with_reducible assumption))))); done))) | (apply Exists.intro; apply And.intro; first | (with_reducible assumption) | ((try simp only [zW, z0z, zZ, zY]); first | (with_reducible assumption) | rfl)) | (apply And.intro; (first | rfl | (with_reducible assumption) | exact zX rfl | omega)))) <;> (try (conv => whnf))
   refine AWq.drawF mo ([41], [35]) (fun G' => G' d = some (.row [.int .u64 lw, .int .u64 υ.W, .fn (.func 110) [] [.ptr ic 0 0, .ptr bc 0 0]] 0)) hud (by decide +kernel) ?_
   (repeat' ((conv => whnf); first | refine Then.mk ?_ | refine OpsA.zD ?_ | refine OpsA.zE ?_ | refine AWq.zI ?_ | refine AWq.zB ?_ | refine AWq.zG ?_ | refine AWq.zF ?_ | refine AWq.zH ?_ | refine AWq.zK ?_ | refine AWq.zJ ?_ | refine DrawF.consD ?_ | refine DrawF.nil ?_ | (apply Exists.intro; apply Exists.intro; apply And.intro; exact hnx) | (refine Both.mk ?_ ?_ <;> intro hc <;> (first | exact Bool.noConfusion hc | (exfalso; omega) | skip)) | (intro c hc; (try (simp only [AH.zA] at hc; repeat (have hn := hc.1; replace hc := hc.2))); (first | (have hc2 := Eq.trans hc (by with_reducible assumption); clear hc; subst hc2) | skip)) | (apply Exists.intro; apply And.intro; (first | (focus (repeat (first | (with_reducible assumption) | (with_reducible exact AH.zC _ _ _) | ((first | refine AH.zL ?_ ?_); (first | (with_reducible assumption))))); done))) | (apply Exists.intro; apply And.intro; first | (with_reducible assumption) | ((try simp only [zW, z0z, zZ, zY]); first | (with_reducible assumption) | rfl)) | (apply And.intro; (first | rfl | (with_reducible assumption) | exact zX rfl | omega)))) <;> (try (conv => whnf))
   refine ⟨.int .u64 lw, ?_, ?_, ?_⟩
   ·(repeat' ((conv => whnf); first | refine Then.mk ?_ | refine OpsA.zD ?_ | refine OpsA.zE ?_ | refine AWq.zI ?_ | refine AWq.zB ?_ | refine AWq.zG ?_ | refine AWq.zF ?_ | refine AWq.zH ?_ | refine AWq.zK ?_ | refine AWq.zJ ?_ | refine DrawF.consD ?_ | refine DrawF.nil ?_ | (refine Both.mk ?_ ?_ <;> intro hc <;> (first | exact Bool.noConfusion hc | (exfalso; omega) | skip)) | (intro c hc; (try (simp only [AH.zA] at hc; repeat (have hn := hc.1; replace hc := hc.2))); (first | (have hc2 := Eq.trans hc (by with_reducible assumption); clear hc; subst hc2) | skip)) | (apply Exists.intro; apply And.intro; (first | (focus (repeat (first | (with_reducible assumption) | (with_reducible exact AH.zC _ _ _) | ((first | refine AH.zL ?_ ?_); (first | (with_reducible assumption))))); done))) | (apply Exists.intro; apply And.intro; first | (with_reducible assumption) | ((try simp only [zW, z0z, zZ, zY]); first | (with_reducible assumption) | rfl)) | (apply And.intro; (first | rfl | (with_reducible assumption) | exact zX rfl | omega)))) <;> (try (conv => whnf))
   ·intro G' hG'
    have hG' : G' d = some (.row [.int .u64 lw, .int .u64 υ.W, .fn (.func 110) [] [.ptr ic 0 0, .ptr bc 0 0]] 0) := hG'
    (repeat' ((conv => whnf); first | refine Then.mk ?_ | refine OpsA.zD ?_ | refine OpsA.zE ?_ | refine AWq.zI ?_ | refine AWq.zB ?_ | refine AWq.zG ?_ | refine AWq.zF ?_ | refine AWq.zH ?_ | refine AWq.zK ?_ | refine AWq.zJ ?_ | refine DrawF.consD ?_ | refine DrawF.nil ?_ | (refine Both.mk ?_ ?_ <;> intro hc <;> (first | exact Bool.noConfusion hc | (exfalso; omega) | skip)) | (intro c hc; (try (simp only [AH.zA] at hc; repeat (have hn := hc.1; replace hc := hc.2))); (first | (have hc2 := Eq.trans hc (by with_reducible assumption); clear hc; subst hc2) | skip)) | (apply Exists.intro; apply And.intro; (first | (focus (repeat (first | (with_reducible assumption) | (with_reducible exact AH.zC _ _ _) | ((first | refine AH.zL ?_ ?_); (first | (with_reducible assumption))))); done))) | (apply Exists.intro; apply And.intro; first | (with_reducible assumption) | ((try simp only [zW, z0z, zZ, zY]); first | (with_reducible assumption) | rfl)) | (apply And.intro; (first | rfl | (with_reducible assumption) | exact zX rfl | omega)))) <;> (try (conv => whnf))
   (repeat' ((conv => whnf); first | refine Then.mk ?_ | refine OpsA.zD ?_ | refine OpsA.zE ?_ | refine AWq.zI ?_ | refine AWq.zB ?_ | refine AWq.zG ?_ | refine AWq.zF ?_ | refine AWq.zH ?_ | refine AWq.zK ?_ | refine AWq.zJ ?_ | refine DrawF.consD ?_ | refine DrawF.nil ?_ | (apply Exists.intro; apply Exists.intro; apply And.intro; exact hnx) | (refine Both.mk ?_ ?_ <;> intro hc <;> (first | exact Bool.noConfusion hc | (exfalso; omega) | skip)) | (intro c hc; (try (simp only [AH.zA] at hc; repeat (have hn := hc.1; replace hc := hc.2))); (first | (have hc2 := Eq.trans hc (by with_reducible assumption); clear hc; subst hc2) | skip)) | (apply Exists.intro; apply And.intro; (first | (focus (repeat (first | (with_reducible assumption) | (with_reducible exact AH.zC _ _ _) | ((first | refine AH.zL ?_ ?_); (first | (with_reducible assumption))))); done))) | (apply Exists.intro; apply And.intro; first | (with_reducible assumption) | ((try simp only [zW, z0z, zZ, zY]); first | (with_reducible assumption) | rfl)) | (apply And.intro; (first | rfl | (with_reducible assumption) | exact zX rfl | omega)))) <;> (try (conv => whnf))
   refine And.intro (show _ = _ from ?_) ?_
   ·rw [AH.zR _ _ n1]; exact hud
   (repeat' ((conv => whnf); first | refine Then.mk ?_ | refine OpsA.zD ?_ | refine OpsA.zE ?_ | refine AWq.zI ?_ | refine AWq.zB ?_ | refine AWq.zG ?_ | refine AWq.zF ?_ | refine AWq.zH ?_ | refine AWq.zK ?_ | refine AWq.zJ ?_ | refine DrawF.consD ?_ | refine DrawF.nil ?_ | (refine Both.mk ?_ ?_ <;> intro hc <;> (first | exact Bool.noConfusion hc | (exfalso; omega) | skip)) | (intro c hc; (try (simp only [AH.zA] at hc; repeat (have hn := hc.1; replace hc := hc.2))); (first | (have hc2 := Eq.trans hc (by with_reducible assumption); clear hc; subst hc2) | skip)) | (apply Exists.intro; apply And.intro; (first | (focus (repeat (first | (with_reducible assumption) | (with_reducible exact AH.zC _ _ _) | ((first | refine AH.zL ?_ ?_); (first | (with_reducible assumption))))); done))) | (apply Exists.intro; apply And.intro; first | (with_reducible assumption) | ((try simp only [zW, z0z, zZ, zY]); first | (with_reducible assumption) | rfl)) | (apply And.intro; (first | rfl | (with_reducible assumption) | exact zX rfl | omega)))) <;> (try (conv => whnf))
   refine ⟨(f - 1, ⟨υ.V * 256, υ.W * 256, υ.L + 1⟩), ⟨?_, ?_, ?_, ?_, g5'⟩, ?_, trivial, HLe.of_eq ?_⟩
   ·dsimp only; rw [← hsf]; exact g1
   ·show 16777216 ≤ υ.W * 256 * 256 ^ (f - 1)
    rw [Nat.mul_assoc, ← Nat.pow_succ', show (f - 1).succ = f by omega]; exact g2
   ·show υ.W * 256 ≤ 4294967296
    omega
   ·show υ.L + 1 + (f - 1) ≤ _
    omega
   ·show f - 1 < f
    omega
   ·refine (hset _).symm.trans ?_
    unfold rdG
    rw [hsm]
    exact (AH.zS _ _ _ _).symm
  ·rw [← g1, shf_done (by omega)]
   unfold rdRow at hud
   generalize hG : rdG H d ic bc b υ = G at *
   (repeat' ((conv => whnf); first | refine Then.mk ?_ | refine OpsA.zD ?_ | refine OpsA.zE ?_ | refine AWq.zI ?_ | refine AWq.zB ?_ | refine AWq.zG ?_ | refine AWq.zF ?_ | refine AWq.zH ?_ | refine AWq.zK ?_ | refine AWq.zJ ?_ | refine DrawF.consD ?_ | refine DrawF.nil ?_ | (refine Both.mk ?_ ?_ <;> intro hc <;> (first | exact Bool.noConfusion hc | (exfalso; omega) | skip)) | (intro c hc; (try (simp only [AH.zA] at hc; repeat (have hn := hc.1; replace hc := hc.2))); (first | (have hc2 := Eq.trans hc (by with_reducible assumption); clear hc; subst hc2) | skip)) | (apply Exists.intro; apply And.intro; (first | (focus (repeat (first | (with_reducible assumption) | (with_reducible exact AH.zC _ _ _) | ((first | refine AH.zL ?_ ?_); (first | (with_reducible assumption))))); done))) | (apply Exists.intro; apply And.intro; first | (with_reducible assumption) | ((try simp only [zW, z0z, zZ, zY]); first | (with_reducible assumption) | rfl)) | (apply And.intro; (first | rfl | (with_reducible assumption) | exact zX rfl | omega)))) <;> (try (conv => whnf))
open Go.Fw Go
set_option maxRecDepth 8000 in
theorem k_read_c (b : List UInt8) (hbl : b.length ≤ 1000000000000) (H : AH) :
  ACall Try.prog 96 [.cs (u8s b) b.length] H (fun y H' => ∃ d ic bc, H d = none ∧ H ic = none ∧ H bc = none ∧ y = .ptr d 0 0 ∧ RdAt H' d ic bc b cs0 ∧ HLe H H') := by
 refine zQ zU (dok _) Try.func96 rfl (by decide) rfl ?_
 (repeat' ((conv => whnf); first | refine Then.mk ?_ | left | refine OpsA.zD ?_ | refine OpsA.zE ?_ | refine AWq.zI ?_ | refine AWq.zB ?_ | refine AWq.zG ?_ | refine AWq.zF ?_ | refine AWq.zH ?_ | refine AWq.ret ?_ | refine AWq.zK ?_ | refine AWq.zJ ?_ | refine DrawF.consD ?_ | refine DrawF.nil ?_ | (refine Both.mk ?_ ?_ <;> intro hc <;> (first | exact Bool.noConfusion hc | (exfalso; omega) | skip)) | (intro c hc; (try (simp only [AH.zA] at hc; repeat (have hn := hc.1; replace hc := hc.2))); (first | (have hc2 := Eq.trans hc (by with_reducible assumption); clear hc; subst hc2) | (refine zP hc ?_ ?_ ?_ ; omega; omega; (clear hc; intro hc; subst hc)) | skip)) | (apply Exists.intro; apply And.intro; (first | (focus (repeat (first | (with_reducible assumption) | (with_reducible exact AH.zC _ _ _) | ((first | refine AH.zL ?_ ?_); (first | (with_reducible assumption))))); done))) | (apply Exists.intro; apply And.intro; first | (with_reducible assumption) | ((try simp only [zW, z0z, zZ, zY]); first | (with_reducible assumption) | rfl)) | (apply And.intro; (first | rfl | (with_reducible assumption) | exact zX rfl | omega)))) <;> (try (conv => whnf))
 rename_i bc hbc ic nib hic ndi ndi2
 have hdi : c ≠ ic := by assumption
 have hdb : c ≠ bc := by assumption
 have hid := Ne.symm hdi
 have hbd := Ne.symm hdb
 have hbi := Ne.symm nib
 have hrd : ∀ k, RdAt ((AH.set (AH.set H bc (.row [.cs (u8s b) b.length] 0)) ic (.row [.int .i64 (k : Nat)] 0)).set c (rdRow (bv b k) 4294967296 ic bc)) c ic bc b ⟨0, 4294967296, 0⟩ ∨ k ≠ 4 := fun k => by
  by_cases hk : k = 4
  ·subst hk
   left
   refine ⟨AH.zC _ _ _, ?_, ?_, hdi, hdb, nib⟩
   ·rw [AH.zR _ _ hid, AH.zC]
   ·rw [AH.zR _ _ hbd, AH.zR _ _ hbi, AH.zC]
  ·right; exact hk
 refine zT (σ := Nat) (12 :: 13 :: 14 :: 15 :: 16 :: 17 :: 18 :: 19 :: 20 :: 21 :: 22 :: 23 :: 24 :: 25 :: 26 :: 27 :: 28 :: 29 :: 30 :: []) (fun k => [(12, .int .i64 k)]) (fun k => ((AH.set (AH.set H bc (.row [.cs (u8s b) b.length] 0)) ic (.row [.int .i64 (k : Nat)] 0)).set c (rdRow (bv b k) 4294967296 ic bc))) (fun k => k ≤ 4) (fun k => 4 - k) 0 rfl (by decide) ⟨rfl, trivial⟩ ?_ ?_
 ·refine HLe.of_eq ?_
  refine Eq.symm ((AH.zS _ _ _ _).trans ?_)
  exact congrArg (fun G => AH.set G c _) (AH.zS _ _ _ _)
 ·intro k hk
  refine AWp.of zU (dok _) rfl ?_
  have hui : ((AH.set (AH.set H bc (.row [.cs (u8s b) b.length] 0)) ic (.row [.int .i64 (k : Nat)] 0)).set c (rdRow (bv b k) 4294967296 ic bc)) ic = some (.row [.int .i64 k] 0) := by rw [AH.zR _ _ hid, AH.zC]
  have hub : ((AH.set (AH.set H bc (.row [.cs (u8s b) b.length] 0)) ic (.row [.int .i64 (k : Nat)] 0)).set c (rdRow (bv b k) 4294967296 ic bc)) bc = some (.row [.cs (u8s b) b.length] 0) := by rw [AH.zR _ _ hbd, AH.zR _ _ hbi, AH.zC]
  have hud : ((AH.set (AH.set H bc (.row [.cs (u8s b) b.length] 0)) ic (.row [.int .i64 (k : Nat)] 0)).set c (rdRow (bv b k) 4294967296 ic bc)) c = some (rdRow (bv b k) 4294967296 ic bc) := AH.zC _ _ _
  by_cases hk4 : k < 4
  ·have hnx := k_next_c hui hub nib (by omega) hbl
   have hbb : bv b k < 16777216 := Nat.lt_of_lt_of_le (bv_lt b k) (by
    have : 256 ^ k ≤ 256 ^ 3 := Nat.pow_le_pow_right (by decide) (by omega)
    exact this)
   have hbs : bv b (k + 1) = bv b k * 256 + (b.getD k 0).toNat := rfl
   have hy : (b.getD k 0).toNat < 256 := (b.getD k 0).toNat_lt
   have hset : ∀ low, (((((AH.set (AH.set H bc (.row [.cs (u8s b) b.length] 0)) ic (.row [.int .i64 (k : Nat)] 0)).set c (rdRow (bv b k) 4294967296 ic bc))).set ic (.row [.int .i64 (k + 1 : Nat)] 0)).set c (rdRow low 4294967296 ic bc)) = ((AH.set (AH.set H bc (.row [.cs (u8s b) b.length] 0)) ic (.row [.int .i64 (k + 1 : Nat)] 0)).set c (rdRow low 4294967296 ic bc)) := fun low => by
    rw [AH.set_back _ hid, AH.zS]
   generalize ((AH.set (AH.set H bc (.row [.cs (u8s b) b.length] 0)) ic (.row [.int .i64 (k : Nat)] 0)).set c (rdRow (bv b k) 4294967296 ic bc)) = G at *
   unfold rdRow at hud
   generalize (b.getD k 0).toNat = y at *
   generalize bv b k = lw at *
   have s3 : IntKind.u64.wrap ((lw : Int) * 2 ^ min (Int.toNat 8) IntKind.u64.bits) = (lw * 256 : Nat) := by
    rw [show (2 : Int) ^ min (Int.toNat 8) IntKind.u64.bits = 256 by decide, wrap_u64']; omega
   have s4 : IntKind.u64.wrap (((lw * 256 : Nat) : Int) + y) = (lw * 256 + y : Nat) := by rw [wrap_u64']; omega
   (repeat' ((conv => whnf); first | refine Then.mk ?_ | left | refine OpsA.zD ?_ | refine OpsA.zE ?_ | refine AWq.zI ?_ | refine AWq.zB ?_ | refine AWq.zG ?_ | refine AWq.zF ?_ | refine AWq.zH ?_ | refine AWq.ret ?_ | refine AWq.zK ?_ | refine AWq.zJ ?_ | refine DrawF.consD ?_ | refine DrawF.nil ?_ | (refine Both.mk ?_ ?_ <;> intro hc <;> (first | exact Bool.noConfusion hc | (exfalso; omega) | skip)) | (intro c hc; (try (simp only [AH.zA] at hc; repeat (have hn := hc.1; replace hc := hc.2))); (first | (have hc2 := Eq.trans hc (by with_reducible assumption); clear hc; subst hc2) | (refine zP hc ?_ ?_ ?_ ; omega; omega; (clear hc; intro hc; subst hc)) | skip)) | (apply Exists.intro; apply And.intro; (first | (focus (repeat (first | (with_reducible assumption) | (with_reducible exact AH.zC _ _ _) | ((first | refine AH.zL ?_ ?_); (first | (with_reducible assumption))))); done))) | (apply Exists.intro; apply And.intro; first | (with_reducible assumption) | ((try simp only [zW, z0z, zZ, zY]); first | (with_reducible assumption) | rfl)) | (apply And.intro; (first | rfl | (with_reducible assumption) | exact zX rfl | omega)))) <;> (try (conv => whnf))
   refine AWq.drawF mo ([25], [19]) (fun G' => G' c = some (.row [.int .u64 lw, .int .u64 4294967296, .fn (.func 110) [] [.ptr ic 0 0, .ptr bc 0 0]] 0)) hud (by decide +kernel) ?_
   (repeat' ((conv => whnf); first | refine Then.mk ?_ | left | refine OpsA.zD ?_ | refine OpsA.zE ?_ | refine AWq.zI ?_ | refine AWq.zB ?_ | refine AWq.zG ?_ | refine AWq.zF ?_ | refine AWq.zH ?_ | refine AWq.ret ?_ | refine AWq.zK ?_ | refine AWq.zJ ?_ | refine DrawF.consD ?_ | refine DrawF.nil ?_ | (apply Exists.intro; apply Exists.intro; apply And.intro; exact hnx) | (refine Both.mk ?_ ?_ <;> intro hc <;> (first | exact Bool.noConfusion hc | (exfalso; omega) | skip)) | (intro c hc; (try (simp only [AH.zA] at hc; repeat (have hn := hc.1; replace hc := hc.2))); (first | (have hc2 := Eq.trans hc (by with_reducible assumption); clear hc; subst hc2) | (refine zP hc ?_ ?_ ?_ ; omega; omega; (clear hc; intro hc; subst hc)) | skip)) | (apply Exists.intro; apply And.intro; (first | (focus (repeat (first | (with_reducible assumption) | (with_reducible exact AH.zC _ _ _) | ((first | refine AH.zL ?_ ?_); (first | (with_reducible assumption))))); done))) | (apply Exists.intro; apply And.intro; first | (with_reducible assumption) | ((try simp only [zW, z0z, zZ, zY]); first | (with_reducible assumption) | rfl)) | (apply And.intro; (first | rfl | (with_reducible assumption) | exact zX rfl | omega)))) <;> (try (conv => whnf))
   refine ⟨.int .u64 lw, ?_, ?_, ?_⟩
   ·(repeat' ((conv => whnf); first | refine Then.mk ?_ | left | refine OpsA.zD ?_ | refine OpsA.zE ?_ | refine AWq.zI ?_ | refine AWq.zB ?_ | refine AWq.zG ?_ | refine AWq.zF ?_ | refine AWq.zH ?_ | refine AWq.ret ?_ | refine AWq.zK ?_ | refine AWq.zJ ?_ | refine DrawF.consD ?_ | refine DrawF.nil ?_ | (refine Both.mk ?_ ?_ <;> intro hc <;> (first | exact Bool.noConfusion hc | (exfalso; omega) | skip)) | (intro c hc; (try (simp only [AH.zA] at hc; repeat (have hn := hc.1; replace hc := hc.2))); (first | (have hc2 := Eq.trans hc (by with_reducible assumption); clear hc; subst hc2) | (refine zP hc ?_ ?_ ?_ ; omega; omega; (clear hc; intro hc; subst hc)) | skip)) | (apply Exists.intro; apply And.intro; (first | (focus (repeat (first | (with_reducible assumption) | (with_reducible exact AH.zC _ _ _) | ((first | refine AH.zL ?_ ?_); (first | (with_reducible assumption))))); done))) | (apply Exists.intro; apply And.intro; first | (with_reducible assumption) | ((try simp only [zW, z0z, zZ, zY]); first | (with_reducible assumption) | rfl)) | (apply And.intro; (first | rfl | (with_reducible assumption) | exact zX rfl | omega)))) <;> (try (conv => whnf))
   ·intro G' hG'
    have hG' : G' c = some (.row [.int .u64 lw, .int .u64 4294967296, .fn (.func 110) [] [.ptr ic 0 0, .ptr bc 0 0]] 0) := hG'
    (repeat' ((conv => whnf); first | refine Then.mk ?_ | left | refine OpsA.zD ?_ | refine OpsA.zE ?_ | refine AWq.zI ?_ | refine AWq.zB ?_ | refine AWq.zG ?_ | refine AWq.zF ?_ | refine AWq.zH ?_ | refine AWq.ret ?_ | refine AWq.zK ?_ | refine AWq.zJ ?_ | refine DrawF.consD ?_ | refine DrawF.nil ?_ | (refine Both.mk ?_ ?_ <;> intro hc <;> (first | exact Bool.noConfusion hc | (exfalso; omega) | skip)) | (intro c hc; (try (simp only [AH.zA] at hc; repeat (have hn := hc.1; replace hc := hc.2))); (first | (have hc2 := Eq.trans hc (by with_reducible assumption); clear hc; subst hc2) | (refine zP hc ?_ ?_ ?_ ; omega; omega; (clear hc; intro hc; subst hc)) | skip)) | (apply Exists.intro; apply And.intro; (first | (focus (repeat (first | (with_reducible assumption) | (with_reducible exact AH.zC _ _ _) | ((first | refine AH.zL ?_ ?_); (first | (with_reducible assumption))))); done))) | (apply Exists.intro; apply And.intro; first | (with_reducible assumption) | ((try simp only [zW, z0z, zZ, zY]); first | (with_reducible assumption) | rfl)) | (apply And.intro; (first | rfl | (with_reducible assumption) | exact zX rfl | omega)))) <;> (try (conv => whnf))
   (repeat' ((conv => whnf); first | refine Then.mk ?_ | left | refine OpsA.zD ?_ | refine OpsA.zE ?_ | refine AWq.zI ?_ | refine AWq.zB ?_ | refine AWq.zG ?_ | refine AWq.zF ?_ | refine AWq.zH ?_ | refine AWq.ret ?_ | refine AWq.zK ?_ | refine AWq.zJ ?_ | refine DrawF.consD ?_ | refine DrawF.nil ?_ | (apply Exists.intro; apply Exists.intro; apply And.intro; exact hnx) | (refine Both.mk ?_ ?_ <;> intro hc <;> (first | exact Bool.noConfusion hc | (exfalso; omega) | skip)) | (intro c hc; (try (simp only [AH.zA] at hc; repeat (have hn := hc.1; replace hc := hc.2))); (first | (have hc2 := Eq.trans hc (by with_reducible assumption); clear hc; subst hc2) | (refine zP hc ?_ ?_ ?_ ; omega; omega; (clear hc; intro hc; subst hc)) | skip)) | (apply Exists.intro; apply And.intro; (first | (focus (repeat (first | (with_reducible assumption) | (with_reducible exact AH.zC _ _ _) | ((first | refine AH.zL ?_ ?_); (first | (with_reducible assumption))))); done))) | (apply Exists.intro; apply And.intro; first | (with_reducible assumption) | ((try simp only [zW, z0z, zZ, zY]); first | (with_reducible assumption) | rfl)) | (apply And.intro; (first | rfl | (with_reducible assumption) | exact zX rfl | omega)))) <;> (try (conv => whnf))
   refine And.intro (show _ = _ from ?_) ?_
   ·rw [AH.zR _ _ hdi]; exact hud
   (repeat' ((conv => whnf); first | refine Then.mk ?_ | left | refine OpsA.zD ?_ | refine OpsA.zE ?_ | refine AWq.zI ?_ | refine AWq.zB ?_ | refine AWq.zG ?_ | refine AWq.zF ?_ | refine AWq.zH ?_ | refine AWq.ret ?_ | refine AWq.zK ?_ | refine AWq.zJ ?_ | refine DrawF.consD ?_ | refine DrawF.nil ?_ | (refine Both.mk ?_ ?_ <;> intro hc <;> (first | exact Bool.noConfusion hc | (exfalso; omega) | skip)) | (intro c hc; (try (simp only [AH.zA] at hc; repeat (have hn := hc.1; replace hc := hc.2))); (first | (have hc2 := Eq.trans hc (by with_reducible assumption); clear hc; subst hc2) | (refine zP hc ?_ ?_ ?_ ; omega; omega; (clear hc; intro hc; subst hc)) | skip)) | (apply Exists.intro; apply And.intro; (first | (focus (repeat (first | (with_reducible assumption) | (with_reducible exact AH.zC _ _ _) | ((first | refine AH.zL ?_ ?_); (first | (with_reducible assumption))))); done))) | (apply Exists.intro; apply And.intro; first | (with_reducible assumption) | ((try simp only [zW, z0z, zZ, zY]); first | (with_reducible assumption) | rfl)) | (apply And.intro; (first | rfl | (with_reducible assumption) | exact zX rfl | omega)))) <;> (try (conv => whnf))
   refine ⟨k + 1, by omega, by omega, ⟨congrArg (AV.int .i64) (by omega), trivial⟩, HLe.of_eq ?_⟩
   dsimp only
   rw [hbs, ← hset]
   rfl
  ·have hk4 : k = 4 := by omega
   subst hk4
   have hrd4 := (hrd 4).resolve_right (by simp)
   generalize hG : ((AH.set (AH.set H bc (.row [.cs (u8s b) b.length] 0)) ic (.row [.int .i64 (4 : Nat)] 0)).set c (rdRow (bv b 4) 4294967296 ic bc)) = G at *
   (repeat' ((conv => whnf); first | refine Then.mk ?_ | left | refine OpsA.zD ?_ | refine OpsA.zE ?_ | refine AWq.zI ?_ | refine AWq.zB ?_ | refine AWq.zG ?_ | refine AWq.zF ?_ | refine AWq.zH ?_ | refine AWq.ret ?_ | refine AWq.zK ?_ | refine AWq.zJ ?_ | refine DrawF.consD ?_ | refine DrawF.nil ?_ | (refine Both.mk ?_ ?_ <;> intro hc <;> (first | exact Bool.noConfusion hc | (exfalso; omega) | skip)) | (intro c hc; (try (simp only [AH.zA] at hc; repeat (have hn := hc.1; replace hc := hc.2))); (first | (have hc2 := Eq.trans hc (by with_reducible assumption); clear hc; subst hc2) | (refine zP hc ?_ ?_ ?_ ; omega; omega; (clear hc; intro hc; subst hc)) | skip)) | (apply Exists.intro; apply And.intro; (first | (focus (repeat (first | (with_reducible assumption) | (with_reducible exact AH.zC _ _ _) | ((first | refine AH.zL ?_ ?_); (first | (with_reducible assumption))))); done))) | (apply Exists.intro; apply And.intro; first | (with_reducible assumption) | ((try simp only [zW, z0z, zZ, zY]); first | (with_reducible assumption) | rfl)) | (apply And.intro; (first | rfl | (with_reducible assumption) | exact zX rfl | omega)))) <;> (try (conv => whnf))
   refine ⟨c, ic, bc, by assumption, hic, hbc, rfl, hrd4, ?_⟩
   rw [← hG]
   exact HLe.set_of _ _ (HLe.set_of _ _ (HLe.fresh _ hbc) hic) (by assumption)
set_option maxRecDepth 8000 in
theorem rsymbol_c {G : AH} {d ic bc p q n : Nat} {b : List UInt8} {σ : Cs} {c : Nat → Nat} (h : RdAt G d ic bc b σ) (hm : MdAt G p q n c) (hr : RdOk b σ) (hc : CsOk σ) (hL : σ.L ≤ 1000000000) (hbl : b.length ≤ 1000000000000)
  (h1 : p ≠ d) (h2 : p ≠ ic) (h3 : q ≠ d) (h4 : q ≠ ic) (hat : atR b σ (plc c n) < plc c n) {s : Nat} (hs : s = fnd c (atR b σ (plc c n)) n) :
  ACall Try.prog 97 [.ptr d 0 0, .ptr p 0 0] G (fun y H' => y = .tup [.int .i64 s, .bool true] ∧ H' = mdH (rdG G d ic bc b (stp σ (plc c s) (c s) (plc c n))) p q n (seeM n c s)) := by
 have hn : 1 ≤ n := by
  cases n with
  | zero => simp [plc] at hat
  | succ n => omega
 obtain ⟨f1, f2, f3⟩ := fnd_ok hat
 rw [← hs] at f1 f2 f3
 have ht := hm.ok.tot f1
 have hts := hm.ok.sum
 have hac := at_c h hr hc (plc c n) ht hts
 rw [decide_eq_true hat, Nat.min_eq_left (Nat.le_of_lt hat)] at hac
 have hst : StOk (plc c s) (c s) (plc c n) := ⟨hm.ok.pos s f1, plc_one f1, hts⟩
 have hstep := k_rstep_c h hr hc hst f2 f3 hL hbl
 have hsee := see_c (hm.same (G := rdG G d ic bc b (stp σ (plc c s) (c s) (plc c n))) (rdG_ne h1 h2) (rdG_ne h3 h4)) s f1
 have hmp := hm.hp
 have hmq := hm.hq
 have hle := fun k hk => hm.ok.le (k := k) hk
 have hcell := fun k (hk : k < n) => iL_gi (fun k => (c k : Int)) hk
 have hlen : (iL n fun k => (c k : Int)).length = n := iL_len _ _
 generalize (iL n fun k => (c k : Int)) = cells at *
 have hpls : ∀ k, k ≤ n → plc c k ≤ plc c n := fun k hk => plc_le hk
 obtain ⟨A, hA⟩ : ∃ A, A = atR b σ (plc c n) := ⟨_, rfl⟩
 rw [← hA] at hac hat f2 f3
 obtain ⟨T, hT⟩ : ∃ T, T = plc c n := ⟨_, rfl⟩
 rw [← hT] at hmp hstep hsee hts hac ht hat hpls hst ⊢
 have hmn := hm.ok.hn
 refine zQ zU (dok _) Try.func97 rfl (by decide) rfl ?_
 (repeat' ((conv => whnf); first | refine Then.mk ?_ | refine OpsA.zD ?_ | refine OpsA.zE ?_ | refine AWq.zI ?_ | refine AWq.zB ?_ | refine AWq.zG ?_ | refine AWq.zF ?_ | refine AWq.zH ?_ | refine AWq.scope ?_ | refine AWq.label ?_ | refine AWq.ret ?_ | refine AWq.zK ?_ | refine AWq.zJ ?_ | refine DrawA.zM ?_ | refine DrawA.zN ?_ | (refine Both.mk ?_ ?_ <;> intro hc <;> (first | exact Bool.noConfusion hc | (exfalso; omega) | skip)) | (intro c hc; (try (simp only [AH.zA] at hc; repeat (have hn := hc.1; replace hc := hc.2))); (first | (refine zP hc ?_ ?_ ?_ ; omega; omega; (clear hc; intro hc; subst hc)) | skip)) | (apply Exists.intro; apply And.intro; (first | (focus (repeat (first | (with_reducible assumption))); done))) | (apply Exists.intro; apply And.intro; first | (with_reducible assumption) | ((try simp only [zW, z0z, zZ, zY]); first | (with_reducible assumption) | rfl)) | (apply And.intro; (first | rfl | (with_reducible assumption) | omega)) | (refine ACall.to (hac) ?_))) <;> (try (conv => whnf))
 refine zT (σ := Nat) (8 :: 9 :: 10 :: 11 :: 28 :: 29 :: 30 :: 31 :: 32 :: 33 :: 34 :: 35 :: 36 :: 37 :: 38 :: 39 :: 40 :: 41 :: 42 :: []) (fun i => [(28, .int .i64 i), (8, .int .i64 (plc c i : Nat)), (9, .int .i64 0)]) (fun i => G) (fun i => i ≤ s) (fun i => s - i) 0 rfl (Nat.zero_le _) ⟨rfl, rfl, rfl, trivial⟩ (HLe.refl _) ?_
 intro i hi
 refine AWp.of zU (dok _) rfl ?_
 dsimp only at hi ⊢
 have hg := hcell i (by omega)
 have hci := hle i (by omega)
 have hpi := hpls i (by omega)
 have hps : plc c (i + 1) = plc c i + c i := rfl
 by_cases his : i = s
 ·subst his
  rw [hps] at f3
  have hstep' := hstep
  generalize hp0 : plc c i = p0 at *
  generalize hc0 : c i = c0 at *
  (repeat' ((conv => whnf); first | refine AWq.drawM ([56], []) (by decide +kernel) ?_ | refine Then.mk ?_ | refine OpsA.zD ?_ | refine OpsA.zE ?_ | refine AWq.zI ?_ | refine AWq.zB ?_ | refine AWq.zG ?_ | refine AWq.zF ?_ | refine AWq.zH ?_ | refine AWq.scope ?_ | refine AWq.label ?_ | refine AWq.ret ?_ | refine AWq.zK ?_ | refine AWq.zJ ?_ | refine DrawA.zM ?_ | refine DrawA.zN ?_ | (apply Exists.intro; apply Exists.intro; apply And.intro; exact hstep) | (refine Both.mk ?_ ?_ <;> intro hc <;> (first | exact Bool.noConfusion hc | (exfalso; omega) | skip)) | (intro c hc; (try (simp only [AH.zA] at hc; repeat (have hn := hc.1; replace hc := hc.2))); (first | (refine zP hc ?_ ?_ ?_ ; omega; omega; (clear hc; intro hc; subst hc)) | skip)) | (apply Exists.intro; apply And.intro; (first | (focus (repeat (first | (with_reducible assumption))); done))) | (apply Exists.intro; apply And.intro; first | (with_reducible assumption) | ((try simp only [zW, z0z, zZ, zY]); first | (with_reducible assumption) | rfl)) | (apply And.intro; (first | rfl | (with_reducible assumption) | omega)) | (refine ACall.to (hsee) ?_))) <;> (try (conv => whnf))
 ·have hlt : plc c (i + 1) ≤ A := Nat.le_trans (plc_le (by omega)) f2
  have hA' : ¬ A < plc c i + c i := by rw [← hps]; omega
  generalize plc c i = p0 at *
  generalize c i = c0 at *
  (repeat' ((conv => whnf); first | refine Then.mk ?_ | refine OpsA.zD ?_ | refine OpsA.zE ?_ | refine AWq.zI ?_ | refine AWq.zB ?_ | refine AWq.zG ?_ | refine AWq.zF ?_ | refine AWq.zH ?_ | refine AWq.scope ?_ | refine AWq.label ?_ | refine AWq.ret ?_ | refine AWq.zK ?_ | refine AWq.zJ ?_ | refine DrawA.zM ?_ | refine DrawA.zN ?_ | (refine Both.mk ?_ ?_ <;> intro hc <;> (first | exact Bool.noConfusion hc | (exfalso; omega) | skip)) | (intro c hc; (try (simp only [AH.zA] at hc; repeat (have hn := hc.1; replace hc := hc.2))); (first | (refine zP hc ?_ ?_ ?_ ; omega; omega; (clear hc; intro hc; subst hc)) | skip)) | (apply Exists.intro; apply And.intro; (first | (focus (repeat (first | (with_reducible assumption))); done))) | (apply Exists.intro; apply And.intro; first | (with_reducible assumption) | ((try simp only [zW, z0z, zZ, zY]); first | (with_reducible assumption) | rfl)) | (apply And.intro; (first | rfl | (with_reducible assumption) | omega)))) <;> (try (conv => whnf))
  exact ⟨i + 1, by omega, by omega, ⟨congrArg (AV.int .i64) (by omega), congrArg (AV.int .i64) (by rw [hps]; omega), rfl, trivial⟩, HLe.refl _⟩
set_option maxRecDepth 8000 in
theorem rsymbol_bad {G : AH} {d ic bc p q n : Nat} {b : List UInt8} {σ : Cs} {c : Nat → Nat} (h : RdAt G d ic bc b σ) (hm : MdAt G p q n c) (hr : RdOk b σ) (hc : CsOk σ) (hn : 1 ≤ n) (hat : ¬ atR b σ (plc c n) < plc c n) :
  ACall Try.prog 97 [.ptr d 0 0, .ptr p 0 0] G (fun y H' => y = .tup [.int .i64 0, .bool false] ∧ H' = G) := by
 have ht := hm.ok.tot (s := 0) hn
 have hts := hm.ok.sum
 have hac := at_c h hr hc (plc c n) ht hts
 rw [decide_eq_false hat] at hac
 have hp := hm.hp
 refine zQ zU (dok _) Try.func97 rfl (by decide) rfl ?_
 (repeat' ((conv => whnf); first | refine Then.mk ?_ | refine OpsA.zD ?_ | refine OpsA.zE ?_ | refine AWq.zI ?_ | refine AWq.zB ?_ | refine AWq.zG ?_ | refine AWq.scope ?_ | refine AWq.ret ?_ | (refine Both.mk ?_ ?_ <;> intro hc <;> (first | exact Bool.noConfusion hc | skip)) | (apply Exists.intro; apply And.intro; (first | (focus (repeat (first | (with_reducible assumption))); done))) | (apply Exists.intro; apply And.intro; first | (with_reducible assumption) | ((try simp only [zW, z0z, zZ, zY]); first | (with_reducible assumption) | rfl)) | (apply And.intro; (first | rfl | (with_reducible assumption))) | (refine ACall.to (hac) ?_))) <;> (try (conv => whnf))
open Go.Fw Go
set_option maxRecDepth 8000 in
theorem equal_c (a b : List UInt8) (hb : b.length ≤ 1000000000000) (H : AH) :
  ACall Try.prog 101 [.cs (u8s a) a.length, .cs (u8s b) b.length] H (fun y H' => y = .bool (decide (a = b)) ∧ H' = H) := by
 have hul : (u8s a).length = a.length := by simp
 have hvl : (u8s b).length = b.length := by simp
 by_cases hl : a.length = b.length
 ·refine zQ zU (dok _) Try.func101 rfl (by decide) rfl ?_
  (repeat' ((conv => whnf); first | refine Then.mk ?_ | refine OpsA.zD ?_ | refine OpsA.zE ?_ | refine AWq.zI ?_ | refine AWq.zB ?_ | refine AWq.zG ?_ | refine AWq.zF ?_ | refine AWq.zH ?_ | refine AWq.ret ?_ | refine AWq.zK ?_ | refine AWq.zJ ?_ | refine DrawA.zM ?_ | refine DrawA.zN ?_ | refine AWq.zO (by decide +kernel) ?_ | (refine Both.mk ?_ ?_ <;> intro hc <;> (first | exact Bool.noConfusion hc | exact absurd (by with_reducible rfl) hc | exact absurd (by assumption) hc | (exfalso; omega) | skip)) | (intro c hc; (try (simp only [AH.zA] at hc; repeat (have hn := hc.1; replace hc := hc.2))); (first | (refine zP hc ?_ ?_ ?_ ; omega; omega; (clear hc; intro hc; subst hc)) | skip)) | (apply Exists.intro; apply And.intro; first | (with_reducible assumption) | ((try simp only [zW, z0z, zZ, zY]); first | (with_reducible assumption) | rfl)) | (apply And.intro; (first | rfl | (with_reducible assumption) | omega)))) <;> (try (conv => whnf))
  refine zT (σ := Nat) (4 :: 5 :: 13 :: 14 :: 15 :: 16 :: 17 :: 18 :: 19 :: 20 :: 21 :: 22 :: 23 :: 24 :: 25 :: []) (fun i => [(13, .int .i64 i)]) (fun i => H) (fun i => i ≤ a.length ∧ ∀ j, j < i → a.getD j 0 = b.getD j 0) (fun i => a.length - i) 0 rfl ⟨Nat.zero_le _, fun j hj => absurd hj (by omega)⟩ ⟨rfl, trivial⟩ (HLe.refl _) ?_
  rintro i ⟨h1, h2⟩
  refine AWp.of zU (dok _) rfl ?_
  dsimp only at h1 h2 ⊢
  by_cases hi : i < a.length
  ·have g1 : (u8s a)[(i : Int).toNat]? = some (.int .u8 (a.getD i 0).toNat) := u8s_get hi
   have g2 : (u8s b)[(i : Int).toNat]? = some (.int .u8 (b.getD i 0).toNat) := u8s_get (by rw [Int.toNat_natCast]; omega)
   by_cases he : a.getD i 0 = b.getD i 0
   ·have h3 : ∀ j, j < i + 1 → a.getD j 0 = b.getD j 0 := fun j hj => by
     by_cases e : j = i
     ·rw [e]; exact he
     ·exact h2 j (by omega)
    rw [← he] at g2
    generalize ((a.getD i 0).toNat : Int) = x at *
    (repeat' ((conv => whnf); first | refine Then.mk ?_ | refine OpsA.zD ?_ | refine OpsA.zE ?_ | refine AWq.zI ?_ | refine AWq.zB ?_ | refine AWq.zG ?_ | refine AWq.zF ?_ | refine AWq.zH ?_ | refine AWq.ret ?_ | refine AWq.zK ?_ | refine AWq.zJ ?_ | refine DrawA.zM ?_ | refine DrawA.zN ?_ | refine AWq.zO (by decide +kernel) ?_ | (refine Both.mk ?_ ?_ <;> intro hc <;> (first | exact Bool.noConfusion hc | exact absurd (by with_reducible rfl) hc | exact absurd (by assumption) hc | (exfalso; omega) | skip)) | (intro c hc; (try (simp only [AH.zA] at hc; repeat (have hn := hc.1; replace hc := hc.2))); (first | (refine zP hc ?_ ?_ ?_ ; omega; omega; (clear hc; intro hc; subst hc)) | skip)) | (apply Exists.intro; apply And.intro; first | (with_reducible assumption) | ((try simp only [zW, z0z, zZ, zY]); first | (with_reducible assumption) | rfl)) | (apply And.intro; (first | rfl | (with_reducible assumption) | omega)))) <;> (try (conv => whnf))
    exact ⟨i + 1, ⟨hi, h3⟩, by omega, ⟨congrArg (AV.int .i64) (by omega), trivial⟩, HLe.refl _⟩
   ·have hx : ¬ ((a.getD i 0).toNat : Int) = ((b.getD i 0).toNat : Int) := fun e => he (UInt8.toNat_inj.1 (by omega))
    have hd : decide (a = b) = false := decide_eq_false fun e => he (by rw [e])
    rw [hd]
    generalize ((a.getD i 0).toNat : Int) = x at *
    generalize ((b.getD i 0).toNat : Int) = z at *
    (repeat' ((conv => whnf); first | refine Then.mk ?_ | refine OpsA.zD ?_ | refine OpsA.zE ?_ | refine AWq.zI ?_ | refine AWq.zB ?_ | refine AWq.zG ?_ | refine AWq.zF ?_ | refine AWq.zH ?_ | refine AWq.ret ?_ | refine AWq.zK ?_ | refine AWq.zJ ?_ | refine DrawA.zM ?_ | refine DrawA.zN ?_ | refine AWq.zO (by decide +kernel) ?_ | (refine Both.mk ?_ ?_ <;> intro hc <;> (first | exact Bool.noConfusion hc | exact absurd (by with_reducible rfl) hc | exact absurd (by assumption) hc | (exfalso; omega) | skip)) | (intro c hc; (try (simp only [AH.zA] at hc; repeat (have hn := hc.1; replace hc := hc.2))); (first | (refine zP hc ?_ ?_ ?_ ; omega; omega; (clear hc; intro hc; subst hc)) | skip)) | (apply Exists.intro; apply And.intro; first | (with_reducible assumption) | ((try simp only [zW, z0z, zZ, zY]); first | (with_reducible assumption) | rfl)) | (apply And.intro; (first | rfl | (with_reducible assumption) | omega)))) <;> (try (conv => whnf))
  ·have hd : decide (a = b) = true := decide_eq_true (List.ext_getElem? fun j => by
    by_cases hj : j < a.length
    ·have := h2 j (by omega)
     rw [List.getD_eq_getElem?_getD, List.getD_eq_getElem?_getD, List.getElem?_eq_getElem hj, List.getElem?_eq_getElem (by omega : j < b.length)] at this
     rw [List.getElem?_eq_getElem hj, List.getElem?_eq_getElem (by omega : j < b.length)]
     exact congrArg some this
    ·rw [List.getElem?_eq_none (by omega), List.getElem?_eq_none (by omega)])
   rw [hd]
   (repeat' ((conv => whnf); first | refine Then.mk ?_ | refine OpsA.zD ?_ | refine OpsA.zE ?_ | refine AWq.zI ?_ | refine AWq.zB ?_ | refine AWq.zG ?_ | refine AWq.zF ?_ | refine AWq.zH ?_ | refine AWq.ret ?_ | refine AWq.zK ?_ | refine AWq.zJ ?_ | refine DrawA.zM ?_ | refine DrawA.zN ?_ | refine AWq.zO (by decide +kernel) ?_ | (refine Both.mk ?_ ?_ <;> intro hc <;> (first | exact Bool.noConfusion hc | exact absurd (by with_reducible rfl) hc | exact absurd (by assumption) hc | (exfalso; omega) | skip)) | (intro c hc; (try (simp only [AH.zA] at hc; repeat (have hn := hc.1; replace hc := hc.2))); (first | (refine zP hc ?_ ?_ ?_ ; omega; omega; (clear hc; intro hc; subst hc)) | skip)) | (apply Exists.intro; apply And.intro; first | (with_reducible assumption) | ((try simp only [zW, z0z, zZ, zY]); first | (with_reducible assumption) | rfl)) | (apply And.intro; (first | rfl | (with_reducible assumption) | omega)))) <;> (try (conv => whnf))
 ·have hd : decide (a = b) = false := decide_eq_false fun e => hl (by rw [e])
  rw [hd]
  refine zQ zU (dok _) Try.func101 rfl (by decide) rfl ?_
  (repeat' ((conv => whnf); first | refine Then.mk ?_ | refine OpsA.zD ?_ | refine OpsA.zE ?_ | refine AWq.zI ?_ | refine AWq.zB ?_ | refine AWq.zG ?_ | refine AWq.zF ?_ | refine AWq.zH ?_ | refine AWq.ret ?_ | refine AWq.zK ?_ | refine AWq.zJ ?_ | refine DrawA.zM ?_ | refine DrawA.zN ?_ | refine AWq.zO (by decide +kernel) ?_ | (refine Both.mk ?_ ?_ <;> intro hc <;> (first | exact Bool.noConfusion hc | exact absurd (by with_reducible rfl) hc | exact absurd (by assumption) hc | (exfalso; omega) | skip)) | (intro c hc; (try (simp only [AH.zA] at hc; repeat (have hn := hc.1; replace hc := hc.2))); (first | (refine zP hc ?_ ?_ ?_ ; omega; omega; (clear hc; intro hc; subst hc)) | skip)) | (apply Exists.intro; apply And.intro; first | (with_reducible assumption) | ((try simp only [zW, z0z, zZ, zY]); first | (with_reducible assumption) | rfl)) | (apply And.intro; (first | rfl | (with_reducible assumption) | omega)))) <;> (try (conv => whnf))
structure DcAt (H G : AH) (P Q : Nat → Nat) (d ic bc m n : Nat) (b : List UInt8) (E : Es) : Prop where
 mods : Mods G P Q m n E.M
 rd : RdAt G d ic bc b E.σ
 dj : ∀ k, k < m → (P k ≠ d ∧ P k ≠ ic ∧ P k ≠ bc) ∧ (Q k ≠ d ∧ Q k ≠ ic ∧ Q k ≠ bc)
 le : HLe H G
 new : ∀ k, k < m → H (P k) = none ∧ H (Q k) = none
 hd : H d = none
 hi : H ic = none
theorem le_rdG {H G : AH} {d ic bc : Nat} {b : List UInt8} {σ : Cs} (h : HLe H G) (hp : H d = none) (hq : H ic = none) : HLe H (rdG G d ic bc b σ) := HLe.set_of _ _ (HLe.set_of _ _ h hq) hp
theorem DcAt.step {H G : AH} {P Q : Nat → Nat} {d ic bc m n : Nat} {b : List UInt8} {E : Es} (h : DcAt H G P Q d ic bc m n b E) (σ : Cs) : DcAt H (rdG G d ic bc b σ) P Q d ic bc m n b ⟨E.M, σ⟩ := by
 refine ⟨h.mods.same fun k hk => ?_, h.rd.set σ, h.dj, le_rdG h.le h.hd h.hi, h.new, h.hd, h.hi⟩
 obtain ⟨⟨a1, a2, a3⟩, a4, a5, a6⟩ := h.dj k hk
 exact ⟨rdG_ne a1 a2, rdG_ne a4 a5⟩
def deG (G : AH) (P Q : Nat → Nat) (d ic bc n : Nat) (b : List UInt8) (E : Es) (k s : Nat) : AH := mdH (rdG G d ic bc b (symE n E k s).σ) (P k) (Q k) n (seeM n (E.M k) s)
theorem RdAt.same {G G' : AH} {d ic bc : Nat} {b : List UInt8} {σ : Cs} (h : RdAt G d ic bc b σ) (h1 : G' d = G d) (h2 : G' ic = G ic) (h3 : G' bc = G bc) : RdAt G' d ic bc b σ :=
 ⟨by rw [h1]; exact h.hd, by rw [h2]; exact h.hi, by rw [h3]; exact h.hb, h.n1, h.n2, h.n3⟩
theorem DcAt.sym {H G : AH} {P Q : Nat → Nat} {d ic bc m n : Nat} {b : List UInt8} {E : Es} (h : DcAt H G P Q d ic bc m n b E) {k s : Nat} (hk : k < m) (hs : s < n) : DcAt H (deG G P Q d ic bc n b E k s) P Q d ic bc m n b (symE n E k s) := by
 have h1 := h.step (symE n E k s).σ
 obtain ⟨⟨a1, a2, a3⟩, a4, a5, a6⟩ := h.dj k hk
 exact ⟨h1.mods.set hk ((h.mods.md k hk).ok.see hs), h1.rd.same (mdH_ne (Ne.symm a1) (Ne.symm a4)) (mdH_ne (Ne.symm a2) (Ne.symm a5)) (mdH_ne (Ne.symm a3) (Ne.symm a6)), h.dj, le_mdH h1.le (h.new k hk).1 (h.new k hk).2, h.new, h.hd, h.hi⟩
theorem DcAt.symbol {H G : AH} {P Q : Nat → Nat} {d ic bc m n : Nat} {b : List UInt8} {E : Es} (h : DcAt H G P Q d ic bc m n b E) (hE : EsOk n E) (hr : RdOk b E.σ) (hL : E.σ.L ≤ 1000000000) (hbl : b.length ≤ 1000000000000) {k : Nat} (hk : k < m) {s : Nat} {E' : Es} (hs : decSym n b E k = some (s, E')) :
  ACall Try.prog 97 [.ptr d 0 0, .ptr (P k) 0 0] G (fun y H' => y = .tup [.int .i64 s, .bool true] ∧ H' = deG G P Q d ic bc n b E k s) := by
 obtain ⟨⟨a1, a2, a3⟩, a4, a5, a6⟩ := h.dj k hk
 unfold decSym at hs
 split at hs
 ·rename_i hlt
  have := Option.some.inj hs
  have e1 := congrArg Prod.fst this
  dsimp only at e1
  exact rsymbol_c h.rd (h.mods.md k hk) hr hE.cs hL hbl a1 a2 a4 a5 hlt e1.symm
 ·cases hs
theorem DcAt.symbol_bad {H G : AH} {P Q : Nat → Nat} {d ic bc m n : Nat} {b : List UInt8} {E : Es} (h : DcAt H G P Q d ic bc m n b E) (hE : EsOk n E) (hr : RdOk b E.σ) (hn : 1 ≤ n) {k : Nat} (hk : k < m) (hs : decSym n b E k = none) :
  ACall Try.prog 97 [.ptr d 0 0, .ptr (P k) 0 0] G (fun y H' => y = .tup [.int .i64 0, .bool false] ∧ H' = G) := by
 unfold decSym at hs
 split at hs
 ·cases hs
 ·rename_i hlt
  exact rsymbol_bad h.rd (h.mods.md k hk) hr hE.cs hn hlt
theorem DcAt.same {H G G' : AH} {P Q : Nat → Nat} {d ic bc m n : Nat} {b : List UInt8} {E : Es} (h : DcAt H G P Q d ic bc m n b E) (hs : ∀ a, (∃ k, k < m ∧ (a = P k ∨ a = Q k)) ∨ a = d ∨ a = ic ∨ a = bc → G' a = G a) (hle : HLe H G') : DcAt H G' P Q d ic bc m n b E :=
 ⟨h.mods.same fun k hk => ⟨hs _ (.inl ⟨k, hk, .inl rfl⟩), hs _ (.inl ⟨k, hk, .inr rfl⟩)⟩, h.rd.same (hs _ (.inr (.inl rfl))) (hs _ (.inr (.inr (.inl rfl)))) (hs _ (.inr (.inr (.inr rfl)))), h.dj, hle, h.new, h.hd, h.hi⟩
def Far (P Q : Nat → Nat) (d ic bc m : Nat) (r : Nat) : Prop := (∀ k, k < m → r ≠ P k ∧ r ≠ Q k) ∧ r ≠ d ∧ r ≠ ic ∧ r ≠ bc
theorem DcAt.far {H G : AH} {P Q : Nat → Nat} {d ic bc m n : Nat} {b : List UInt8} {E : Es} (h : DcAt H G P Q d ic bc m n b E) {r : Nat} (hr : G r = none) : Far P Q d ic bc m r :=
 ⟨fun k hk => ⟨Ne.symm (h.mods.fresh hr hk).1, Ne.symm (h.mods.fresh hr hk).2⟩, AH.ne_none' hr h.rd.hd, AH.ne_none' hr h.rd.hi, AH.ne_none' hr h.rd.hb⟩
theorem Far.ne {P Q : Nat → Nat} {d ic bc m r a : Nat} (h : Far P Q d ic bc m r) (ha : (∃ k, k < m ∧ (a = P k ∨ a = Q k)) ∨ a = d ∨ a = ic ∨ a = bc) : a ≠ r := by
 rcases ha with ⟨k, hk, rfl | rfl⟩ | rfl | rfl | rfl
 ·exact Ne.symm (h.1 k hk).1
 ·exact Ne.symm (h.1 k hk).2
 ·exact Ne.symm h.2.1
 ·exact Ne.symm h.2.2.1
 ·exact Ne.symm h.2.2.2
theorem Far.deG {G : AH} {P Q : Nat → Nat} {d ic bc m n r : Nat} {b : List UInt8} {E : Es} (h : Far P Q d ic bc m r) {k s : Nat} (hk : k < m) : deG G P Q d ic bc n b E k s r = G r := by
 unfold Go.Proofs.Ytgpfmojlgejnhaa.deG
 rw [mdH_ne (h.1 k hk).1 (h.1 k hk).2, rdG_ne h.2.1 h.2.2.1]
def resI (x : List Int × Int) : AV := .tup [.cs (iS .i64 x.1) x.1.length, .int .i64 x.2]
theorem AVle.errI {e : Int} : AVle (.tup [.nils, .int .i64 e]) (resI ([], e)) := AVle.tup (AVles.cons AVle.nils (AVles.cons (AVle.refl _) AVles.nil))
open Go.Fw Go
theorem I64L.of {l : List Int} {n : Nat} (h : ∀ x ∈ l, 0 ≤ x ∧ x < (n : Int)) (hn : n ≤ 1000000) : I64L l := fun x hx => by have := h x hx; omega
open Go.Fw Go
set_option maxRecDepth 8000 in
theorem unfold_c (z : Nat) (hz : z < 2 ^ 64) (H : AH) : ACall Try.prog 100 [.int .u64 z] H (fun y H' => y = .int .i64 (unfold' z) ∧ H' = H) := by
 have h64 : (2 : Nat) ^ 64 = 18446744073709551616 := by decide
 refine zQ zU (dok _) Try.func100 rfl (by decide) rfl ?_
 (repeat' ((conv => whnf); first | refine Then.mk ?_ | refine OpsA.zD ?_ | refine OpsA.zE ?_ | refine AWq.zI ?_ | refine AWq.zB ?_ | refine AWq.ret ?_ | (intro c hc; (try (simp only [AH.zA] at hc; repeat (have hn := hc.1; replace hc := hc.2))); (first | subst hc)) | (apply And.intro; (first | rfl | omega)))) <;> (try (conv => whnf))
 refine ⟨congrArg (AV.int .i64) ?_, rfl⟩
 have e1 : (z : Int).fdiv (2 ^ min (Int.toNat 1) IntKind.u64.bits) = ((z / 2 : Nat) : Int) := by
  rw [show (2 : Int) ^ min (Int.toNat 1) IntKind.u64.bits = 2 by decide, Int.fdiv_eq_ediv_of_nonneg _ (by omega)]
  omega
 have e2 : bitsA .and .u64 (z : Int) 1 = ((z % 2 : Nat) : Int) := and_one z (by omega)
 have e3 : IntKind.i64.wrap ((z / 2 : Nat) : Int) = ((z / 2 : Nat) : Int) := by rw [IntKind.wrap_i64]; omega
 rw [e1, e2, e3]
 show IntKind.i64.wrap ((BitVec.ofInt 64 ((z / 2 : Nat) : Int) ^^^ BitVec.ofInt 64 _).toNat : Int) = _
 have ha : (BitVec.ofInt 64 ((z / 2 : Nat) : Int)).toNat = z / 2 := by rw [BitVec.toNat_ofInt]; omega
 unfold unfold'
 by_cases h : z % 2 = 1
 ·rw [h, if_neg (by decide), show BitVec.ofInt 64 (IntKind.i64.wrap (0 - IntKind.i64.wrap ((1 : Nat) : Int))) = BitVec.allOnes 64 by decide, BitVec.xor_allOnes, BitVec.toNat_not, ha, IntKind.wrap_i64]
  omega
 ·have h0 : z % 2 = 0 := by omega
  rw [h0, if_pos rfl, show BitVec.ofInt 64 (IntKind.i64.wrap (0 - IntKind.i64.wrap ((0 : Nat) : Int))) = 0#64 by decide, BitVec.xor_zero, ha, IntKind.wrap_i64]
  omega
theorem rdSt_none {b : List UInt8} {i : Nat} (h : rdSt b i = none) : ∀ d, rdSt b (i + d) = none
 | 0 => h
 | d + 1 => by
  show (match rdSt b (i + d) with | none => none | some (I, out) => _) = none
  rw [rdSt_none h d]
theorem rdSt_succ {b : List UInt8} {i : Nat} {I : Is} {out : List Int} (h : rdSt b i = some (I, out)) : rdSt b (i + 1) = match rdInt b I with | none => none | some (u, I') => some (I', out ++ [unfold' u]) := by
 conv => lhs; unfold rdSt
 rw [h]
 rfl
theorem rdBits_succ {b : List UInt8} {k u : Nat} {σ : Cs} : rdBits b (k + 1) (u, σ) = if atR b σ 2 < 2 then rdBits b k (u * 2 + atR b σ 2, stp σ (atR b σ 2) 1 2) else none := rfl
structure RL (H G : AH) (P Q : Nat → Nat) (d ic bc r : Nat) (b : List UInt8) (i : Nat) (I : Is) (out : List Int) : Prop where
 dc : DcAt H G P Q d ic bc 65 65 b I.E
 st : rdSt b i = some (I, out)
 w : G r = some (.row (iS .i64 out) i)
structure BL (H G : AH) (P Q : Nat → Nat) (d ic bc r : Nat) (b : List UInt8) (i : Nat) (out : List Int) (s : Nat) (E : Es) (m k u : Nat) (τ : Cs) (f : Bool) : Prop where
 dc : DcAt H G P Q d ic bc 65 65 b ⟨E.M, τ⟩
 w : G r = some (.row (iS .i64 out) i)
 cs : CsOk τ
 rd : RdOk b τ
 len : τ.L ≤ E.σ.L + 2 * k
 k1 : 1 ≤ k
 k2 : k ≤ 65
 yes : f = true → (k + m = s ∨ s = 0 ∧ k = 1 ∧ m = 0) ∧ u < 2 ^ k ∧ rdBits b m (u, τ) = rdBits b (s - 1) (min s 1, E.σ)
 no : f = false → rdBits b (s - 1) (min s 1, E.σ) = none
set_option maxRecDepth 8000 in
theorem readInts_c (b : List UInt8) (hbl : b.length ≤ 1000000000000) (count : Int) (hct : -9223372036854775808 ≤ count ∧ count ≤ 9223372036854775807) (H : AH) :
  ACall Try.prog 76 [.cs (u8s b) b.length, .int .i64 count] H (fun y H' => y = resI (readS b count) ∧ H' = H) := by
 refine ACall.fin ?_
 by_cases hlim : 0 ≤ count ∧ count ≤ 65536
 ·obtain ⟨count, rfl⟩ : ∃ k : Nat, count = (k : Int) := ⟨count.toNat, by omega⟩
  refine zQ zU (dok _) Try.func76 rfl (by decide) rfl ?_
  (repeat' ((conv => whnf); first | refine Then.mk ?_ | left | refine OpsA.zD ?_ | refine OpsA.zE ?_ | refine AWq.zI ?_ | refine AWq.zB ?_ | refine AWq.zG ?_ | refine AWq.zF ?_ | refine AWq.zH ?_ | refine AWq.ret ?_ | refine AWq.zK ?_ | refine AWq.zJ ?_ | (refine Both.mk ?_ ?_ <;> intro hc <;> (first | exact Bool.noConfusion hc | exact absurd (by assumption) hc | exact absurd hc (by assumption) | (exfalso; omega) | skip)) | (intro c hc; (try (simp only [AH.zA] at hc; repeat (have hn := hc.1; replace hc := hc.2))); (first | (have hc2 := Eq.trans hc (by with_reducible assumption); clear hc; subst hc2) | (refine zP hc ?_ ?_ ?_ ; omega; omega; (clear hc; intro hc; subst hc)) | skip)) | (apply Exists.intro; apply And.intro; (first | (focus (repeat (first | (with_reducible assumption))); done))) | (apply Exists.intro; apply And.intro; first | (with_reducible assumption) | ((try simp only [zW, z0z, zZ, zY]); first | (with_reducible assumption) | rfl)) | (apply And.intro; (first | rfl | (with_reducible assumption) | omega)))) <;> (try (conv => whnf))
  refine (alphabet_c 65 65 (by omega) (by omega) (by omega) (by omega) _).mono ?_
  rintro y H' ⟨P, Q, rfl, hmods, hle, hnew⟩
  have hpl : (psL P 65).length = 65 := psL_len _ _
  (repeat' ((conv => whnf); first | refine Then.mk ?_ | left | refine OpsA.zD ?_ | refine OpsA.zE ?_ | refine AWq.zI ?_ | refine AWq.zB ?_ | refine AWq.zG ?_ | refine AWq.zF ?_ | refine AWq.zH ?_ | refine AWq.ret ?_ | refine AWq.zK ?_ | refine AWq.zJ ?_ | (refine Both.mk ?_ ?_ <;> intro hc <;> (first | exact Bool.noConfusion hc | exact absurd (by assumption) hc | exact absurd hc (by assumption) | (exfalso; omega) | skip)) | (intro c hc; (try (simp only [AH.zA] at hc; repeat (have hn := hc.1; replace hc := hc.2))); (first | (have hc2 := Eq.trans hc (by with_reducible assumption); clear hc; subst hc2) | (refine zP hc ?_ ?_ ?_ ; omega; omega; (clear hc; intro hc; subst hc)) | skip)) | (apply Exists.intro; apply And.intro; (first | (focus (repeat (first | (with_reducible assumption))); done))) | (apply Exists.intro; apply And.intro; first | (with_reducible assumption) | ((try simp only [zW, z0z, zZ, zY]); first | (with_reducible assumption) | rfl)) | (apply And.intro; (first | rfl | (with_reducible assumption) | omega)))) <;> (try (conv => whnf))
  refine (k_read_c b hbl _).mono ?_
  rintro y G ⟨d, ic, bc, hd, hi, hb, rfl, hrd, hle2⟩
  have hdc : DcAt H G P Q d ic bc 65 65 b es0 := by
   refine ⟨hmods.same fun k hk => ⟨?_, ?_⟩, hrd, fun k hk => ⟨⟨(hmods.fresh hd hk).1, (hmods.fresh hi hk).1, (hmods.fresh hb hk).1⟩, (hmods.fresh hd hk).2, (hmods.fresh hi hk).2, (hmods.fresh hb hk).2⟩, hle.trans hle2, hnew, HLe.none hle hd, HLe.none hle hi⟩
   ·rw [(hmods.md k hk).hp]; exact hle2.le _ _ (hmods.md k hk).hp
   ·rw [(hmods.md k hk).hq]; exact hle2.le _ _ (hmods.md k hk).hq
  (repeat' ((conv => whnf); first | left | refine OpsA.zD ?_ | refine OpsA.zE ?_ | refine AWq.zI ?_ | refine AWq.zB ?_ | refine AWq.zG ?_ | refine AWq.zF ?_ | refine AWq.zH ?_ | refine AWq.ret ?_ | refine AWq.zK ?_ | refine AWq.zJ ?_ | (refine Both.mk ?_ ?_ <;> intro hc <;> (first | exact Bool.noConfusion hc | exact absurd (by assumption) hc | exact absurd hc (by assumption) | (exfalso; omega) | skip)) | (intro c hc; (try (simp only [AH.zA] at hc; repeat (have hn := hc.1; replace hc := hc.2))); (first | (have hc2 := Eq.trans hc (by with_reducible assumption); clear hc; subst hc2) | (refine zP hc ?_ ?_ ?_ ; omega; omega; (clear hc; intro hc; subst hc)) | skip)) | (apply Exists.intro; apply And.intro; (first | (focus (repeat (first | (with_reducible assumption))); done))) | (apply Exists.intro; apply And.intro; first | (with_reducible assumption) | ((try simp only [zW, z0z, zZ, zY]); first | (with_reducible assumption) | rfl)) | (apply And.intro; (first | rfl | (with_reducible assumption) | omega)))) <;> (try (conv => whnf))
  refine Then.mk ?_
  (repeat' ((conv => whnf); first | left | refine OpsA.zD ?_ | refine OpsA.zE ?_ | refine AWq.zI ?_ | refine AWq.zB ?_ | refine AWq.zG ?_ | refine AWq.zF ?_ | refine AWq.zH ?_ | refine AWq.ret ?_ | refine AWq.zK ?_ | refine AWq.zJ ?_ | (refine Both.mk ?_ ?_ <;> intro hc <;> (first | exact Bool.noConfusion hc | exact absurd (by assumption) hc | exact absurd hc (by assumption) | (exfalso; omega) | skip)) | (intro c hc; (try (simp only [AH.zA] at hc; repeat (have hn := hc.1; replace hc := hc.2))); (first | (have hc2 := Eq.trans hc (by with_reducible assumption); clear hc; subst hc2) | (refine zP hc ?_ ?_ ?_ ; omega; omega; (clear hc; intro hc; subst hc)) | skip)) | (apply Exists.intro; apply And.intro; (first | (focus (repeat (first | (with_reducible assumption))); done))) | (apply Exists.intro; apply And.intro; first | (with_reducible assumption) | ((try simp only [zW, z0z, zZ, zY]); first | (with_reducible assumption) | rfl)) | (apply And.intro; (first | rfl | (with_reducible assumption) | omega)))) <;> (try (conv => whnf))
  refine Then.mk (AWq.in ?_)
  refine AWp_nilrow1 9 1 rfl rfl fun r hr => ?_
  have hf := hdc.far hr
  have hH1 := HLe.none hdc.le hr
  refine AWp.of zU (dok _) rfl ?_
  (repeat' ((conv => whnf); first | refine Then.mk ?_ | left | refine OpsA.zD ?_ | refine OpsA.zE ?_ | refine AWq.zI ?_ | refine AWq.zB ?_ | refine AWq.zG ?_ | refine AWq.zF ?_ | refine AWq.zH ?_ | refine AWq.ret ?_ | refine AWq.zK ?_ | refine AWq.zJ ?_ | (refine Both.mk ?_ ?_ <;> intro hc <;> (first | exact Bool.noConfusion hc | exact absurd (by assumption) hc | exact absurd hc (by assumption) | (exfalso; omega) | skip)) | (intro c hc; (try (simp only [AH.zA] at hc; repeat (have hn := hc.1; replace hc := hc.2))); (first | (have hc2 := Eq.trans hc (by with_reducible assumption); clear hc; subst hc2) | (refine zP hc ?_ ?_ ?_ ; omega; omega; (clear hc; intro hc; subst hc)) | skip)) | (apply Exists.intro; apply And.intro; (first | (focus (repeat (first | (with_reducible assumption))); done))) | (apply Exists.intro; apply And.intro; first | (with_reducible assumption) | ((try simp only [zW, z0z, zZ, zY]); first | (with_reducible assumption) | rfl)) | (apply And.intro; (first | rfl | (with_reducible assumption) | omega)))) <;> (try (conv => whnf))
  refine zT (σ := AH × Nat × Is × List Int) (4 :: 5 :: 9 :: 10 :: 11 :: 12 :: 13 :: 14 :: 15 :: 31 :: 32 :: 33 :: 34 :: 35 :: 36 :: 37 :: 38 :: 39 :: 40 :: 41 :: 42 :: 43 :: 44 :: 45 :: 46 :: 47 :: 48 :: 49 :: 50 :: 51 :: 52 :: 53 :: 54 :: 55 :: 56 :: 57 :: 58 :: 59 :: 60 :: 61 :: 62 :: 63 :: 64 :: 65 :: 66 :: 67 :: 68 :: 69 :: 70 :: 71 :: 72 :: 73 :: 74 :: 75 :: []) (fun (G, i, I, out) => [(9, .sl r i 1 0 i none), (10, .int .i64 I.b), (31, .int .i64 i)]) (fun (G, i, I, out) => G) (fun (G, i, I, out) => i ≤ count ∧ RL H G P Q d ic bc r b i I out) (fun (G, i, I, out) => count - i) (_, 0, is0, []) rfl ?_ ?_ (HLe.refl _) ?_
  ·refine ⟨Nat.zero_le _, ⟨hdc.same (fun a ha => ?_) (HLe.set_of _ _ hdc.le hH1), rfl, AH.zC _ _ _⟩⟩
   rw [AH.zR _ _ (hf.ne ha)]
  ·exact ⟨rfl, rfl, rfl, trivial⟩
  ·clear hdc hr hrd hle2 hmods hle
   rintro ⟨G, i, I, out⟩ ⟨hi, hdc, hst, hw⟩
   dsimp only at hi hdc hst hw ⊢
   refine AWp.of zU (dok _) rfl ?_
   have hok := rdSt_ok hst
   have hl := hok.len
   have hL : I.E.σ.L ≤ 130 * 65536 := by
    have := intsI_L (out.map fold) (I := is0) (fold_all hok.bd) is0_ok
    rw [hok.run] at this
    have h0 : is0.E.σ.L = 0 := rfl
    rw [h0, List.length_map] at this
    omega
   have ho1 : (iS .i64 out).length = i := by simp [hl]
   have hb64 := hok.is.b
   by_cases hic : i < count
   ·have hnx := rdSt_succ hst
    have herr : rdSt b (i + 1) = none → readS b count = ([], 2) := fun he => by
     have := rdSt_none he (count - (i + 1))
     rw [show i + 1 + (count - (i + 1)) = count by omega] at this
     unfold readS
     rw [if_pos hlim, Int.toNat_natCast, this]
    have hgp : (psL P 65)[(I.b : Int).toNat]? = some (.ptr (P I.b) 0 0) := psL_get (by omega)
    cases hds : decSym 65 b I.E I.b with
    | none =>
     have hsym := hdc.symbol_bad hok.is.es hok.rd (by omega) (by omega) hds
     have hri : rdInt b I = none := by unfold rdInt; rw [hds]
     rw [hri] at hnx
     rw [herr hnx]
     have e1 : IntKind.u64.wrap 0 = 0 := by decide
     have e2 : min (0 : Int) 1 = 0 := by decide
     (repeat' ((conv => whnf); first | refine Then.mk ?_ | left | refine OpsA.zD ?_ | refine OpsA.zE ?_ | refine AWq.zI ?_ | refine AWq.zB ?_ | refine AWq.zG ?_ | refine AWq.zF ?_ | refine AWq.zH ?_ | refine AWq.ret ?_ | refine AWq.zK ?_ | refine AWq.zJ ?_ | (refine Both.mk ?_ ?_ <;> intro hc <;> (first | exact Bool.noConfusion hc | exact absurd (by assumption) hc | exact absurd hc (by assumption) | (exfalso; omega) | skip)) | (intro c hc; (try (simp only [AH.zA] at hc; repeat (have hn := hc.1; replace hc := hc.2))); (first | (have hc2 := Eq.trans hc (by with_reducible assumption); clear hc; subst hc2) | (refine zP hc ?_ ?_ ?_ ; omega; omega; (clear hc; intro hc; subst hc)) | skip)) | (apply Exists.intro; apply And.intro; (first | (focus (repeat (first | (with_reducible assumption))); done))) | (apply Exists.intro; apply And.intro; first | (with_reducible assumption) | ((try simp only [zW, z0z, zZ, zY]); first | (with_reducible assumption) | rfl)) | (apply And.intro; (first | rfl | (with_reducible assumption) | omega)) | (refine ACall.to (hsym) ?_))) <;> (try (conv => whnf))
     refine zT (σ := Unit) (12 :: 13 :: 14 :: 15 :: 45 :: 46 :: 47 :: 48 :: 49 :: 50 :: 51 :: 52 :: 53 :: 54 :: 55 :: 56 :: 57 :: 58 :: 59 :: 60 :: 61 :: 62 :: 63 :: 64 :: 65 :: 66 :: []) (fun _ => [(12, .bool false), (14, .int .i64 1)]) (fun _ => G) (fun _ => True) (fun _ => 0) () rfl trivial ⟨rfl, rfl, trivial⟩ (HLe.refl _) ?_
     rintro _ _
     refine AWp.of zU (dok _) rfl ?_
     dsimp only
     (repeat' ((conv => whnf); first | refine Then.mk ?_ | left | refine OpsA.zD ?_ | refine OpsA.zE ?_ | refine AWq.zI ?_ | refine AWq.zB ?_ | refine AWq.zG ?_ | refine AWq.zF ?_ | refine AWq.zH ?_ | refine AWq.ret ?_ | refine AWq.zK ?_ | refine AWq.zJ ?_ | (refine Both.mk ?_ ?_ <;> intro hc <;> (first | exact Bool.noConfusion hc | exact absurd (by assumption) hc | exact absurd hc (by assumption) | (exfalso; omega) | skip)) | (intro c hc; (try (simp only [AH.zA] at hc; repeat (have hn := hc.1; replace hc := hc.2))); (first | (have hc2 := Eq.trans hc (by with_reducible assumption); clear hc; subst hc2) | (refine zP hc ?_ ?_ ?_ ; omega; omega; (clear hc; intro hc; subst hc)) | skip)) | (apply Exists.intro; apply And.intro; (first | (focus (repeat (first | (with_reducible assumption))); done))) | (apply Exists.intro; apply And.intro; first | (with_reducible assumption) | ((try simp only [zW, z0z, zZ, zY]); first | (with_reducible assumption) | rfl)) | (apply And.intro; (first | rfl | (with_reducible assumption) | omega)))) <;> (try (conv => whnf))
     exact ⟨AVle.errI, hdc.le⟩
    | some x =>
     obtain ⟨s, E'⟩ := x
     have hsym := hdc.symbol hok.is.es hok.rd (by omega) hbl (by omega) hds
     obtain ⟨hs1, hs2, hs3⟩ := decSym_ok hok.is.es hok.rd hds
     have hdc2 := hdc.sym (k := I.b) (by omega) hs1
     rw [← hs2] at hdc2
     have w1' : deG G P Q d ic bc 65 b I.E I.b s r = some (.row (iS .i64 out) i) := by rw [hf.deG (by omega)]; exact hw
     have hE' := hok.is.es.sym I.b hs1
     rw [← hs2] at hE'
     have hL2 : E'.σ.L ≤ I.E.σ.L + 2 := by rw [hs2]; exact stp_L hok.is.es.cs (hok.is.es.st I.b hs1)
     generalize deG G P Q d ic bc 65 b I.E I.b s = G2 at *
     have e1 : IntKind.u64.wrap (s : Int) = s := by rw [wrap_u64']; omega
     have e2 : min (s : Int) 1 = (min s 1 : Nat) := by omega
     (repeat' ((conv => whnf); first | refine Then.mk ?_ | left | refine OpsA.zD ?_ | refine OpsA.zE ?_ | refine AWq.zI ?_ | refine AWq.zB ?_ | refine AWq.zG ?_ | refine AWq.zF ?_ | refine AWq.zH ?_ | refine AWq.ret ?_ | refine AWq.zK ?_ | refine AWq.zJ ?_ | (refine Both.mk ?_ ?_ <;> intro hc <;> (first | exact Bool.noConfusion hc | exact absurd (by assumption) hc | exact absurd hc (by assumption) | (exfalso; omega) | skip)) | (intro c hc; (try (simp only [AH.zA] at hc; repeat (have hn := hc.1; replace hc := hc.2))); (first | (have hc2 := Eq.trans hc (by with_reducible assumption); clear hc; subst hc2) | (refine zP hc ?_ ?_ ?_ ; omega; omega; (clear hc; intro hc; subst hc)) | skip)) | (apply Exists.intro; apply And.intro; (first | (focus (repeat (first | (with_reducible assumption))); done))) | (apply Exists.intro; apply And.intro; first | (with_reducible assumption) | ((try simp only [zW, z0z, zZ, zY]); first | (with_reducible assumption) | rfl)) | (apply And.intro; (first | rfl | (with_reducible assumption) | omega)) | (refine ACall.to (hsym) ?_))) <;> (try (conv => whnf))
     have hri : rdInt b I = match rdBits b (s - 1) (min s 1, E'.σ) with | none => none | some (u, σ) => some (u, ⟨⟨E'.M, σ⟩, s⟩) := by
      conv => lhs; unfold rdInt
      rw [hds]
      rfl
     refine zT (σ := AH × Nat × Nat × Nat × Cs × Bool) (12 :: 13 :: 14 :: 15 :: 45 :: 46 :: 47 :: 48 :: 49 :: 50 :: 51 :: 52 :: 53 :: 54 :: 55 :: 56 :: 57 :: 58 :: 59 :: 60 :: 61 :: 62 :: 63 :: 64 :: 65 :: 66 :: []) (fun (G, m, k, u, τ, f) => [(12, .bool f), (13, .int .u64 u), (14, .int .i64 k)]) (fun (G, m, k, u, τ, f) => G) (fun (G, m, k, u, τ, f) => BL H G P Q d ic bc r b i out s E' m k u τ f) (fun (G, m, k, u, τ, f) => 66 - k) (G2, s - 1, 1, min s 1, E'.σ, true) rfl ?_ ⟨rfl, rfl, rfl, trivial⟩ (HLe.refl _) ?_
     ·refine ⟨hdc2, w1', hE'.cs, hs3, by omega, by omega, by omega, fun _ => ⟨by omega, by omega, rfl⟩, fun h => by cases h⟩
     ·rintro ⟨G3, m, k, u, τ, f⟩ ⟨c1, c2, c3, c4, c5, c6, c7, c8, c9⟩
      refine AWp.of zU (dok _) rfl ?_
      dsimp only at c1 c2 c3 c4 c5 c6 c7 c8 c9 ⊢
      cases f with
      | false =>
       have hb0 := c9 rfl
       rw [hb0] at hri
       rw [hri] at hnx
       rw [herr hnx]
       by_cases hks : k < s
       ·(repeat' ((conv => whnf); first | refine Then.mk ?_ | left | refine OpsA.zD ?_ | refine OpsA.zE ?_ | refine AWq.zI ?_ | refine AWq.zB ?_ | refine AWq.zG ?_ | refine AWq.zF ?_ | refine AWq.zH ?_ | refine AWq.ret ?_ | refine AWq.zK ?_ | refine AWq.zJ ?_ | (refine Both.mk ?_ ?_ <;> intro hc <;> (first | exact Bool.noConfusion hc | exact absurd (by assumption) hc | exact absurd hc (by assumption) | (exfalso; omega) | skip)) | (intro c hc; (try (simp only [AH.zA] at hc; repeat (have hn := hc.1; replace hc := hc.2))); (first | (have hc2 := Eq.trans hc (by with_reducible assumption); clear hc; subst hc2) | (refine zP hc ?_ ?_ ?_ ; omega; omega; (clear hc; intro hc; subst hc)) | skip)) | (apply Exists.intro; apply And.intro; (first | (focus (repeat (first | (with_reducible assumption))); done))) | (apply Exists.intro; apply And.intro; first | (with_reducible assumption) | ((try simp only [zW, z0z, zZ, zY]); first | (with_reducible assumption) | rfl)) | (apply And.intro; (first | rfl | (with_reducible assumption) | omega)))) <;> (try (conv => whnf))
        exact ⟨AVle.errI, c1.le⟩
       ·(repeat' ((conv => whnf); first | refine Then.mk ?_ | left | refine OpsA.zD ?_ | refine OpsA.zE ?_ | refine AWq.zI ?_ | refine AWq.zB ?_ | refine AWq.zG ?_ | refine AWq.zF ?_ | refine AWq.zH ?_ | refine AWq.ret ?_ | refine AWq.zK ?_ | refine AWq.zJ ?_ | (refine Both.mk ?_ ?_ <;> intro hc <;> (first | exact Bool.noConfusion hc | exact absurd (by assumption) hc | exact absurd hc (by assumption) | (exfalso; omega) | skip)) | (intro c hc; (try (simp only [AH.zA] at hc; repeat (have hn := hc.1; replace hc := hc.2))); (first | (have hc2 := Eq.trans hc (by with_reducible assumption); clear hc; subst hc2) | (refine zP hc ?_ ?_ ?_ ; omega; omega; (clear hc; intro hc; subst hc)) | skip)) | (apply Exists.intro; apply And.intro; (first | (focus (repeat (first | (with_reducible assumption))); done))) | (apply Exists.intro; apply And.intro; first | (with_reducible assumption) | ((try simp only [zW, z0z, zZ, zY]); first | (with_reducible assumption) | rfl)) | (apply And.intro; (first | rfl | (with_reducible assumption) | omega)))) <;> (try (conv => whnf))
        exact ⟨AVle.errI, c1.le⟩
      | true =>
       obtain ⟨d1, d2, d3⟩ := c8 rfl
       by_cases hks : k < s
       ·obtain ⟨m, rfl⟩ : ∃ m', m = m' + 1 := ⟨m - 1, by omega⟩
        have hat := at_c c1.rd c4 c3 2 (by decide) (by decide)
        rw [rdBits_succ] at d3
        have hat : ACall Try.prog 98 [.ptr d 0 0, .int .i64 2] G3 (fun y H' => y = .tup [.int .i64 (min (atR b τ 2) 2 : Nat), .bool (decide (atR b τ 2 < 2))] ∧ H' = G3) := hat
        by_cases hA : atR b τ 2 < 2
        ·rw [if_pos hA] at d3
         rw [decide_eq_true hA, Nat.min_eq_left (by omega)] at hat
         have hst2 : StOk (atR b τ 2) 1 2 := ⟨by omega, by omega, by omega⟩
         have hstep : ACall Try.prog 99 [.ptr d 0 0, .int .i64 (atR b τ 2 : Nat), .int .i64 1, .int .i64 2] G3 (fun y H' => y = .tup [] ∧ H' = rdG G3 d ic bc b (stp τ (atR b τ 2) 1 2)) := k_rstep_c c1.rd c4 c3 hst2 (Nat.le_refl _) (Nat.lt_succ_self _) (show τ.L ≤ _ by omega) hbl
         have n1 := c1.step (stp τ (atR b τ 2) 1 2)
         have n3 := stp_ok c3 hst2
         have n4 := (c4.step c3 hst2 (Nat.le_refl _) (Nat.lt_succ_self _)).1
         have n5 := stp_L c3 hst2
         have n2 : rdG G3 d ic bc b (stp τ (atR b τ 2) 1 2) r = some (.row (iS .i64 out) i) := by rw [rdG_ne hf.2.1 hf.2.2.1]; exact c2
         generalize stp τ (atR b τ 2) 1 2 = υ at *
         generalize atR b τ 2 = x at *
         generalize rdG G3 d ic bc b υ = G4 at *
         have p64 : u < 2 ^ 63 := Nat.lt_of_lt_of_le d2 (Nat.pow_le_pow_right (by decide) (by omega))
         have p2 : (2 : Nat) ^ (k + 1) = 2 ^ k * 2 := Nat.pow_succ _ _
         have s3 : IntKind.u64.wrap ((u : Int) * 2 ^ min (Int.toNat 1) IntKind.u64.bits) = (u * 2 : Nat) := by
          rw [show (2 : Int) ^ min (Int.toNat 1) IntKind.u64.bits = 2 by decide, wrap_u64']; omega
         have s4 : IntKind.u64.wrap (((u * 2 : Nat) : Int) + x) = (u * 2 + x : Nat) := by rw [wrap_u64']; omega
         have s5 : IntKind.u64.wrap (x : Int) = x := by rw [wrap_u64']; omega
         (repeat' ((conv => whnf); first | refine Then.mk ?_ | left | refine OpsA.zD ?_ | refine OpsA.zE ?_ | refine AWq.zI ?_ | refine AWq.zB ?_ | refine AWq.zG ?_ | refine AWq.zF ?_ | refine AWq.zH ?_ | refine AWq.ret ?_ | refine AWq.zK ?_ | refine AWq.zJ ?_ | (refine Both.mk ?_ ?_ <;> intro hc <;> (first | exact Bool.noConfusion hc | exact absurd (by assumption) hc | exact absurd hc (by assumption) | (exfalso; omega) | skip)) | (intro c hc; (try (simp only [AH.zA] at hc; repeat (have hn := hc.1; replace hc := hc.2))); (first | (have hc2 := Eq.trans hc (by with_reducible assumption); clear hc; subst hc2) | (refine zP hc ?_ ?_ ?_ ; omega; omega; (clear hc; intro hc; subst hc)) | skip)) | (apply Exists.intro; apply And.intro; (first | (focus (repeat (first | (with_reducible assumption))); done))) | (apply Exists.intro; apply And.intro; first | (with_reducible assumption) | ((try simp only [zW, z0z, zZ, zY]); first | (with_reducible assumption) | rfl)) | (apply And.intro; (first | rfl | (with_reducible assumption) | omega)) | (refine ACall.to (hat) ?_) | (refine ACall.to (hstep) ?_))) <;> (try (conv => whnf))
         refine ⟨(G4, m, k + 1, u * 2 + x, υ, true), (show BL H G4 P Q d ic bc r b i out s E' m (k + 1) (u * 2 + x) υ true from ⟨n1, n2, n3, n4, by omega, by omega, by omega, fun _ => ⟨by omega, by omega, d3⟩, fun h => by cases h⟩), ?_, ⟨rfl, rfl, congrArg (AV.int .i64) ?_, trivial⟩, HLe.refl _⟩
         ·show 66 - (k + 1) < 66 - k
          omega
         ·show (k : Int) + 1 = (k + 1 : Nat)
          omega
        ·rw [if_neg hA] at d3
         rw [decide_eq_false hA] at hat
         (repeat' ((conv => whnf); first | refine Then.mk ?_ | left | refine OpsA.zD ?_ | refine OpsA.zE ?_ | refine AWq.zI ?_ | refine AWq.zB ?_ | refine AWq.zG ?_ | refine AWq.zF ?_ | refine AWq.zH ?_ | refine AWq.ret ?_ | refine AWq.zK ?_ | refine AWq.zJ ?_ | (refine Both.mk ?_ ?_ <;> intro hc <;> (first | exact Bool.noConfusion hc | exact absurd (by assumption) hc | exact absurd hc (by assumption) | (exfalso; omega) | skip)) | (intro c hc; (try (simp only [AH.zA] at hc; repeat (have hn := hc.1; replace hc := hc.2))); (first | (have hc2 := Eq.trans hc (by with_reducible assumption); clear hc; subst hc2) | (refine zP hc ?_ ?_ ?_ ; omega; omega; (clear hc; intro hc; subst hc)) | skip)) | (apply Exists.intro; apply And.intro; (first | (focus (repeat (first | (with_reducible assumption))); done))) | (apply Exists.intro; apply And.intro; first | (with_reducible assumption) | ((try simp only [zW, z0z, zZ, zY]); first | (with_reducible assumption) | rfl)) | (apply And.intro; (first | rfl | (with_reducible assumption) | omega)) | (refine ACall.to (hat) ?_))) <;> (try (conv => whnf))
         refine ⟨(G3, 0, k + 1, u, τ, false), (show BL H G3 P Q d ic bc r b i out s E' 0 (k + 1) u τ false from ⟨c1, c2, c3, c4, by omega, by omega, by omega, (fun h => by cases h), fun _ => d3.symm⟩), ?_, ⟨rfl, rfl, congrArg (AV.int .i64) ?_, trivial⟩, HLe.refl _⟩
         ·show 66 - (k + 1) < 66 - k
          omega
         ·show (k : Int) + 1 = (k + 1 : Nat)
          omega
       ·have hm0 : m = 0 := by omega
        subst hm0
        have hb1 : rdBits b (s - 1) (min s 1, E'.σ) = some (u, τ) := d3.symm
        rw [hb1] at hri
        rw [hri] at hnx
        have hnx : rdSt b (i + 1) = some (⟨⟨E'.M, τ⟩, s⟩, out ++ [unfold' u]) := hnx
        have hu : u < 2 ^ 64 := Nat.lt_of_lt_of_le d2 (Nat.pow_le_pow_right (by decide) (by omega))
        have hunf := fun H => unfold_c u hu H
        have hub := unfold_bd hu
        generalize unfold' u = z at *
        (repeat' ((conv => whnf); first | refine Then.mk ?_ | left | refine OpsA.zD ?_ | refine OpsA.zE ?_ | refine AWq.zI ?_ | refine AWq.zB ?_ | refine AWq.zG ?_ | refine AWq.zF ?_ | refine AWq.zH ?_ | refine AWq.ret ?_ | refine AWq.zK ?_ | refine AWq.zJ ?_ | (refine Both.mk ?_ ?_ <;> intro hc <;> (first | exact Bool.noConfusion hc | exact absurd (by assumption) hc | exact absurd hc (by assumption) | (exfalso; omega) | skip)) | (intro c hc; (try (simp only [AH.zA] at hc; repeat (have hn := hc.1; replace hc := hc.2))); (first | (have hc2 := Eq.trans hc (by with_reducible assumption); clear hc; subst hc2) | (refine zP hc ?_ ?_ ?_ ; omega; omega; (clear hc; intro hc; subst hc)) | skip)) | (apply Exists.intro; apply And.intro; (first | (focus (repeat (first | (with_reducible assumption))); done))) | (apply Exists.intro; apply And.intro; first | (with_reducible assumption) | ((try simp only [zW, z0z, zZ, zY]); first | (with_reducible assumption) | rfl)) | (apply And.intro; (first | rfl | (with_reducible assumption) | omega)) | (refine ACall.to (hunf _) ?_))) <;> (try (conv => whnf))
        refine ⟨(G3.set r (.row (iS .i64 out ++ [.int .i64 z]) (i + 1)), i + 1, ⟨⟨E'.M, τ⟩, s⟩, out ++ [z]), ⟨hic, ⟨c1.same (fun a ha => ?_) (HLe.set_of _ _ c1.le hH1), hnx, ?_⟩⟩, ?_, ⟨rfl, rfl, congrArg (AV.int .i64) ?_, trivial⟩, HLe.refl _⟩
        ·dsimp only
         rw [AH.zR _ _ (hf.ne ha)]
        ·dsimp only
         rw [AH.zC, iS_snoc]
        ·show count - (i + 1) < count - i
         omega
        ·show (i : Int) + 1 = (i + 1 : Nat)
         omega
   ·have hie : i = count := by omega
    have hdec : readS b count = if (intsS out).1 = b then (out, 0) else ([], 2) := by
     unfold readS
     rw [if_pos hlim, Int.toNat_natCast, ← hie, hst]
    have henc := fun H => cInts_c out hok.bd (by omega) H
    have hxr : ∀ x : List UInt8 × Int, k_resV x = .tup [.cs (u8s x.1) x.1.length, .int .i64 x.2] := fun _ => rfl
    simp only [hl, hxr] at henc
    rw [hdec]
    have hfin : HLe H (G.del r) := HLe.del _ hdc.le hH1
    generalize intsS out = x at *
    have heq := fun H => equal_c x.1 b hbl H
    subst hie
    (repeat' ((conv => whnf); first | left | refine OpsA.zD ?_ | refine OpsA.zE ?_ | refine AWq.zI ?_ | refine AWq.zB ?_ | refine AWq.zG ?_ | refine AWq.zF ?_ | refine AWq.zH ?_ | refine AWq.ret ?_ | refine AWq.zK ?_ | refine AWq.zJ ?_ | (refine Both.mk ?_ ?_ <;> intro hc <;> (first | exact Bool.noConfusion hc | exact absurd (by assumption) hc | exact absurd hc (by assumption) | (exfalso; omega) | skip)) | (intro c hc; (try (simp only [AH.zA] at hc; repeat (have hn := hc.1; replace hc := hc.2))); (first | (have hc2 := Eq.trans hc (by with_reducible assumption); clear hc; subst hc2) | (refine zP hc ?_ ?_ ?_ ; omega; omega; (clear hc; intro hc; subst hc)) | skip)) | (apply Exists.intro; apply And.intro; (first | (focus (repeat (first | (with_reducible assumption))); done))) | (apply Exists.intro; apply And.intro; first | (with_reducible assumption) | ((try simp only [zW, z0z, zZ, zY]); first | (with_reducible assumption) | rfl)) | (apply And.intro; (first | rfl | (with_reducible assumption) | omega)))) <;> (try (conv => whnf))
    refine Then.mk (AWq.in ?_)
    refine AWp_freeze1 (r := r) (v := i) (es := 1) (n := i) (lim := none) (cells := iS .i64 out) 9 rfl rfl hw (by omega) ?_
    refine AWp.of zU (dok _) rfl ?_
    by_cases hxb : x.1 = b
    ·rw [if_pos hxb]
     rw [decide_eq_true hxb] at heq
     (repeat' ((conv => whnf); first | refine Then.mk ?_ | left | refine OpsA.zD ?_ | refine OpsA.zE ?_ | refine AWq.zI ?_ | refine AWq.zB ?_ | refine AWq.zG ?_ | refine AWq.zF ?_ | refine AWq.zH ?_ | refine AWq.ret ?_ | refine AWq.zK ?_ | refine AWq.zJ ?_ | (refine Both.mk ?_ ?_ <;> intro hc <;> (first | exact Bool.noConfusion hc | exact absurd (by assumption) hc | exact absurd hc (by assumption) | (exfalso; omega) | skip)) | (intro c hc; (try (simp only [AH.zA] at hc; repeat (have hn := hc.1; replace hc := hc.2))); (first | (have hc2 := Eq.trans hc (by with_reducible assumption); clear hc; subst hc2) | (refine zP hc ?_ ?_ ?_ ; omega; omega; (clear hc; intro hc; subst hc)) | skip)) | (apply Exists.intro; apply And.intro; (first | (focus (repeat (first | (with_reducible assumption))); done))) | (apply Exists.intro; apply And.intro; first | (with_reducible assumption) | ((try simp only [zW, z0z, zZ, zY]); first | (with_reducible assumption) | rfl)) | (apply And.intro; (first | rfl | (with_reducible assumption) | omega)) | (refine ACall.to (henc _) ?_) | (refine ACall.to (heq _) ?_))) <;> (try (conv => whnf))
     refine ⟨?_, hfin⟩
     unfold resI
     dsimp only
     rw [hl]
     exact AVle.refl _
    ·rw [if_neg hxb]
     rw [decide_eq_false hxb] at heq
     (repeat' ((conv => whnf); first | refine Then.mk ?_ | left | refine OpsA.zD ?_ | refine OpsA.zE ?_ | refine AWq.zI ?_ | refine AWq.zB ?_ | refine AWq.zG ?_ | refine AWq.zF ?_ | refine AWq.zH ?_ | refine AWq.ret ?_ | refine AWq.zK ?_ | refine AWq.zJ ?_ | (refine Both.mk ?_ ?_ <;> intro hc <;> (first | exact Bool.noConfusion hc | exact absurd (by assumption) hc | exact absurd hc (by assumption) | (exfalso; omega) | skip)) | (intro c hc; (try (simp only [AH.zA] at hc; repeat (have hn := hc.1; replace hc := hc.2))); (first | (have hc2 := Eq.trans hc (by with_reducible assumption); clear hc; subst hc2) | (refine zP hc ?_ ?_ ?_ ; omega; omega; (clear hc; intro hc; subst hc)) | skip)) | (apply Exists.intro; apply And.intro; (first | (focus (repeat (first | (with_reducible assumption))); done))) | (apply Exists.intro; apply And.intro; first | (with_reducible assumption) | ((try simp only [zW, z0z, zZ, zY]); first | (with_reducible assumption) | rfl)) | (apply And.intro; (first | rfl | (with_reducible assumption) | omega)) | (refine ACall.to (henc _) ?_) | (refine ACall.to (heq _) ?_))) <;> (try (conv => whnf))
     exact ⟨AVle.errI, hfin⟩
 ·have he : readS b count = ([], 4) := if_neg hlim
  rw [he]
  refine zQ zU (dok _) Try.func76 rfl (by decide) rfl ?_
  by_cases h0 : count < 0
  ·(repeat' ((conv => whnf); first | refine Then.mk ?_ | left | refine OpsA.zD ?_ | refine OpsA.zE ?_ | refine AWq.zI ?_ | refine AWq.zB ?_ | refine AWq.zG ?_ | refine AWq.zF ?_ | refine AWq.zH ?_ | refine AWq.ret ?_ | refine AWq.zK ?_ | refine AWq.zJ ?_ | (refine Both.mk ?_ ?_ <;> intro hc <;> (first | exact Bool.noConfusion hc | exact absurd (by assumption) hc | exact absurd hc (by assumption) | (exfalso; omega) | skip)) | (intro c hc; (try (simp only [AH.zA] at hc; repeat (have hn := hc.1; replace hc := hc.2))); (first | (have hc2 := Eq.trans hc (by with_reducible assumption); clear hc; subst hc2) | (refine zP hc ?_ ?_ ?_ ; omega; omega; (clear hc; intro hc; subst hc)) | skip)) | (apply Exists.intro; apply And.intro; (first | (focus (repeat (first | (with_reducible assumption))); done))) | (apply Exists.intro; apply And.intro; first | (with_reducible assumption) | ((try simp only [zW, z0z, zZ, zY]); first | (with_reducible assumption) | rfl)) | (apply And.intro; (first | rfl | (with_reducible assumption) | omega)))) <;> (try (conv => whnf))
   exact ⟨AVle.errI, HLe.refl _⟩
  ·(repeat' ((conv => whnf); first | refine Then.mk ?_ | left | refine OpsA.zD ?_ | refine OpsA.zE ?_ | refine AWq.zI ?_ | refine AWq.zB ?_ | refine AWq.zG ?_ | refine AWq.zF ?_ | refine AWq.zH ?_ | refine AWq.ret ?_ | refine AWq.zK ?_ | refine AWq.zJ ?_ | (refine Both.mk ?_ ?_ <;> intro hc <;> (first | exact Bool.noConfusion hc | exact absurd (by assumption) hc | exact absurd hc (by assumption) | (exfalso; omega) | skip)) | (intro c hc; (try (simp only [AH.zA] at hc; repeat (have hn := hc.1; replace hc := hc.2))); (first | (have hc2 := Eq.trans hc (by with_reducible assumption); clear hc; subst hc2) | (refine zP hc ?_ ?_ ?_ ; omega; omega; (clear hc; intro hc; subst hc)) | skip)) | (apply Exists.intro; apply And.intro; (first | (focus (repeat (first | (with_reducible assumption))); done))) | (apply Exists.intro; apply And.intro; first | (with_reducible assumption) | ((try simp only [zW, z0z, zZ, zY]); first | (with_reducible assumption) | rfl)) | (apply And.intro; (first | rfl | (with_reducible assumption) | omega)))) <;> (try (conv => whnf))
   exact ⟨AVle.errI, HLe.refl _⟩
open Go.Fw Go
def symK (l : List Int) (i : Nat) : Nat :=
 if 1 < l.length ∧ aro (l.getD 0 0) 2 = 0 ∧ 0 < aro (l.getD i 0) 1000000 % 5 then 7 * (aro (l.getD i 0) 1000000 % 2) else aro (l.getD i 0) 1000000
def symL (n : Nat) (l : List Int) (most : Nat) : List Int := (List.range (min l.length most)).map fun i => ((symK l i / 2 % n : Nat) : Int)
@[simp] theorem symL_len (n : Nat) (l : List Int) (most : Nat) : (symL n l most).length = min l.length most := by simp [symL]
open Go.Fw Go
theorem code_len (σ : Cs) : (codeS σ).length ≤ σ.L + 4 := by
 unfold codeS trim
 rw [List.length_take, dig_len]
 omega
open Go.Fw Go
abbrev RS := Int × List UInt8
def canon (e : Int) (b : List UInt8) : RS := (e, if e = 0 then b else [])
def rdU (s : RS) : Nat × RS := if s.1 ≠ 0 then (0, (s.1, [])) else match rdN 0 0 s.2 with
 | .ok (n, r) => (n, (0, r))
 | .error e => (0, (e, []))
def rdI (s : RS) : Int × RS := (unzz (rdU s).1, (rdU s).2)
def rdLen (s : RS) : Nat × RS := if (rdU s).2.1 = 0 ∧ (rdU s).2.2.length < (rdU s).1 then (0, (3, [])) else rdU s
def rdRaw (s : RS) : List UInt8 × RS := if (rdLen s).2.1 ≠ 0 then ([], (rdLen s).2) else ((rdLen s).2.2.take (rdLen s).1, (0, (rdLen s).2.2.drop (rdLen s).1))
def endE (s : RS) : Int := if s.1 = 0 ∧ s.2 ≠ [] then 2 else s.1
theorem canon_ok (b : List UInt8) : canon 0 b = (0, b) := by unfold canon; simp
theorem canon_err {e : Int} (b : List UInt8) (h : e ≠ 0) : canon e b = (e, []) := by unfold canon; simp [h]
structure V where
 kind : Nat
 u : Nat
 n : Int
 b : List UInt8
 l : List Int
def encI (n : Int) : List UInt8 := encN (zz n)
def encR (b : List UInt8) : List UInt8 := encN b.length ++ b
def encIs (l : List Int) : List UInt8 := l.flatMap encI
def encL (l : List Int) : List UInt8 := encN l.length ++ encIs l
def encB (b : Bool) : List UInt8 := if b then [1] else [0]
def encV (v : V) : List UInt8 :=
 if v.kind = 0 then encN v.u else if v.kind = 1 then encI v.n else if v.kind = 2 then encB (decide (v.n = 1)) else if v.kind = 3 ∨ v.kind = 4 then encR v.b else encL v.l
def encVs (l : List V) : List UInt8 := l.flatMap encV
def I64 (n : Int) : Prop := -9223372036854775808 ≤ n ∧ n ≤ 9223372036854775807
structure VOk (v : V) : Prop where
 k : v.kind ≤ 5
 u : v.u < 2 ^ 64
 u0 : v.kind ≠ 0 → v.u = 0
 n : I64 v.n
 n0 : v.kind ≠ 1 → v.kind ≠ 2 → v.n = 0
 n2 : v.kind = 2 → v.n = 0 ∨ v.n = 1
 b : v.b.length < 2 ^ 40
 b0 : v.kind ≠ 3 → v.kind ≠ 4 → v.b = []
 l : ∀ x ∈ v.l, I64 x
 ll : v.l.length < 2 ^ 40
 l0 : v.kind ≠ 5 → v.l = []
theorem rdU_enc {n : Nat} (h : n < 2 ^ 64) (r : List UInt8) : rdU (0, encN n ++ r) = (n, (0, r)) := by
 unfold rdU
 have := rdN_enc n 0 0 r (by omega) (by omega) (by omega)
 simp [this]
theorem rdI_enc {n : Int} (h : I64 n) (r : List UInt8) : rdI (0, encI n ++ r) = (n, (0, r)) := by
 unfold rdI encI
 rw [rdU_enc (zz_lt h.1 h.2), unzz_zz]
theorem rdRaw_enc {b : List UInt8} (h : b.length < 2 ^ 40) (r : List UInt8) : rdRaw (0, encR b ++ r) = (b, (0, r)) := by
 have e : rdLen (0, encR b ++ r) = (b.length, (0, b ++ r)) := by
  unfold rdLen encR
  rw [List.append_assoc, rdU_enc (by omega), if_neg (by simp)]
 unfold rdRaw
 rw [e]
 simp
open Go.Fw Go
set_option maxRecDepth 8000 in
theorem zigzag_c (n : Int) (h1 : -9223372036854775808 ≤ n) (h2 : n ≤ 9223372036854775807) (H : AH) : ACall Try.prog 45 [.int .i64 n] H (fun y H' => y = .int .u64 (zz n) ∧ H' = H) := by
 rw [← zz_wire h1 h2]
 refine zQ zU (dok _) Try.func45 rfl (by decide) rfl ?_
 (repeat' ((conv => whnf); first | refine Then.mk ?_ | refine OpsA.zD ?_ | refine OpsA.zE ?_ | refine AWq.zI ?_ | refine AWq.zB ?_ | refine AWq.ret ?_ | (intro c hc; (try (simp only [AH.zA] at hc; repeat (have hn := hc.1; replace hc := hc.2))); (first | subst hc)) | (apply And.intro; (first | rfl | omega)))) <;> (try (conv => whnf))
theorem or128 {m : Nat} (h : m < 2 ^ 64) : bitsA .or .u8 (IntKind.u8.wrap (m : Int)) 128 = ((UInt8.ofNat (m % 128 + 128)).toNat : Int) := by
 have key : ∀ x : Fin 256, bitsA .or .u8 ((x.val : Nat) : Int) 128 = ((x.val % 128 + 128 : Nat) : Int) := by decide +kernel
 have e : IntKind.u8.wrap (m : Int) = ((m % 256 : Nat) : Int) := by
  show (m : Int) % 256 = _
  omega
 have := key ⟨m % 256, by omega⟩
 rw [e, this, u8_ofNat (by omega)]
 simp only
 omega
def WrH (H : AH) (p r v : Nat) (bs : List UInt8) : AH := (H.set p (.row [.sl r v 1 0 bs.length none] 0)).set r (.row (u8s bs) v)
theorem WrH_id {H : AH} {p r v : Nat} {bs : List UInt8} (h1 : H p = some (.row [.sl r v 1 0 bs.length none] 0)) (h2 : H r = some (.row (u8s bs) v)) : H = WrH H p r v bs := by
 unfold WrH; rw [AH.set_id h1, AH.set_id h2]
set_option maxRecDepth 8000 in
theorem wUint_c (p r v : Nat) (bs : List UInt8) (n : Nat) (hn : n < 2 ^ 64) (hb : bs.length ≤ 1000000) (H : AH) (hpr : p ≠ r) :
  ACall Try.prog 44 [.ptr p 0 0, .int .u64 n] (WrH H p r v bs) (fun y H' => y = .tup [] ∧ ∃ v', H' = WrH H p r v' (bs ++ encN n)) := by
 refine zQ zU (dok _) Try.func44 rfl (by decide) rfl ?_
 (repeat' ((conv => whnf); first | refine Then.mk ?_ | left | refine OpsA.zD ?_ | refine OpsA.zE ?_ | refine AWq.zI ?_ | refine AWq.zB ?_ | refine AWq.zG ?_ | refine AWq.zF ?_ | refine AWq.zH ?_ | refine AWq.zK ?_ | refine AWq.zJ ?_ | (refine Both.mk ?_ ?_ <;> intro hc <;> (first | exact Bool.noConfusion hc | skip)) | (intro c hc; (try (simp only [AH.zA] at hc; repeat (have hn := hc.1; replace hc := hc.2))); (first | (refine u8_k hc ?_ ?_ ?_ ; omega; omega; (clear hc; intro hc; subst hc)) | subst hc | skip)) | (apply Exists.intro; apply And.intro; (first | (focus (repeat (first | (with_reducible assumption) | (with_reducible exact AH.zC _ _ _) | ((first | refine AH.zL ?_ ?_); (first | (with_reducible assumption))))); done))) | (apply Exists.intro; apply And.intro; first | (with_reducible assumption) | ((try simp only [zW, z0z, zZ, zY]); first | (with_reducible assumption) | rfl)) | (apply And.intro; (first | rfl | (with_reducible assumption) | exact zX rfl | omega | (simp <;> fail))))) <;> (try (conv => whnf))
 have hl10 := encN_len10 hn
 refine zT (σ := Nat × List UInt8 × Nat) (1 :: 4 :: 5 :: 6 :: 7 :: 8 :: 9 :: 10 :: 11 :: 12 :: 13 :: 14 :: 15 :: 16 :: 17 :: 18 :: 19 :: []) (fun (m, pre, u) => [(1, .int .u64 m)]) (fun (m, pre, u) => (H.set p (.row [.sl r u 1 0 (bs ++ pre).length none] 0)).set r (.row (u8s (bs ++ pre)) u)) (fun (m, pre, u) => m < 2 ^ 64 ∧ encN n = pre ++ encN m) (fun (m, pre, u) => m) (n, [], v) rfl ?_ ?_ ?_ ?_
 ·exact ⟨hn, rfl⟩
 ·exact ⟨rfl, trivial⟩
 ·show HLe ((H.set p (.row [.sl r v 1 0 (bs ++ []).length none] 0)).set r (.row (u8s (bs ++ [])) v)) _
  rw [List.append_nil]; exact HLe.refl _
 ·rintro ⟨m, pre, u⟩ ⟨hm, he⟩
  refine AWp.of zU (dok _) rfl ?_
  have hpl : pre.length ≤ 9 := by
   have := congrArg List.length he
   have := encN_pos m
   rw [List.length_append] at *; omega
  have hsum : (bs ++ pre).length ≤ 1000009 := by rw [List.length_append]; omega
  (repeat' ((conv => whnf); first | refine Then.mk ?_ | left | refine OpsA.zD ?_ | refine OpsA.zE ?_ | refine AWq.zI ?_ | refine AWq.zB ?_ | refine AWq.zG ?_ | refine AWq.zF ?_ | refine AWq.zH ?_ | refine AWq.zK ?_ | refine AWq.zJ ?_ | (refine Both.mk ?_ ?_ <;> intro hc <;> (first | exact Bool.noConfusion hc | skip)) | (intro c hc; (try (simp only [AH.zA] at hc; repeat (have hn := hc.1; replace hc := hc.2))); (first | (refine u8_k hc ?_ ?_ ?_ ; omega; omega; (clear hc; intro hc; subst hc)) | subst hc | skip)) | (apply Exists.intro; apply And.intro; (first | (focus (repeat (first | (with_reducible assumption) | (with_reducible exact AH.zC _ _ _) | ((first | refine AH.zL ?_ ?_); (first | (with_reducible assumption))))); done))) | (apply Exists.intro; apply And.intro; first | (with_reducible assumption) | ((try simp only [zW, z0z, zZ, zY]); first | (with_reducible assumption) | rfl)) | (apply And.intro; (first | rfl | (with_reducible assumption) | exact zX rfl | omega | (simp <;> fail))))) <;> (try (conv => whnf))
  ·refine ⟨(m / 128, pre ++ [UInt8.ofNat (m % 128 + 128)], u + 1), ⟨by omega, by rw [he, encN_ge (by omega)]; simp⟩, by show m / 128 < m; omega, ⟨?_, trivial⟩, ?_⟩
   ·refine congrArg (AV.int .u64) ?_
    rw [show (2 : Int) ^ min (Int.toNat 7) IntKind.u64.bits = 128 by decide, Int.fdiv_eq_ediv_of_nonneg _ (by omega)]
    omega
   ·show HLe ((H.set p (.row [.sl r (u + 1) 1 0 (bs ++ (pre ++ [UInt8.ofNat (m % 128 + 128)])).length none] 0)).set r (.row (u8s (bs ++ (pre ++ [UInt8.ofNat (m % 128 + 128)]))) (u + 1))) _
    rw [← List.append_assoc, List.length_append (bs := [_]), ← u8s_append (bs ++ pre)]
    refine HLe.of_eq (Eq.trans ?_ (AH.two_sets H hpr _ _ _ _).symm)
    rw [or128 hm]
    rfl
  ·refine ⟨u + 1, ?_⟩
   unfold WrH
   rw [he, encN_lt (by omega), ← List.append_assoc, List.length_append (bs := [_]), ← u8s_append (bs ++ pre)]
   refine Eq.trans (AH.two_sets H hpr _ _ _ _) ?_
   have e : (m : Int) = ((UInt8.ofNat m).toNat : Int) := by rw [u8_ofNat (by omega)]
   rw [e]
   rfl
set_option maxRecDepth 8000 in
theorem wInt_c (p r v : Nat) (bs : List UInt8) (n : Int) (hn : I64 n) (hb : bs.length ≤ 1000000) (H : AH) (hpr : p ≠ r) :
  ACall Try.prog 19 [.ptr p 0 0, .int .i64 n] (WrH H p r v bs) (fun y H' => y = .tup [] ∧ ∃ v', H' = WrH H p r v' (bs ++ encI n)) := by
 refine zQ zU (dok _) Try.func19 rfl (by decide) rfl ?_
 (repeat' ((conv => whnf); first | refine OpsA.zD ?_ | refine OpsA.zE ?_ | refine AWq.zB ?_ | (apply And.intro; (first | rfl)) | (refine ACall.to (zigzag_c n hn.1 hn.2 _) ?_))) <;> (try (conv => whnf))
 refine (wUint_c p r v bs (zz n) (zz_lt hn.1 hn.2) hb H hpr).mono ?_
 rintro y H' ⟨rfl, v', rfl⟩
 (repeat' ((conv => whnf); first | refine OpsA.zD ?_ | refine OpsA.zE ?_ | refine AWq.zB ?_ | (apply And.intro; (first | rfl)))) <;> (try (conv => whnf))
 exact ⟨v', rfl⟩
set_option maxRecDepth 8000 in
theorem wText_c (p r v : Nat) (bs s : List UInt8) (hs : s.length ≤ 1000000) (hb : bs.length ≤ 1000000) (H : AH) (hpr : p ≠ r) :
  ACall Try.prog 48 [.ptr p 0 0, .str s] (WrH H p r v bs) (fun y H' => y = .tup [] ∧ ∃ v', H' = WrH H p r v' (bs ++ encR s)) := by
 refine zQ zU (dok _) Try.func48 rfl (by decide) rfl ?_
 (repeat' ((conv => whnf); first | refine Then.mk ?_ | refine OpsA.zD ?_ | refine OpsA.zE ?_ | refine AWq.zI ?_ | refine AWq.zB ?_ | (intro c hc; (try (simp only [AH.zA] at hc; repeat (have hn := hc.1; replace hc := hc.2))); (first | (refine u64_k hc ?_ ?_ ?_ ; omega; omega; (clear hc; intro hc; subst hc)))) | (apply Exists.intro; apply And.intro; (first | (focus (repeat (first | (with_reducible assumption) | (with_reducible exact AH.zC _ _ _) | ((first | refine AH.zL ?_ ?_); (first | (with_reducible assumption))))); done) | (focus (repeat (first | exact AH.zC _ _ _)); done))) | (apply Exists.intro; apply And.intro; first | (with_reducible assumption) | ((try simp only [zW, z0z, zZ, zY]); first | (with_reducible assumption) | rfl)) | (apply And.intro; (first | rfl | (with_reducible assumption) | exact zX rfl | omega | (simp <;> fail) | (focus (repeat' (first | (with_reducible assumption) | exact one_u8s _ | rfl)); done))))) <;> (try (conv => whnf))
 refine (wUint_c p r v bs s.length (by omega) hb H hpr).mono ?_
 rintro y H' ⟨rfl, v', rfl⟩
 have hl := encN_len10 (n := s.length) (by omega)
 have hl2 : (bs ++ encN s.length).length ≤ 1000010 := by rw [List.length_append]; omega
 (repeat' ((conv => whnf); first | refine Then.mk ?_ | refine OpsA.zD ?_ | refine OpsA.zE ?_ | refine AWq.zI ?_ | refine AWq.zB ?_ | (intro c hc; (try (simp only [AH.zA] at hc; repeat (have hn := hc.1; replace hc := hc.2))); (first | (refine u64_k hc ?_ ?_ ?_ ; omega; omega; (clear hc; intro hc; subst hc)))) | (apply Exists.intro; apply And.intro; (first | (focus (repeat (first | (with_reducible assumption) | (with_reducible exact AH.zC _ _ _) | ((first | refine AH.zL ?_ ?_); (first | (with_reducible assumption))))); done) | (focus (repeat (first | exact AH.zC _ _ _)); done))) | (apply Exists.intro; apply And.intro; first | (with_reducible assumption) | ((try simp only [zW, z0z, zZ, zY]); first | (with_reducible assumption) | rfl)) | (apply And.intro; (first | rfl | (with_reducible assumption) | exact zX rfl | omega | (simp <;> fail) | (focus (repeat' (first | (with_reducible assumption) | exact one_u8s _ | rfl)); done))))) <;> (try (conv => whnf))
 refine ⟨v' + 1, ?_⟩
 refine Eq.trans (AH.two_sets H hpr _ _ _ _) ?_
 unfold WrH encR
 rw [← List.append_assoc, List.length_append (bs := s), ← u8s_append (bs ++ encN s.length)]
 rfl
set_option maxRecDepth 8000 in
theorem wRaw_c (p r v : Nat) (bs s : List UInt8) (hs : s.length ≤ 1000000) (hb : bs.length ≤ 1000000) (H : AH) (hpr : p ≠ r) :
  ACall Try.prog 21 [.ptr p 0 0, .cs (u8s s) s.length] (WrH H p r v bs) (fun y H' => y = .tup [] ∧ ∃ v', H' = WrH H p r v' (bs ++ encR s)) := by
 refine zQ zU (dok _) Try.func21 rfl (by decide) rfl ?_
 (repeat' ((conv => whnf); first | refine OpsA.zD ?_ | refine OpsA.zE ?_ | refine AWq.zB ?_ | (apply Exists.intro; apply And.intro; first | ((try simp only [zW, z0z, zZ, zY]); first | rfl)) | (apply And.intro; (first | rfl | (simp <;> fail))))) <;> (try (conv => whnf))
 refine (wText_c p r v bs s hs hb H hpr).mono ?_
 rintro y H' ⟨rfl, v', rfl⟩
 (repeat' ((conv => whnf); first | refine OpsA.zD ?_ | refine OpsA.zE ?_ | refine AWq.zB ?_ | (apply Exists.intro; apply And.intro; first | ((try simp only [zW, z0z, zZ, zY]); first | rfl)) | (apply And.intro; (first | rfl | (simp <;> fail))))) <;> (try (conv => whnf))
 exact ⟨v', rfl⟩
set_option maxRecDepth 8000 in
theorem clone_sl (r v : Nat) (bs : List UInt8) (hb : bs.length ≤ 1000000) (H : AH) (h : H r = some (.row (u8s bs) v)) :
  ACall Try.prog 41 [.sl r v 1 0 bs.length none] H (fun y H' => (y = .nils ∧ bs.length = 0 ∧ H' = H) ∨ ∃ q, H q = none ∧ ∃ u, y = .sl q u 1 0 bs.length none ∧ H' = H.set q (.row (u8s bs) u)) := by
 refine zQ zU (dok _) Try.func41 rfl (by decide) rfl ?_
 (repeat' ((conv => whnf); first | refine Then.mk ?_ | refine Or.inr (Or.inl ?_) | refine OpsA.zD ?_ | refine OpsA.zE ?_ | refine AWq.zI ?_ | refine AWq.zB ?_ | refine AWq.zG ?_ | refine AWq.zH ?_ | refine AWq.ret ?_ | (refine Both.mk ?_ ?_ <;> intro hc <;> (first | exact Bool.noConfusion hc | skip)) | (intro c hc; (try (simp only [AH.zA] at hc; repeat (have hn := hc.1; replace hc := hc.2))); (first | skip)) | (apply Exists.intro; apply And.intro; (first | (focus (repeat (first | (with_reducible assumption) | (with_reducible exact AH.zC _ _ _) | ((first | refine AH.zL ?_ ?_); (first | (with_reducible assumption) | exact AH.ne_none (by with_reducible assumption) (by with_reducible assumption))))); done))) | (apply And.intro; (first | rfl | (with_reducible assumption) | omega | (simp <;> fail) | (focus (repeat' (first | (with_reducible assumption) | exact one_u8s _ | rfl | apply one_take)); done))))) <;> (try (conv => whnf))
 ·exact .inl ⟨rfl, by assumption, rfl⟩
 ·refine .inr ⟨c, hc, 1, by simp only [Nat.zero_add], ?_⟩
  rw [AH.zS]
  simp [List.take_of_length_le]
set_option maxRecDepth 8000 in
theorem clone_cs (bs : List UInt8) (hb : bs.length ≤ 1000000) (H : AH) :
  ACall Try.prog 41 [.cs (u8s bs) bs.length] H (fun y H' => (y = .nils ∧ bs.length = 0 ∧ H' = H) ∨ ∃ q, H q = none ∧ ∃ u, y = .sl q u 1 0 bs.length none ∧ H' = H.set q (.row (u8s bs) u)) := by
 refine zQ zU (dok _) Try.func41 rfl (by decide) rfl ?_
 (repeat' ((conv => whnf); first | refine Then.mk ?_ | refine Or.inr (Or.inl ?_) | refine OpsA.zD ?_ | refine OpsA.zE ?_ | refine AWq.zI ?_ | refine AWq.zB ?_ | refine AWq.zG ?_ | refine AWq.zH ?_ | refine AWq.ret ?_ | (refine Both.mk ?_ ?_ <;> intro hc <;> (first | exact Bool.noConfusion hc | skip)) | (intro c hc; (try (simp only [AH.zA] at hc; repeat (have hn := hc.1; replace hc := hc.2))); (first | skip)) | (apply Exists.intro; apply And.intro; (first | (focus (repeat (first | (with_reducible exact AH.zC _ _ _))); done))) | (apply And.intro; (first | rfl | omega | (simp <;> fail) | (focus (repeat' (first | exact one_u8s _ | rfl)); done))))) <;> (try (conv => whnf))
 ·exact .inl ⟨rfl, by assumption, rfl⟩
 ·refine .inr ⟨c, hc, 1, by simp only [Nat.zero_add], ?_⟩
  rw [AH.zS]
  simp
set_option maxRecDepth 8000 in
theorem wDone_w (p r v : Nat) (bs : List UInt8) (hb : bs.length ≤ 1000000) (H : AH) (hpr : p ≠ r) :
  ACall Try.prog 22 [.ptr p 0 0] (WrH H p r v bs) (fun y H' => ∃ q, WrH H p r v bs q = none ∧ ∃ u, y = .sl q u 1 0 bs.length none ∧ H' = (WrH H p r v bs).set q (.row (u8s bs) u)) := by
 refine zQ zU (dok _) Try.func22 rfl (by decide) rfl ?_
 (repeat' ((conv => whnf); first | refine Then.mk ?_ | refine OpsA.zD ?_ | refine OpsA.zE ?_ | refine AWq.zI ?_ | refine AWq.zB ?_ | refine AWq.ret ?_ | (apply Exists.intro; apply And.intro; (first | (focus (repeat (first | (with_reducible assumption) | (with_reducible exact AH.zC _ _ _) | ((first | refine AH.zL ?_ ?_); (first | (with_reducible assumption))))); done))) | (apply Exists.intro; apply And.intro; first | (with_reducible assumption) | ((try simp only [zW, z0z, zZ, zY]); first | (with_reducible assumption) | rfl)) | (apply And.intro; (first | rfl | (with_reducible assumption))))) <;> (try (conv => whnf))
 refine (ACall.warmN (es := 1) (cells := u8s bs) (by simp) (clone_sl r v bs hb (WrH H p r v bs) (AH.zC _ _ _))).mono ?_
 rintro y H' ⟨q, hq, u, rfl, rfl⟩
 (repeat' ((conv => whnf); first | refine OpsA.zD ?_ | refine OpsA.zE ?_ | refine AWq.zI ?_ | refine AWq.zB ?_ | refine AWq.ret ?_ | (apply Exists.intro; apply And.intro; (first | (focus (repeat (first | (with_reducible assumption) | (with_reducible exact AH.zC _ _ _) | ((first | refine AH.zL ?_ ?_); (first | (with_reducible assumption))))); done))) | (apply Exists.intro; apply And.intro; first | (with_reducible assumption) | ((try simp only [zW, z0z, zZ, zY]); first | (with_reducible assumption) | rfl)) | (apply And.intro; (first | rfl | (with_reducible assumption))))) <;> (try (conv => whnf))
 refine Then.mk ?_
 (repeat' ((conv => whnf); first | refine OpsA.zD ?_ | refine OpsA.zE ?_ | refine AWq.zI ?_ | refine AWq.zB ?_ | refine AWq.ret ?_ | (apply Exists.intro; apply And.intro; (first | (focus (repeat (first | (with_reducible assumption) | (with_reducible exact AH.zC _ _ _) | ((first | refine AH.zL ?_ ?_); (first | (with_reducible assumption))))); done))) | (apply Exists.intro; apply And.intro; first | (with_reducible assumption) | ((try simp only [zW, z0z, zZ, zY]); first | (with_reducible assumption) | rfl)) | (apply And.intro; (first | rfl | (with_reducible assumption))))) <;> (try (conv => whnf))
theorem wDone_c (p r v : Nat) (bs : List UInt8) (hb : bs.length ≤ 1000000) (H : AH) (hpr : p ≠ r) :
  ACall Try.prog 22 [.ptr p 0 0] (WrH H p r v bs) (fun y H' => y = .cs (u8s bs) bs.length ∧ H' = WrH H p r v bs) :=
 ACall.cold (es := 1) (by simp) (wDone_w p r v bs hb H hpr)
structure WOk (v : V) : Prop where
 u : v.u < 2 ^ 64
 n : I64 v.n
 b : v.b.length ≤ 1000000
 l : v.l.length ≤ 5000
 li : ∀ x ∈ v.l, I64 x
end Go.Proofs.Ytgpfmojlgejnhaa
