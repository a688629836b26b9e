/- For the law CodecApart, part 5 of 8: the frame of the walk, the walks of the functions, the plain law, the row. No conditions. -/
import Derived.Test.YtgpfmojlgejnhaaCodecApartM4
/- The walks of the reader. -/
namespace Go.Proofs.Ytgpfmojlgejnhaa
open Go.Fw Go
set_option linter.unusedVariables false
set_option linter.unusedSimpArgs false
def RdH (H : AH) (p : Nat) (e : Int) (b : List UInt8) : AH := H.set p (.row [.cs (u8s b) b.length, .int .i64 e] 0)
set_option maxRecDepth 8000 in
theorem fail_c (p : Nat) (x e : Int) (b : List UInt8) (H : AH) :
  ACall Try.prog 74 [.ptr p 0 0, .int .i64 x] (RdH H p e b) (fun y H' => y = .tup [] ∧ H' = RdH H p (if e = 0 then x else e) b) := by
 refine zQ zU (dok _) Try.func74 rfl (by decide) rfl ?_
 (repeat' ((conv => whnf); first | refine Then.mk ?_ | refine OpsA.zD ?_ | refine OpsA.zE ?_ | refine AWq.zI ?_ | refine AWq.zB ?_ | refine AWq.zG ?_ | refine AWq.zH ?_ | (refine Both.mk ?_ ?_ <;> intro hc <;> (first | exact Bool.noConfusion hc | skip)) | (apply Exists.intro; apply And.intro; (first | (focus (repeat (first | exact AH.zC _ _ _)); done))) | (apply Exists.intro; apply And.intro; first | ((try simp only [zW, z0z, zZ, zY]); first | rfl)) | (apply And.intro; (first | rfl | exact zX rfl)))) <;> (try (conv => whnf))
 ·rw [if_pos (by assumption)]
  refine (AH.zS H p _ _).trans ?_
  rfl
 ·rw [if_neg (by assumption)]
def nx (e : Int) (b : List UInt8) : Nat × Int × List UInt8 := if e ≠ 0 then (0, e, b) else if b.length = 0 then (0, 3, b) else ((b.getD 0 0).toNat, 0, b.drop 1)
set_option maxRecDepth 8000 in
theorem next_c (p : Nat) (e : Int) (b : List UInt8) (hb : b.length ≤ 1000000) (H : AH) :
  ACall Try.prog 47 [.ptr p 0 0] (RdH H p e b) (fun y H' => y = .int .u8 (nx e b).1 ∧ H' = RdH H p (nx e b).2.1 (nx e b).2.2) := by
 by_cases he : e = 0
 ·subst he
  by_cases hl : b.length = 0
  ·have e1 : nx 0 b = (0, 3, b) := by unfold nx; rw [if_neg (by simp), if_pos hl]
   rw [e1]
   refine zQ zU (dok _) Try.func47 rfl (by decide) rfl ?_
   (repeat' ((conv => whnf); first | refine Then.mk ?_ | refine OpsA.zD ?_ | refine OpsA.zE ?_ | refine AWq.zI ?_ | refine AWq.zB ?_ | refine AWq.zG ?_ | refine AWq.zH ?_ | refine AWq.ret ?_ | (refine Both.mk ?_ ?_ <;> intro hc <;> (first | exact Bool.noConfusion hc | exact absurd (by with_reducible rfl) hc | exact absurd (by assumption) hc | (exfalso; omega) | exact absurd hc (by decide) | skip)) | (apply Exists.intro; apply And.intro; (first | (focus (repeat (first | exact AH.zC _ _ _)); done))) | (apply Exists.intro; apply And.intro; first | ((try simp only [zW, z0z, zZ, zY]); first | (refine u8s_get ?_; omega) | rfl)) | (apply And.intro; (first | rfl | exact zX rfl | omega | (simp <;> fail))))) <;> (try (conv => whnf))
   refine (fail_c p 3 0 b H).mono ?_
   rintro y H' ⟨rfl, rfl⟩
   (repeat' ((conv => whnf); first | refine Then.mk ?_ | refine OpsA.zD ?_ | refine OpsA.zE ?_ | refine AWq.zI ?_ | refine AWq.zB ?_ | refine AWq.zG ?_ | refine AWq.zH ?_ | refine AWq.ret ?_ | (refine Both.mk ?_ ?_ <;> intro hc <;> (first | exact Bool.noConfusion hc | exact absurd (by with_reducible rfl) hc | exact absurd (by assumption) hc | (exfalso; omega) | exact absurd hc (by decide) | skip)) | (apply Exists.intro; apply And.intro; (first | (focus (repeat (first | exact AH.zC _ _ _)); done))) | (apply Exists.intro; apply And.intro; first | ((try simp only [zW, z0z, zZ, zY]); first | (refine u8s_get ?_; omega) | rfl)) | (apply And.intro; (first | rfl | exact zX rfl | omega | (simp <;> fail))))) <;> (try (conv => whnf))
   rfl
  ·have e1 : nx 0 b = ((b.getD 0 0).toNat, 0, b.drop 1) := by unfold nx; rw [if_neg (by simp), if_neg hl]
   rw [e1]
   refine zQ zU (dok _) Try.func47 rfl (by decide) rfl ?_
   (repeat' ((conv => whnf); first | refine Then.mk ?_ | refine OpsA.zD ?_ | refine OpsA.zE ?_ | refine AWq.zI ?_ | refine AWq.zB ?_ | refine AWq.zG ?_ | refine AWq.zH ?_ | refine AWq.ret ?_ | (refine Both.mk ?_ ?_ <;> intro hc <;> (first | exact Bool.noConfusion hc | exact absurd (by with_reducible rfl) hc | exact absurd (by assumption) hc | (exfalso; omega) | exact absurd hc (by decide) | skip)) | (apply Exists.intro; apply And.intro; (first | (focus (repeat (first | exact AH.zC _ _ _)); done))) | (apply Exists.intro; apply And.intro; first | ((try simp only [zW, z0z, zZ, zY]); first | (refine u8s_get ?_; omega) | rfl)) | (apply And.intro; (first | rfl | exact zX rfl | omega | (simp <;> fail))))) <;> (try (conv => whnf))
   refine (AH.zS H p _ _).trans ?_
   unfold RdH
   rw [← u8s_drop, List.length_drop]
   rfl
 ·have e1 : nx e b = (0, e, b) := by unfold nx; rw [if_pos he]
  rw [e1]
  refine zQ zU (dok _) Try.func47 rfl (by decide) rfl ?_
  (repeat' ((conv => whnf); first | refine Then.mk ?_ | refine OpsA.zD ?_ | refine OpsA.zE ?_ | refine AWq.zI ?_ | refine AWq.zB ?_ | refine AWq.zG ?_ | refine AWq.zH ?_ | refine AWq.ret ?_ | (refine Both.mk ?_ ?_ <;> intro hc <;> (first | exact Bool.noConfusion hc | exact absurd (by with_reducible rfl) hc | exact absurd (by assumption) hc | (exfalso; omega) | exact absurd hc (by decide) | skip)) | (apply Exists.intro; apply And.intro; (first | (focus (repeat (first | exact AH.zC _ _ _)); done))) | (apply Exists.intro; apply And.intro; first | ((try simp only [zW, z0z, zZ, zY]); first | (refine u8s_get ?_; omega) | rfl)) | (apply And.intro; (first | rfl | exact zX rfl | omega | (simp <;> fail))))) <;> (try (conv => whnf))
  ·refine (fail_c p 3 e b H).mono ?_
   rw [if_neg he]
   rintro y H' ⟨rfl, rfl⟩
   (repeat' ((conv => whnf); first | refine Then.mk ?_ | refine OpsA.zD ?_ | refine OpsA.zE ?_ | refine AWq.zI ?_ | refine AWq.zB ?_ | refine AWq.zG ?_ | refine AWq.zH ?_ | refine AWq.ret ?_ | (refine Both.mk ?_ ?_ <;> intro hc <;> (first | exact Bool.noConfusion hc | exact absurd (by with_reducible rfl) hc | exact absurd (by assumption) hc | (exfalso; omega) | exact absurd hc (by decide) | skip)) | (apply Exists.intro; apply And.intro; (first | (focus (repeat (first | exact AH.zC _ _ _)); done))) | (apply Exists.intro; apply And.intro; first | ((try simp only [zW, z0z, zZ, zY]); first | (refine u8s_get ?_; omega) | rfl)) | (apply And.intro; (first | rfl | exact zX rfl | omega | (simp <;> fail))))) <;> (try (conv => whnf))
theorem andNot128 (c : UInt8) : bitsA .andNot .u8 c.toNat 128 = ((c.toNat % 128 : Nat) : Int) := by
 have key : ∀ x : Fin 256, bitsA .andNot .u8 ((x.val : Nat) : Int) 128 = ((x.val % 128 : Nat) : Int) := by decide +kernel
 exact key ⟨c.toNat, c.toNat_lt⟩
theorem or_shift {m i d : Nat} (hm : m < 128 ^ i) (hi : i ≤ 9) (hd : d < 128) (h9 : i = 9 → d ≤ 1) :
  bitsA .or .u64 (m : Int) (IntKind.u64.wrap ((d : Int) * 2 ^ (min (7 * i) 64))) = ((m + d * 128 ^ i : Nat) : Int) := by
 have e7 : (128 : Nat) ^ i = 2 ^ (7 * i) := by rw [Nat.pow_mul]
 rw [e7] at hm ⊢
 have hmin : min (7 * i) 64 = 7 * i := by omega
 have hb : m + d * 2 ^ (7 * i) < 2 ^ 64 := by
  have h1 : m + d * 2 ^ (7 * i) < (d + 1) * 2 ^ (7 * i) := by rw [Nat.add_mul]; omega
  rcases Nat.lt_or_ge i 9 with h | h
  ·have h2 : (d + 1) * 2 ^ (7 * i) ≤ 128 * 2 ^ (7 * i) := Nat.mul_le_mul_right _ (by omega)
   have h3 : 128 * 2 ^ (7 * i) = 2 ^ (7 + 7 * i) := by rw [Nat.pow_add]
   have h4 : 2 ^ (7 + 7 * i) ≤ 2 ^ 63 := Nat.pow_le_pow_right (by omega) (by omega)
   omega
  ·have : i = 9 := by omega
   subst this
   have := h9 rfl
   omega
 have e1 : ((d : Int) * 2 ^ (7 * i)) = ((d * 2 ^ (7 * i) : Nat) : Int) := by simp
 rw [hmin, e1, wrap_u64']
 show IntKind.u64.wrap ((BitVec.ofInt 64 _ ||| BitVec.ofInt 64 _).toNat : Int) = _
 have ha : (BitVec.ofInt 64 (m : Int)).toNat = m := by
  rw [BitVec.toNat_ofInt]; omega
 have hc : (BitVec.ofInt 64 (((d * 2 ^ (7 * i) : Nat) : Int) % 18446744073709551616)).toNat = d * 2 ^ (7 * i) := by
  rw [BitVec.toNat_ofInt]; omega
 rw [BitVec.toNat_or, ha, hc, Nat.or_comm, Nat.mul_comm d, ← Nat.two_pow_add_eq_or_of_lt hm, wrap_u64', Nat.mul_comm _ d]
 generalize d * 2 ^ (7 * i) = q at hb ⊢
 omega
def rdR : Except Int (Nat × List UInt8) → Nat × RS
 | .ok (n, r) => (n, (0, r))
 | .error e => (0, (e, []))
theorem rdU_ok (b : List UInt8) : rdU (canon 0 b) = rdR (rdN 0 0 b) := by
 unfold rdU canon rdR
 simp only [ne_eq, not_true_eq_false, if_false, if_true]
 all_goals (cases rdN 0 0 b <;> rfl)
theorem rdU_err {e : Int} (b : List UInt8) (h : e ≠ 0) : rdU (canon e b) = (0, (e, [])) := by
 unfold rdU canon
 simp only [ne_eq, h, not_false_eq_true, if_true]
structure UI (R : Nat × RS) (L i : Nat) (n e : Int) (b : List UInt8) : Prop where
 l : b.length ≤ L
 il : i ≤ 10
 ok : e = 0 → i ≤ 9 ∧ ∃ m : Nat, n = m ∧ m < 128 ^ i ∧ R = rdR (rdN i m b)
 no : e ≠ 0 → R = (0, (e, []))
set_option maxRecDepth 100000 in
set_option maxRecDepth 8000 in
theorem rUint_c (p : Nat) (e0 : Int) (b0 : List UInt8) (hb : b0.length ≤ 1000000) (H : AH) :
    ACall Try.prog 43 [.ptr p 0 0] (RdH H p e0 b0) (fun y H' => y = .int .u64 (rdU (canon e0 b0)).1 ∧ ∃ e b, canon e b = (rdU (canon e0 b0)).2 ∧ b.length ≤ b0.length ∧ H' = RdH H p e b) := by
  obtain ⟨R, hR⟩ : ∃ R, R = rdU (canon e0 b0) := ⟨_, rfl⟩
  rw [← hR]
  refine zQ zU (dok _) Try.func43 rfl (by decide) rfl ?_
  (repeat' ((conv => whnf); first | refine Then.mk ?_ | refine OpsA.zD ?_ | refine OpsA.zE ?_ | refine AWq.zI ?_ | refine AWq.zB ?_ | refine AWq.zG ?_ | refine AWq.zF ?_ | refine AWq.zH ?_ | refine AWq.ret ?_ | refine AWq.zK ?_ | refine AWq.zJ ?_ | (refine Both.mk ?_ ?_ <;> intro hc <;> (first | exact Bool.noConfusion hc | exact absurd (by with_reducible rfl) hc | exact absurd (by assumption) hc | exact absurd hc (by assumption) | (exfalso; omega) | exact absurd hc (by decide) | skip)) | (intro c hc; (try (simp only [AH.zA] at hc; repeat (have hn := hc.1; replace hc := hc.2))); (first | (refine zP hc ?_ ?_ ?_ ; omega; omega; (clear hc; intro hc; subst hc)) | subst hc | skip)) | (apply Exists.intro; apply And.intro; (first | (focus (repeat (first | exact AH.zC _ _ _)); done))) | (apply Exists.intro; apply And.intro; first | ((try simp only [zW, z0z, zZ, zY]); first | rfl)) | (apply And.intro; (first | rfl | omega)))) <;> (try (conv => whnf))
  refine zT (σ := Nat × Int × Int × List UInt8) (2 :: 3 :: 4 :: 5 :: 6 :: 7 :: 8 :: 9 :: 10 :: 11 :: 12 :: 13 :: 14 :: 15 :: 16 :: 17 :: 18 :: 19 :: 20 :: 21 :: 22 :: 23 :: 24 :: 25 :: 26 :: 27 :: 28 :: 29 :: 30 :: 31 :: 32 :: 33 :: 34 :: 35 :: 36 :: 37 :: 38 :: 39 :: 40 :: 41 :: 42 :: 43 :: 44 :: 45 :: 46 :: 47 :: 48 :: []) (fun (i, n, e, b) => [(4, .int .i64 i), (3, .int .u64 n)]) (fun (i, n, e, b) => RdH H p e b) (fun (i, n, e, b) => UI R b0.length i n e b) (fun (i, n, e, b) => if e = 0 then b.length + 1 else 0) (0, 0, e0, b0) rfl ?_ ?_ ?_ ?_
  · refine ⟨Nat.le_refl _, by omega, fun h => ⟨by omega, 0, rfl, by simp, ?_⟩, fun h => ?_⟩
    · rw [hR, h, rdU_ok]
    · rw [hR, rdU_err _ h]
  · exact ⟨rfl, rfl, trivial⟩
  · exact HLe.refl _
  · rintro ⟨i, n, e, b⟩ hI
    refine AWp.of zU (dok _) rfl ?_
    have hI : UI R b0.length i n e b := hI
    have hil := hI.il
    have hbl := hI.l
    by_cases he : e = 0
    · subst he
      obtain ⟨hi9, m, rfl, hm, hRm⟩ := hI.ok rfl
      by_cases hl : b.length = 0
      · have e1 : nx 0 b = (0, 3, b) := by unfold nx; rw [if_neg (by simp), if_pos hl]
        have hnx := next_c p 0 b (by omega) H
        rw [e1] at hnx
        dsimp only at hnx
        have hR3 : R = (0, (3, [])) := by
          have : b = [] := List.eq_nil_of_length_eq_zero hl
          rw [hRm, this]; rfl
        (repeat' ((conv => whnf); first | refine Then.mk ?_ | refine OpsA.zD ?_ | refine OpsA.zE ?_ | refine AWq.zI ?_ | refine AWq.zB ?_ | refine AWq.zG ?_ | refine AWq.zF ?_ | refine AWq.zH ?_ | refine AWq.ret ?_ | refine AWq.zK ?_ | refine AWq.zJ ?_ | (refine Both.mk ?_ ?_ <;> intro hc <;> (first | exact Bool.noConfusion hc | exact absurd (by with_reducible rfl) hc | exact absurd (by assumption) hc | exact absurd hc (by assumption) | (exfalso; omega) | exact absurd hc (by decide) | skip)) | (intro c hc; (try (simp only [AH.zA] at hc; repeat (have hn := hc.1; replace hc := hc.2))); (first | (refine zP hc ?_ ?_ ?_ ; omega; omega; (clear hc; intro hc; subst hc)) | subst hc | skip)) | (apply Exists.intro; apply And.intro; (first | (focus (repeat (first | exact AH.zC _ _ _)); done))) | (apply Exists.intro; apply And.intro; first | ((try simp only [zW, z0z, zZ, zY]); first | rfl)) | (apply And.intro; (first | rfl | omega)) | (refine ACall.to (hnx) ?_) | (refine ACall.to (fail_c _ _ _ _ _) ?_))) <;> (try (conv => whnf))
        all_goals exact ⟨(i + 1, _, 3, b), ⟨by omega, by omega, fun h => absurd h (by decide), fun _ => hR3⟩, by simp, ⟨congrArg (AV.int .i64) (by omega), rfl, trivial⟩, HLe.refl _⟩
      · have e1 : nx 0 b = ((b.getD 0 0).toNat, 0, b.drop 1) := by unfold nx; rw [if_neg (by simp), if_neg hl]
        have hnx := next_c p 0 b (by omega) H
        rw [e1] at hnx
        dsimp only at hnx
        obtain ⟨c, hc⟩ : ∃ c, c = b.getD 0 0 := ⟨_, rfl⟩
        obtain ⟨t, ht⟩ : ∃ t, t = b.drop 1 := ⟨_, rfl⟩
        rw [← hc, ← ht] at hnx
        have hbc : b = c :: t := by
          cases b with
          | nil => simp at hl
          | cons x y => rw [hc, ht]; rfl
        have htl : t.length + 1 = b.length := by rw [hbc]; rfl
        have hc8 := c.toNat_lt
        rw [hbc, rdN] at hRm
        by_cases hbad : (i = 9 ∧ 1 < c.toNat) ∨ (0 < i ∧ c.toNat = 0)
        · rw [if_pos hbad] at hRm
          (repeat' ((conv => whnf); first | refine Then.mk ?_ | refine OpsA.zD ?_ | refine OpsA.zE ?_ | refine AWq.zI ?_ | refine AWq.zB ?_ | refine AWq.zG ?_ | refine AWq.zF ?_ | refine AWq.zH ?_ | refine AWq.ret ?_ | refine AWq.zK ?_ | refine AWq.zJ ?_ | (refine Both.mk ?_ ?_ <;> intro hc <;> (first | exact Bool.noConfusion hc | exact absurd (by with_reducible rfl) hc | exact absurd (by assumption) hc | exact absurd hc (by assumption) | (exfalso; omega) | exact absurd hc (by decide) | skip)) | (intro c hc; (try (simp only [AH.zA] at hc; repeat (have hn := hc.1; replace hc := hc.2))); (first | (refine zP hc ?_ ?_ ?_ ; omega; omega; (clear hc; intro hc; subst hc)) | subst hc | skip)) | (apply Exists.intro; apply And.intro; (first | (focus (repeat (first | exact AH.zC _ _ _)); done))) | (apply Exists.intro; apply And.intro; first | ((try simp only [zW, z0z, zZ, zY]); first | rfl)) | (apply And.intro; (first | rfl | omega)) | (refine ACall.to (hnx) ?_) | (refine ACall.to (fail_c _ _ _ _ _) ?_))) <;> (try (conv => whnf))
          all_goals exact ⟨(i + 1, _, 2, t), ⟨by omega, by omega, fun h => absurd h (by decide), fun _ => hRm⟩, by simp, ⟨congrArg (AV.int .i64) (by omega), rfl, trivial⟩, HLe.refl _⟩
        · rw [if_neg hbad] at hRm
          have hor := or_shift hm hi9 (d := c.toNat % 128) (by omega) (by omega)
          (repeat' ((conv => whnf); first | refine Then.mk ?_ | refine OpsA.zD ?_ | refine OpsA.zE ?_ | refine AWq.zI ?_ | refine AWq.zB ?_ | refine AWq.zG ?_ | refine AWq.zF ?_ | refine AWq.zH ?_ | refine AWq.ret ?_ | refine AWq.zK ?_ | refine AWq.zJ ?_ | (refine Both.mk ?_ ?_ <;> intro hc <;> (first | exact Bool.noConfusion hc | exact absurd (by with_reducible rfl) hc | exact absurd (by assumption) hc | exact absurd hc (by assumption) | (exfalso; omega) | exact absurd hc (by decide) | skip)) | (intro c hc; (try (simp only [AH.zA] at hc; repeat (have hn := hc.1; replace hc := hc.2))); (first | (refine zP hc ?_ ?_ ?_ ; omega; omega; (clear hc; intro hc; subst hc)) | subst hc | skip)) | (apply Exists.intro; apply And.intro; (first | (focus (repeat (first | exact AH.zC _ _ _)); done))) | (apply Exists.intro; apply And.intro; first | ((try simp only [zW, z0z, zZ, zY]); first | rfl)) | (apply And.intro; (first | rfl | omega)) | (refine ACall.to (hnx) ?_) | (refine ACall.to (fail_c _ _ _ _ _) ?_))) <;> (try (conv => whnf))
          all_goals first
            | (have hlt : c.toNat < 128 := by omega
               rw [if_pos hlt] at hRm
               rw [andNot128, show IntKind.u64.wrap ((c.toNat % 128 : Nat) : Int) = ((c.toNat % 128 : Nat) : Int) by rw [wrap_u64']; omega, show (7 * (i : Int)).toNat = 7 * i by omega]
               refine ⟨congrArg (AV.int .u64) (hor.trans ?_), 0, t, ?_, by omega, rfl⟩
               · rw [hRm, Nat.mod_eq_of_lt hlt]; rfl
               · rw [hRm, canon_ok]; rfl)
            | (have hge : ¬ c.toNat < 128 := by omega
               rw [if_neg hge] at hRm
               refine ⟨(i + 1, ((m + c.toNat % 128 * 128 ^ i : Nat) : Int), 0, t), ⟨by omega, by omega, fun _ => ⟨by omega, _, rfl, ?_, hRm⟩, fun h => absurd rfl h⟩, ?_, ⟨congrArg (AV.int .i64) (by omega), ?_, trivial⟩, HLe.refl _⟩
               · rw [Nat.pow_succ]
                 have : c.toNat % 128 * 128 ^ i ≤ 127 * 128 ^ i := Nat.mul_le_mul_right _ (by omega)
                 omega
               · show (if (0 : Int) = 0 then t.length + 1 else 0) < (if (0 : Int) = 0 then b.length + 1 else 0)
                 rw [if_pos rfl, if_pos rfl]; omega
               · refine congrArg (AV.int .u64) ?_
                 rw [andNot128, show IntKind.u64.wrap ((c.toNat % 128 : Nat) : Int) = ((c.toNat % 128 : Nat) : Int) by rw [wrap_u64']; omega, show (7 * (i : Int)).toNat = 7 * i by omega]
                 exact hor)
            | (exfalso; omega)
    · have hRe := hI.no he
      (repeat' ((conv => whnf); first | refine Then.mk ?_ | refine OpsA.zD ?_ | refine OpsA.zE ?_ | refine AWq.zI ?_ | refine AWq.zB ?_ | refine AWq.zG ?_ | refine AWq.zF ?_ | refine AWq.zH ?_ | refine AWq.ret ?_ | refine AWq.zK ?_ | refine AWq.zJ ?_ | (refine Both.mk ?_ ?_ <;> intro hc <;> (first | exact Bool.noConfusion hc | exact absurd (by with_reducible rfl) hc | exact absurd (by assumption) hc | exact absurd hc (by assumption) | (exfalso; omega) | exact absurd hc (by decide) | skip)) | (intro c hc; (try (simp only [AH.zA] at hc; repeat (have hn := hc.1; replace hc := hc.2))); (first | (refine zP hc ?_ ?_ ?_ ; omega; omega; (clear hc; intro hc; subst hc)) | subst hc | skip)) | (apply Exists.intro; apply And.intro; (first | (focus (repeat (first | exact AH.zC _ _ _)); done))) | (apply Exists.intro; apply And.intro; first | ((try simp only [zW, z0z, zZ, zY]); first | rfl)) | (apply And.intro; (first | rfl | omega)))) <;> (try (conv => whnf))
      rw [hRe]
      exact ⟨rfl, e, b, canon_err b he, hbl, rfl⟩
open Go.Fw Go
set_option maxRecDepth 8000 in
theorem unzigzag_c (z : Nat) (hz : z < 2 ^ 64) (H : AH) : ACall Try.prog 42 [.int .u64 z] H (fun y H' => y = .int .i64 (unzz z) ∧ H' = H) := by
 refine zQ zU (dok _) Try.func42 rfl (by decide) rfl ?_
 (repeat' ((conv => whnf); first | refine Then.mk ?_ | refine OpsA.zD ?_ | refine OpsA.zE ?_ | refine AWq.zI ?_ | refine AWq.zB ?_ | refine AWq.ret ?_ | (intro c hc; (try (simp only [AH.zA] at hc; repeat (have hn := hc.1; replace hc := hc.2))); (first | subst hc)) | (apply And.intro; (first | rfl | omega)))) <;> (try (conv => whnf))
 refine ⟨congrArg (AV.int .i64) ?_, rfl⟩
 have e1 : (z : Int).fdiv (2 ^ min (Int.toNat 1) IntKind.u64.bits) = ((z / 2 : Nat) : Int) := by
  rw [show (2 : Int) ^ min (Int.toNat 1) IntKind.u64.bits = 2 by decide, Int.fdiv_eq_ediv_of_nonneg _ (by omega)]
  omega
 have e2 : bitsA .and .u64 (z : Int) 1 = ((z % 2 : Nat) : Int) := by
  show IntKind.u64.wrap ((BitVec.ofInt 64 (z : Int) &&& BitVec.ofInt 64 1).toNat : Int) = _
  have ha : (BitVec.ofInt 64 (z : Int)).toNat = z := by rw [BitVec.toNat_ofInt]; omega
  have hb : (BitVec.ofInt 64 1).toNat = 1 := by decide
  rw [BitVec.toNat_and, ha, hb, Nat.and_one_is_mod, wrap_u64']
  omega
 have e3 : IntKind.i64.wrap ((z / 2 : Nat) : Int) = ((z / 2 : Nat) : Int) := by rw [IntKind.wrap_i64]; omega
 rw [e1, e2, e3]
 show IntKind.i64.wrap ((BitVec.ofInt 64 ((z / 2 : Nat) : Int) ^^^ BitVec.ofInt 64 _).toNat : Int) = _
 have ha : (BitVec.ofInt 64 ((z / 2 : Nat) : Int)).toNat = z / 2 := by rw [BitVec.toNat_ofInt]; omega
 unfold unzz
 by_cases h : z % 2 = 1
 ·rw [h, if_pos rfl, show BitVec.ofInt 64 (IntKind.i64.wrap (0 - IntKind.i64.wrap ((1 : Nat) : Int))) = BitVec.allOnes 64 by decide, BitVec.xor_allOnes, BitVec.toNat_not, ha, IntKind.wrap_i64]
  omega
 ·have h0 : z % 2 = 0 := by omega
  rw [h0, if_neg (by omega), show BitVec.ofInt 64 (IntKind.i64.wrap (0 - IntKind.i64.wrap ((0 : Nat) : Int))) = 0#64 by decide, BitVec.xor_zero, ha, IntKind.wrap_i64]
  omega
theorem rdN_lt {bs : List UInt8} {m : Nat} {r : List UInt8} (h : rdN 0 0 bs = .ok (m, r)) : m < 2 ^ 64 ∧ r.length ≤ bs.length := by
 obtain ⟨n, hm, hb, hn, _⟩ := rdN_uniq bs 0 0 m r (by omega) h
 refine ⟨by omega, ?_⟩
 rw [hb, List.length_append]; omega
theorem rdU_lt (s : RS) : (rdU s).1 < 2 ^ 64 := by
 unfold rdU
 split
 ·exact Nat.two_pow_pos 64
 ·split
  ·rename_i n r h; exact (rdN_lt h).1
  ·exact Nat.two_pow_pos 64
theorem rdLen_bad {s : RS} (h : (rdU s).2.1 ≠ 0) : rdLen s = rdU s := by
 unfold rdLen; rw [if_neg (fun k => h k.1)]
theorem rdLen_more {s : RS} (h : (rdU s).2.1 = 0) (hl : (rdU s).2.2.length < (rdU s).1) : rdLen s = (0, (3, [])) := by
 unfold rdLen; rw [if_pos ⟨h, hl⟩]
theorem rdLen_ok {s : RS} (hl : ¬ (rdU s).2.2.length < (rdU s).1) : rdLen s = rdU s := by
 unfold rdLen; rw [if_neg (fun k => hl k.2)]
theorem rdRaw_bad {s : RS} (h : (rdU s).2.1 ≠ 0) : rdRaw s = ([], (rdU s).2) := by
 unfold rdRaw; rw [rdLen_bad h, if_pos h]
theorem rdRaw_more {s : RS} (h : (rdU s).2.1 = 0) (hl : (rdU s).2.2.length < (rdU s).1) : rdRaw s = ([], (3, [])) := by
 unfold rdRaw; rw [rdLen_more h hl]; rfl
theorem rdRaw_ok {s : RS} (h : (rdU s).2.1 = 0) (hl : ¬ (rdU s).2.2.length < (rdU s).1) : rdRaw s = ((rdU s).2.2.take (rdU s).1, (0, (rdU s).2.2.drop (rdU s).1)) := by
 unfold rdRaw; rw [rdLen_ok hl, if_neg (by rw [h]; simp)]
set_option maxRecDepth 8000 in
theorem rInt_c (p : Nat) (e0 : Int) (b0 : List UInt8) (hb : b0.length ≤ 1000000) (H : AH) :
  ACall Try.prog 18 [.ptr p 0 0] (RdH H p e0 b0) (fun y H' => y = .int .i64 (rdI (canon e0 b0)).1 ∧ ∃ e b, canon e b = (rdI (canon e0 b0)).2 ∧ b.length ≤ b0.length ∧ H' = RdH H p e b) := by
 have hlt := rdU_lt (canon e0 b0)
 have hu := rUint_c p e0 b0 hb H
 unfold rdI
 generalize rdU (canon e0 b0) = R at *
 refine zQ zU (dok _) Try.func18 rfl (by decide) rfl ?_
 (repeat' ((conv => whnf); first | refine Then.mk ?_ | refine OpsA.zD ?_ | refine OpsA.zE ?_ | refine AWq.zI ?_ | refine AWq.zB ?_ | refine AWq.ret ?_ | (apply And.intro; (first | rfl)))) <;> (try (conv => whnf))
 refine hu.mono ?_
 rintro y H' ⟨rfl, e, b, h1, h2, rfl⟩
 (repeat' ((conv => whnf); first | refine Then.mk ?_ | refine OpsA.zD ?_ | refine OpsA.zE ?_ | refine AWq.zI ?_ | refine AWq.zB ?_ | refine AWq.ret ?_ | (apply And.intro; (first | rfl)) | (refine ACall.to (unzigzag_c R.1 hlt _) ?_))) <;> (try (conv => whnf))
 exact ⟨e, b, h1, h2, rfl⟩
set_option maxRecDepth 8000 in
theorem listb_c (p : Nat) (e0 : Int) (b0 : List UInt8) (hb : b0.length ≤ 1000000) (H : AH) :
  ACall Try.prog 46 [.ptr p 0 0, .fn (.func 47) [.ptr p 0 0] []] (RdH H p e0 b0) (fun y H' => y = .cs (u8s (rdRaw (canon e0 b0)).1) (rdRaw (canon e0 b0)).1.length ∧ ∃ e b, canon e b = (rdRaw (canon e0 b0)).2 ∧ b.length ≤ b0.length ∧ H' = RdH H p e b) := by
 have hlt := rdU_lt (canon e0 b0)
 have hu := rUint_c p e0 b0 hb H
 have hz1 := rdRaw_bad (s := canon e0 b0)
 have hz2 := rdRaw_more (s := canon e0 b0)
 have hz3 := rdRaw_ok (s := canon e0 b0)
 generalize rdRaw (canon e0 b0) = Z at *
 generalize rdU (canon e0 b0) = R at *
 obtain ⟨n, s1⟩ := R
 dsimp only at *
 refine ACall.coldX (es := 1) (by simp) ?_
 refine zQ zU (dok _) Try.func46 rfl (by decide) rfl ?_
 (repeat' ((conv => whnf); first | refine Then.mk ?_ | left | refine OpsA.zD ?_ | refine OpsA.zE ?_ | refine AWq.zI ?_ | refine AWq.zB ?_ | refine AWq.zG ?_ | refine AWq.zF ?_ | refine AWq.zH ?_ | refine AWq.ret ?_ | refine AWq.zK ?_ | refine AWq.zJ ?_ | (refine Both.mk ?_ ?_ <;> intro hc <;> (first | exact Bool.noConfusion hc | exact absurd (by with_reducible rfl) hc | exact absurd (by assumption) hc | exact absurd hc (by assumption) | (exfalso; omega) | skip)) | (intro c hc; (try (simp only [AH.zA] at hc; repeat (have hn := hc.1; replace hc := hc.2))); (first | (refine u64_k hc ?_ ?_ ?_ ; omega; omega; (clear hc; intro hc; subst hc)) | skip)) | (apply Exists.intro; apply And.intro; (first | (focus (repeat (first | (with_reducible assumption) | (with_reducible exact AH.zC _ _ _) | ((first | refine AH.zL ?_ ?_); (first | (with_reducible assumption))))); done) | (focus (repeat (first | exact AH.zC _ _ _)); done))) | (apply Exists.intro; apply And.intro; first | (with_reducible assumption) | ((try simp only [zW, z0z, zZ, zY]); first | (with_reducible assumption) | rfl)) | (apply And.intro; (first | rfl | (with_reducible assumption) | omega | (simp <;> omega))))) <;> (try (conv => whnf))
 refine hu.mono ?_
 rintro y H' ⟨rfl, e1, b1, h1, h2, rfl⟩
 by_cases he : e1 = 0
 ·subst he
  rw [canon_ok] at h1
  subst h1
  by_cases hn : b1.length < n
  ·have hZ := hz2 rfl hn
   (repeat' ((conv => whnf); first | refine Then.mk ?_ | left | refine OpsA.zD ?_ | refine OpsA.zE ?_ | refine AWq.zI ?_ | refine AWq.zB ?_ | refine AWq.zG ?_ | refine AWq.zF ?_ | refine AWq.zH ?_ | refine AWq.ret ?_ | refine AWq.zK ?_ | refine AWq.zJ ?_ | (refine Both.mk ?_ ?_ <;> intro hc <;> (first | exact Bool.noConfusion hc | exact absurd (by with_reducible rfl) hc | exact absurd (by assumption) hc | exact absurd hc (by assumption) | (exfalso; omega) | skip)) | (intro c hc; (try (simp only [AH.zA] at hc; repeat (have hn := hc.1; replace hc := hc.2))); (first | (refine u64_k hc ?_ ?_ ?_ ; omega; omega; (clear hc; intro hc; subst hc)) | skip)) | (apply Exists.intro; apply And.intro; (first | (focus (repeat (first | (with_reducible assumption) | (with_reducible exact AH.zC _ _ _) | ((first | refine AH.zL ?_ ?_); (first | (with_reducible assumption))))); done) | (focus (repeat (first | exact AH.zC _ _ _)); done))) | (apply Exists.intro; apply And.intro; first | (with_reducible assumption) | ((try simp only [zW, z0z, zZ, zY]); first | (with_reducible assumption) | rfl)) | (apply And.intro; (first | rfl | (with_reducible assumption) | omega | (simp <;> omega))) | (refine ACall.to (fail_c _ _ _ _ _) ?_))) <;> (try (conv => whnf))
   refine zT (σ := Unit) (6 :: 7 :: 20 :: 21 :: 22 :: 23 :: 24 :: 25 :: 26 :: 27 :: 28 :: 29 :: 30 :: 31 :: 32 :: 33 :: 34 :: 35 :: 36 :: []) (fun _ => [(7, .int .u64 0), (6, .nils)]) (fun _ => RdH H p 3 b1) (fun _ => True) (fun _ => 0) () rfl ?_ ?_ ?_ ?_
   ·trivial
   ·exact ⟨rfl, rfl, trivial⟩
   ·exact HLe.refl _
   ·rintro ⟨⟩ _
    refine AWp.of zU (dok _) rfl ?_
    (repeat' ((conv => whnf); first | refine Then.mk ?_ | left | refine OpsA.zD ?_ | refine OpsA.zE ?_ | refine AWq.zI ?_ | refine AWq.zB ?_ | refine AWq.zG ?_ | refine AWq.zF ?_ | refine AWq.zH ?_ | refine AWq.ret ?_ | refine AWq.zK ?_ | refine AWq.zJ ?_ | (refine Both.mk ?_ ?_ <;> intro hc <;> (first | exact Bool.noConfusion hc | exact absurd (by with_reducible rfl) hc | exact absurd (by assumption) hc | exact absurd hc (by assumption) | (exfalso; omega) | skip)) | (intro c hc; (try (simp only [AH.zA] at hc; repeat (have hn := hc.1; replace hc := hc.2))); (first | (refine u64_k hc ?_ ?_ ?_ ; omega; omega; (clear hc; intro hc; subst hc)) | skip)) | (apply Exists.intro; apply And.intro; (first | (focus (repeat (first | (with_reducible assumption) | (with_reducible exact AH.zC _ _ _) | ((first | refine AH.zL ?_ ?_); (first | (with_reducible assumption))))); done) | (focus (repeat (first | exact AH.zC _ _ _)); done))) | (apply Exists.intro; apply And.intro; first | (with_reducible assumption) | ((try simp only [zW, z0z, zZ, zY]); first | (with_reducible assumption) | rfl)) | (apply And.intro; (first | rfl | (with_reducible assumption) | omega | (simp <;> omega))))) <;> (try (conv => whnf))
    rw [hZ]
    exact ⟨_, ⟨3, b1, canon_err _ (by decide), h2, rfl⟩, .inl ⟨rfl, rfl, HLe.refl _⟩⟩
  ·have hZ : Z = (b1.take n, (0, b1.drop n)) := hz3 rfl hn
   have hn' : n ≤ b1.length := by omega
   (repeat' ((conv => whnf); first | refine Then.mk ?_ | left | refine OpsA.zD ?_ | refine OpsA.zE ?_ | refine AWq.zI ?_ | refine AWq.zB ?_ | refine AWq.zG ?_ | refine AWq.zF ?_ | refine AWq.zH ?_ | refine AWq.ret ?_ | refine AWq.zK ?_ | refine AWq.zJ ?_ | (refine Both.mk ?_ ?_ <;> intro hc <;> (first | exact Bool.noConfusion hc | exact absurd (by with_reducible rfl) hc | exact absurd (by assumption) hc | exact absurd hc (by assumption) | (exfalso; omega) | skip)) | (intro c hc; (try (simp only [AH.zA] at hc; repeat (have hn := hc.1; replace hc := hc.2))); (first | (refine u64_k hc ?_ ?_ ?_ ; omega; omega; (clear hc; intro hc; subst hc)) | skip)) | (apply Exists.intro; apply And.intro; (first | (focus (repeat (first | (with_reducible assumption) | (with_reducible exact AH.zC _ _ _) | ((first | refine AH.zL ?_ ?_); (first | (with_reducible assumption))))); done) | (focus (repeat (first | exact AH.zC _ _ _)); done))) | (apply Exists.intro; apply And.intro; first | (with_reducible assumption) | ((try simp only [zW, z0z, zZ, zY]); first | (with_reducible assumption) | rfl)) | (apply And.intro; (first | rfl | (with_reducible assumption) | omega | (simp <;> omega))))) <;> (try (conv => whnf))
   refine AWp_nilrow1 6 1 rfl rfl fun r hr => ?_
   have hrp : r ≠ p := fun e => by rw [e] at hr; unfold RdH at hr; rw [AH.zC] at hr; cases hr
   have hr0 : H r = none := by unfold RdH at hr; rw [AH.zR _ _ hrp] at hr; exact hr
   refine zT (σ := Nat × Nat) (6 :: 7 :: 20 :: 21 :: 22 :: 23 :: 24 :: 25 :: 26 :: 27 :: 28 :: 29 :: 30 :: 31 :: 32 :: 33 :: 34 :: 35 :: 36 :: []) (fun (i, v) => [(7, .int .u64 i), (6, .sl r v 1 0 i none)]) (fun (i, v) => RdH (H.set r (.row (u8s (b1.take i)) v)) p 0 (b1.drop i)) (fun (i, v) => i ≤ n) (fun (i, v) => n - i) (0, 0) rfl ?_ ?_ ?_ ?_
   ·exact Nat.zero_le _
   ·exact ⟨rfl, rfl, trivial⟩
   ·exact HLe.of_eq (AH.set_comm _ _ _ hrp)
   ·rintro ⟨i, v⟩ hi
    refine AWp.of zU (dok _) rfl ?_
    have hi : i ≤ n := hi
    have hdl : (b1.drop i).length = b1.length - i := List.length_drop
    (repeat' ((conv => whnf); first | refine Then.mk ?_ | left | refine OpsA.zD ?_ | refine OpsA.zE ?_ | refine AWq.zI ?_ | refine AWq.zB ?_ | refine AWq.zG ?_ | refine AWq.zF ?_ | refine AWq.zH ?_ | refine AWq.ret ?_ | refine AWq.zK ?_ | refine AWq.zJ ?_ | (refine Both.mk ?_ ?_ <;> intro hc <;> (first | exact Bool.noConfusion hc | exact absurd (by with_reducible rfl) hc | exact absurd (by assumption) hc | exact absurd hc (by assumption) | (exfalso; omega) | skip)) | (intro c hc; (try (simp only [AH.zA] at hc; repeat (have hn := hc.1; replace hc := hc.2))); (first | (refine u64_k hc ?_ ?_ ?_ ; omega; omega; (clear hc; intro hc; subst hc)) | skip)) | (apply Exists.intro; apply And.intro; (first | (focus (repeat (first | (with_reducible assumption) | (with_reducible exact AH.zC _ _ _) | ((first | refine AH.zL ?_ ?_); (first | (with_reducible assumption))))); done) | (focus (repeat (first | exact AH.zC _ _ _)); done))) | (apply Exists.intro; apply And.intro; first | (with_reducible assumption) | ((try simp only [zW, z0z, zZ, zY]); first | (with_reducible assumption) | rfl)) | (apply And.intro; (first | rfl | (with_reducible assumption) | omega | (simp <;> omega))))) <;> (try (conv => whnf))
    ·have hlt' : i < n := by omega
     have hnx := next_c p 0 (b1.drop i) (by omega) (H.set r (.row (u8s (b1.take i)) v))
     have e1 : nx 0 (b1.drop i) = ((b1.getD i 0).toNat, 0, b1.drop (i + 1)) := by
      unfold nx; rw [if_neg (by simp), if_neg (by omega), List.drop_drop]
      simp
     rw [e1] at hnx
     dsimp only at hnx
     (repeat' ((conv => whnf); first | refine Then.mk ?_ | left | refine OpsA.zD ?_ | refine OpsA.zE ?_ | refine AWq.zI ?_ | refine AWq.zB ?_ | refine AWq.zG ?_ | refine AWq.zF ?_ | refine AWq.zH ?_ | refine AWq.ret ?_ | refine AWq.zK ?_ | refine AWq.zJ ?_ | (refine Both.mk ?_ ?_ <;> intro hc <;> (first | exact Bool.noConfusion hc | exact absurd (by with_reducible rfl) hc | exact absurd (by assumption) hc | exact absurd hc (by assumption) | (exfalso; omega) | skip)) | (intro c hc; (try (simp only [AH.zA] at hc; repeat (have hn := hc.1; replace hc := hc.2))); (first | (refine u64_k hc ?_ ?_ ?_ ; omega; omega; (clear hc; intro hc; subst hc)) | skip)) | (apply Exists.intro; apply And.intro; (first | (focus (repeat (first | (with_reducible assumption) | (with_reducible exact AH.zC _ _ _) | ((first | refine AH.zL ?_ ?_); (first | (with_reducible assumption))))); done) | (focus (repeat (first | exact AH.zC _ _ _)); done))) | (apply Exists.intro; apply And.intro; first | (with_reducible assumption) | ((try simp only [zW, z0z, zZ, zY]); first | (with_reducible assumption) | rfl)) | (apply And.intro; (first | rfl | (with_reducible assumption) | omega | (simp <;> omega))) | (refine ACall.to (hnx) ?_))) <;> (try (conv => whnf))
     refine ⟨(i + 1, v + 1), by show i + 1 ≤ n; omega, by show n - (i + 1) < n - i; omega, ⟨congrArg (AV.int .u64) (by omega), rfl, trivial⟩, ?_⟩
     show HLe (RdH (H.set r (.row (u8s (b1.take (i + 1))) (v + 1))) p 0 (b1.drop (i + 1))) _
     rw [List.take_add_one, List.getElem?_eq_getElem (show i < b1.length by omega), ← u8s_append]
     refine HLe.of_eq (Eq.trans ?_ (AH.set_back H hrp _ _ _).symm)
     have : b1.getD i 0 = b1[i]'(by omega) := by simp [show i < b1.length by omega]
     rw [this]
     rfl
    ·have hin : i = n := by omega
     subst hin
     rw [hZ]
     refine ⟨RdH H p 0 (b1.drop i), ⟨0, b1.drop i, canon_ok _, by omega, rfl⟩, .inr ⟨r, by unfold RdH; rw [AH.zR _ _ hrp]; exact hr0, v, ?_, ?_⟩⟩
     ·rw [List.length_take, Nat.min_eq_left hn']
     ·exact AH.set_comm _ _ _ (Ne.symm hrp) |>.symm
 ·rw [canon_err _ he] at h1
  subst h1
  have hZ := hz1 he
  have hf := fail_c p 3 e1 b1 H
  rw [if_neg he] at hf
  (repeat' ((conv => whnf); first | refine Then.mk ?_ | left | refine OpsA.zD ?_ | refine OpsA.zE ?_ | refine AWq.zI ?_ | refine AWq.zB ?_ | refine AWq.zG ?_ | refine AWq.zF ?_ | refine AWq.zH ?_ | refine AWq.ret ?_ | refine AWq.zK ?_ | refine AWq.zJ ?_ | (refine Both.mk ?_ ?_ <;> intro hc <;> (first | exact Bool.noConfusion hc | exact absurd (by with_reducible rfl) hc | exact absurd (by assumption) hc | exact absurd hc (by assumption) | (exfalso; omega) | skip)) | (intro c hc; (try (simp only [AH.zA] at hc; repeat (have hn := hc.1; replace hc := hc.2))); (first | (refine u64_k hc ?_ ?_ ?_ ; omega; omega; (clear hc; intro hc; subst hc)) | skip)) | (apply Exists.intro; apply And.intro; (first | (focus (repeat (first | (with_reducible assumption) | (with_reducible exact AH.zC _ _ _) | ((first | refine AH.zL ?_ ?_); (first | (with_reducible assumption))))); done) | (focus (repeat (first | exact AH.zC _ _ _)); done))) | (apply Exists.intro; apply And.intro; first | (with_reducible assumption) | ((try simp only [zW, z0z, zZ, zY]); first | (with_reducible assumption) | rfl)) | (apply And.intro; (first | rfl | (with_reducible assumption) | omega | (simp <;> omega))) | (refine ACall.to (hf) ?_))) <;> (try (conv => whnf))
  all_goals
   refine zT (σ := Unit) (6 :: 7 :: 20 :: 21 :: 22 :: 23 :: 24 :: 25 :: 26 :: 27 :: 28 :: 29 :: 30 :: 31 :: 32 :: 33 :: 34 :: 35 :: 36 :: []) (fun _ => [(7, .int .u64 0), (6, .nils)]) (fun _ => RdH H p e1 b1) (fun _ => True) (fun _ => 0) () rfl ?_ ?_ ?_ ?_
   ·trivial
   ·exact ⟨rfl, rfl, trivial⟩
   ·exact HLe.refl _
   ·rintro ⟨⟩ _
    refine AWp.of zU (dok _) rfl ?_
    (repeat' ((conv => whnf); first | refine Then.mk ?_ | left | refine OpsA.zD ?_ | refine OpsA.zE ?_ | refine AWq.zI ?_ | refine AWq.zB ?_ | refine AWq.zG ?_ | refine AWq.zF ?_ | refine AWq.zH ?_ | refine AWq.ret ?_ | refine AWq.zK ?_ | refine AWq.zJ ?_ | (refine Both.mk ?_ ?_ <;> intro hc <;> (first | exact Bool.noConfusion hc | exact absurd (by with_reducible rfl) hc | exact absurd (by assumption) hc | exact absurd hc (by assumption) | (exfalso; omega) | skip)) | (intro c hc; (try (simp only [AH.zA] at hc; repeat (have hn := hc.1; replace hc := hc.2))); (first | (refine u64_k hc ?_ ?_ ?_ ; omega; omega; (clear hc; intro hc; subst hc)) | skip)) | (apply Exists.intro; apply And.intro; (first | (focus (repeat (first | (with_reducible assumption) | (with_reducible exact AH.zC _ _ _) | ((first | refine AH.zL ?_ ?_); (first | (with_reducible assumption))))); done) | (focus (repeat (first | exact AH.zC _ _ _)); done))) | (apply Exists.intro; apply And.intro; first | (with_reducible assumption) | ((try simp only [zW, z0z, zZ, zY]); first | (with_reducible assumption) | rfl)) | (apply And.intro; (first | rfl | (with_reducible assumption) | omega | (simp <;> omega))))) <;> (try (conv => whnf))
    all_goals
     rw [hZ]
     exact ⟨_, ⟨e1, b1, canon_err _ he, h2, rfl⟩, .inl ⟨rfl, rfl, HLe.refl _⟩⟩
open Go.Fw Go
set_option maxRecDepth 8000 in
theorem rRaw_c (p : Nat) (e0 : Int) (b0 : List UInt8) (hb : b0.length ≤ 1000000) (H : AH) :
  ACall Try.prog 20 [.ptr p 0 0] (RdH H p e0 b0) (fun y H' => y = .cs (u8s (rdRaw (canon e0 b0)).1) (rdRaw (canon e0 b0)).1.length ∧ ∃ e b, canon e b = (rdRaw (canon e0 b0)).2 ∧ b.length ≤ b0.length ∧ H' = RdH H p e b) := by
 have hu := listb_c p e0 b0 hb H
 generalize rdRaw (canon e0 b0) = R at *
 refine zQ zU (dok _) Try.func20 rfl (by decide) rfl ?_
 (repeat' ((conv => whnf); first | refine Then.mk ?_ | refine OpsA.zD ?_ | refine OpsA.zE ?_ | refine AWq.zI ?_ | refine AWq.zB ?_ | refine AWq.ret ?_ | (apply And.intro; (first | rfl)))) <;> (try (conv => whnf))
 refine hu.mono ?_
 rintro y H' ⟨rfl, e, b, h1, h2, rfl⟩
 (repeat' ((conv => whnf); first | refine Then.mk ?_ | refine OpsA.zD ?_ | refine OpsA.zE ?_ | refine AWq.zI ?_ | refine AWq.zB ?_ | refine AWq.ret ?_ | (apply And.intro; (first | rfl)))) <;> (try (conv => whnf))
 exact ⟨e, b, h1, h2, rfl⟩
set_option maxRecDepth 8000 in
theorem rEnd_c (p : Nat) (e : Int) (b : List UInt8) (H : AH) :
  ACall Try.prog 75 [.ptr p 0 0] (RdH H p e b) (fun y H' => y = .int .i64 (endE (canon e b)) ∧ H' = RdH H p e b) := by
 have h1 : e ≠ 0 → endE (canon e b) = e := fun h => by rw [canon_err _ h]; unfold endE; rw [if_neg (fun k => h k.1)]
 have h2 : e = 0 → b.length = 0 → endE (canon e b) = 0 := fun h h' => by
  have : b = [] := List.eq_nil_of_length_eq_zero h'
  rw [h, canon_ok, this]; rfl
 have h3 : e = 0 → ¬ b.length = 0 → endE (canon e b) = 2 := fun h h' => by
  rw [h, canon_ok]; unfold endE; rw [if_pos ⟨rfl, fun k => h' (by rw [show b = [] from k]; rfl)⟩]
 generalize endE (canon e b) = x at *
 refine zQ zU (dok _) Try.func75 rfl (by decide) rfl ?_
 (repeat' ((conv => whnf); first | refine Then.mk ?_ | refine OpsA.zD ?_ | refine OpsA.zE ?_ | refine AWq.zI ?_ | refine AWq.zB ?_ | refine AWq.zG ?_ | refine AWq.zH ?_ | refine AWq.ret ?_ | (refine Both.mk ?_ ?_ <;> intro hc <;> (first | exact Bool.noConfusion hc | skip)) | (apply Exists.intro; apply And.intro; (first | (focus (repeat (first | exact AH.zC _ _ _)); done))) | (apply Exists.intro; apply And.intro; first | ((try simp only [zW, z0z, zZ, zY]); first | rfl)) | (apply And.intro; (first | rfl | (simp <;> omega))))) <;> (try (conv => whnf))
set_option maxRecDepth 8000 in
theorem Read_c (b : List UInt8) (hb : b.length ≤ 1000000) (H : AH) :
  ACall Try.prog 17 [.cs (u8s b) b.length] H (fun y H' => ∃ p, H p = none ∧ y = .ptr p 0 0 ∧ H' = RdH H p 0 b) := by
 refine zQ zU (dok _) Try.func17 rfl (by decide) rfl ?_
 (repeat' ((conv => whnf); first | refine Then.mk ?_ | left | refine OpsA.zD ?_ | refine OpsA.zE ?_ | refine AWq.zI ?_ | refine AWq.zB ?_ | refine AWq.ret ?_ | (intro c hc; (try (simp only [AH.zA] at hc; repeat (have hn := hc.1; replace hc := hc.2))); (first | skip)) | (apply Exists.intro; apply And.intro; (first | (focus (repeat (first | (with_reducible assumption))); done))) | (apply And.intro; (first | rfl | (with_reducible assumption))) | (refine ACall.to (ACall.coldN (es := 1) (by simp) (clone_cs b hb _)) ?_))) <;> (try (conv => whnf))
 rfl
open Go.Fw Go
theorem AWp_writer {P : Program} {N : Nat} {ro : Option Nat} {ws : Nat → Bool} {code : Code} {K R : St → AH → Prop} {X : Nat → St → AH → Prop} {s : St} {H : AH} {c : Nat} (hc : H c = none)
  (h : ∀ r, c ≠ r → H r = none → AWp N P ro ws code K R X s (WrH H c r 0 [])) : AWp N P ro ws code K R X s (H.set c (.row [.nils] 0)) := by
 refine AWp_nilC 1 [] [] (p := c) (AH.zC ..) fun r hr hrc => ?_
 have := h r (Ne.symm hrc) (by rw [AH.zR _ _ hrc] at hr; exact hr)
 refine AWp_less _ (HLe.of_eq ?_) this
 exact (AH.set_back H (Ne.symm hrc) _ _ _).symm
theorem canon_zero {e : Int} {b r : List UInt8} (h : canon e b = (0, r)) : e = 0 ∧ b = r := by
 have h1 : e = 0 := congrArg Prod.fst h
 subst h1
 rw [canon_ok] at h
 exact ⟨rfl, congrArg Prod.snd h⟩
theorem rInt_ok (p : Nat) {b r : List UInt8} {x : Int} (hb : b.length ≤ 1000000) (h : rdI (0, b) = (x, (0, r))) (H : AH) : ACall Try.prog 18 [.ptr p 0 0] (RdH H p 0 b) (fun y H' => y = .int .i64 x ∧ H' = RdH H p 0 r) := by
 have := rInt_c p 0 b hb H
 rw [canon_ok, h] at this
 refine this.mono ?_
 rintro y H' ⟨rfl, e, b', h1, _, rfl⟩
 obtain ⟨rfl, rfl⟩ := canon_zero h1
 exact ⟨rfl, rfl⟩
theorem rRaw_ok (p : Nat) {b r : List UInt8} {x : List UInt8} (hb : b.length ≤ 1000000) (h : rdRaw (0, b) = (x, (0, r))) (H : AH) : ACall Try.prog 20 [.ptr p 0 0] (RdH H p 0 b) (fun y H' => y = .cs (u8s x) x.length ∧ H' = RdH H p 0 r) := by
 have := rRaw_c p 0 b hb H
 rw [canon_ok, h] at this
 refine this.mono ?_
 rintro y H' ⟨rfl, e, b', h1, _, rfl⟩
 obtain ⟨rfl, rfl⟩ := canon_zero h1
 exact ⟨rfl, rfl⟩
theorem wDone_g (p r v : Nat) (bs : List UInt8) (hb : bs.length ≤ 1000000) (H : AH) (hpr : p ≠ r) (h1 : H p = some (.row [.sl r v 1 0 bs.length none] 0)) (h2 : H r = some (.row (u8s bs) v)) :
  ACall Try.prog 22 [.ptr p 0 0] H (fun y H' => y = .cs (u8s bs) bs.length ∧ H' = H) := by
 have := wDone_c p r v bs hb H hpr
 rwa [← WrH_id h1 h2] at this
open Go.Fw Go
def byteOf (x : Int) (j : Nat) : UInt8 := UInt8.ofNat ((x.fdiv (2 ^ j)) % 256).toNat
def bytesOf (x : Int) (n : Nat) : List UInt8 := (List.range n).map (byteOf x)
open Go.Fw Go
theorem encI_len {n : Int} (h : I64 n) : (encI n).length ≤ 10 := encN_len10 (zz_lt h.1 h.2)
theorem encIs_len10 : ∀ l : List Int, (∀ x ∈ l, I64 x) → (encIs l).length ≤ 10 * l.length
 | [], _ => Nat.zero_le _
 | x :: l, h => by
  have := encIs_len10 l (fun y hy => h y (by simp [hy]))
  have := encI_len (h x (by simp))
  have e : encIs (x :: l) = encI x ++ encIs l := by simp [encIs]
  rw [e, List.length_append, List.length_cons]; omega
structure VSm (v : V) : Prop where
 ok : VOk v
 b : v.b.length ≤ 200
 l : v.l.length ≤ 20
theorem VSm.w {v : V} (h : VSm v) : WOk v := ⟨h.ok.u, h.ok.n, by have := h.b; omega, by have := h.l; omega, h.ok.l⟩
theorem encV_len {v : V} (h : VSm v) : (encV v).length ≤ 300 := by
 unfold encV
 repeat' split
 ·have := encN_len10 h.ok.u; omega
 ·have := encI_len h.ok.n; omega
 ·unfold encB; split <;> simp
 ·unfold encR
  have := h.b
  have := encN_len10 (n := v.b.length) (by omega)
  rw [List.length_append]; omega
 ·unfold encL
  have := h.l
  have := encN_len10 (n := v.l.length) (by omega)
  have := encIs_len10 v.l h.ok.l
  rw [List.length_append]; omega
theorem encVs_len : ∀ vs : List V, (∀ v ∈ vs, VSm v) → (encVs vs).length ≤ 300 * vs.length
 | [], _ => Nat.zero_le _
 | v :: vs, h => by
  have := encVs_len vs (fun y hy => h y (by simp [hy]))
  have := encV_len (h v (by simp))
  have e : encVs (v :: vs) = encV v ++ encVs vs := by simp [encVs]
  rw [e, List.length_append, List.length_cons]; omega
theorem VSm.bd {vs : List V} (hv : ∀ v ∈ vs, VSm v) (hl : vs.length ≤ 100) : (encVs vs).length ≤ 100000 := by
 have := encVs_len vs hv; omega
open Go.Fw Go
theorem ints_len {l : List Int} (h : I64L l) {m : Nat} (hm : l.length ≤ m) (hm2 : m ≤ 65536) : (intsS l).1.length ≤ 130 * m + 4 ∧ (intsS l).2 = 0 := by
 unfold intsS
 rw [if_pos (by omega)]
 have h1 := code_len (intsI (l.map fold) is0).E.σ
 have h2 := intsI_L (l.map fold) (I := is0) (fold_all h) is0_ok
 have h0 : is0.E.σ.L = 0 := rfl
 rw [h0, List.length_map] at h2
 exact ⟨by dsimp only; omega, rfl⟩
theorem runsR_mem : ∀ (n : Nat) (L : List Int), L.length = n → ∀ p, p ∈ runsR L → p.1 ∈ L ∧ 0 < p.2 ∧ p.2 ≤ L.length
 | 0, L, hn, p, hp => by
  rw [List.eq_nil_of_length_eq_zero hn] at hp
  cases hp
 | n + 1, L, hn, p, hp => by
  rcases list_end L with rfl | ⟨S, l, rfl⟩
  ·cases hn
  ·have hS : S.length = n := by rw [List.length_append, List.length_singleton] at hn; omega
   have ih := runsR_mem n S hS
   rw [runsR_snoc] at hp
   rw [List.length_append, List.length_singleton]
   rcases list_end (runsR S) with e | ⟨R, ⟨x, m⟩, e⟩
   ·rw [e, pushR_nil] at hp
    simp only [List.mem_singleton] at hp
    rw [hp]; exact ⟨by simp, Nat.one_pos, by dsimp only; omega⟩
   ·rw [e] at hp ih
    have ihx := ih (x, m) (by simp)
    dsimp only at ihx
    by_cases h : x = l
    ·subst h
     rw [pushR_same] at hp
     rcases List.mem_append.1 hp with h1 | h1
     ·have := ih p (List.mem_append_left _ h1)
      exact ⟨List.mem_append_left _ this.1, this.2.1, by omega⟩
     ·simp only [List.mem_singleton] at h1
      rw [h1]; exact ⟨by simp, by dsimp only; omega, by dsimp only; omega⟩
    ·rw [pushR_new _ _ _ _ h] at hp
     rcases List.mem_append.1 hp with h1 | h1
     ·have := ih p h1
      exact ⟨List.mem_append_left _ this.1, this.2.1, by omega⟩
     ·simp only [List.mem_singleton] at h1
      rw [h1]; exact ⟨by simp, Nat.one_pos, by dsimp only; omega⟩
theorem flat_I64 {L : List Int} (h : I64L L) (hl : L.length ≤ 5000) : I64L (flatR (runsR L)) := fun x hx => by
 unfold flatR at hx
 obtain ⟨p, hp, hxp⟩ := List.mem_flatMap.1 hx
 have := runsR_mem _ L rfl p hp
 simp only [List.mem_cons, List.not_mem_nil, or_false] at hxp
 rcases hxp with rfl | rfl
 ·exact h _ this.1
 ·omega
def labP (L : List Int) : List UInt8 := encI ((runsR L).length : Int) ++ encR (intsS (flatR (runsR L))).1
theorem encR_len {b : List UInt8} (h : b.length < 2 ^ 64) : (encR b).length ≤ b.length + 10 := by
 unfold encR
 have := encN_len10 h
 rw [List.length_append]; omega
theorem flat_small {L : List Int} (hl : L.length ≤ 300) : (flatR (runsR L)).length ≤ 600 := by
 have := runsR_len L
 rw [flatR_len]; omega
theorem labP_len {L : List Int} (h : I64L L) (hl : L.length ≤ 300) : (labP L).length ≤ 79000 := by
 have h1 := (ints_len (flat_I64 h (by omega)) (m := 600) (flat_small hl) (by omega)).1
 have h2 := encR_len (b := (intsS (flatR (runsR L))).1) (by omega)
 have h3 := runsR_len L
 have h4 := encI_len (n := ((runsR L).length : Int)) (by unfold I64; omega)
 unfold labP
 rw [List.length_append]; omega
set_option maxRecDepth 8000 in
set_option maxHeartbeats 4000000 in
theorem labelPart_c (L : List Int) (h : I64L L) (hl : L.length ≤ 300) (H : AH) : ACall Try.prog 30 [.cs (iS .i64 L) L.length] H (fun y H' => y = .cs (u8s (labP L)) (labP L).length ∧ H' = H) := by
 have rc := fun H => runs_c L (by omega) H
 have hfl := flat_small hl
 have hfI := flat_I64 h (by omega)
 have ic := fun H => cInts_c (flatR (runsR L)) hfI (by omega) H
 obtain ⟨hil, hi0⟩ := ints_len hfI hfl (by omega)
 unfold k_resV at ic
 rw [hi0] at ic
 have hfe := flatR_len (runsR L)
 have hrl := runsR_len L
 have hlp := labP_len h hl
 unfold labP at hlp ⊢
 generalize flatR (runsR L) = R at *
 generalize (runsR L).length = n at *
 generalize (intsS R).1 = B at *
 rw [hfe] at rc ic
 refine ACall.back ?_
 refine zQ zU (dok _) Try.func30 rfl (by decide) rfl ?_
 (repeat' ((conv => whnf); first | refine OpsA.zD ?_ | refine OpsA.zE ?_ | refine AWq.zI ?_ | refine AWq.zB ?_ | refine AWq.ret ?_ | (intro c hc; (try (simp only [AH.zA] at hc; repeat (have hn := hc.1; replace hc := hc.2))); (first | (have hc2 := Eq.trans hc (by with_reducible assumption); clear hc; subst hc2) | skip)) | (apply And.intro; (first | rfl | omega)))) <;> (try (conv => whnf))
 refine Then.mk ?_
 (repeat' ((conv => whnf); first | refine OpsA.zD ?_ | refine OpsA.zE ?_ | refine AWq.zI ?_ | refine AWq.zB ?_ | refine AWq.ret ?_ | (intro c hc; (try (simp only [AH.zA] at hc; repeat (have hn := hc.1; replace hc := hc.2))); (first | (have hc2 := Eq.trans hc (by with_reducible assumption); clear hc; subst hc2) | skip)) | (apply And.intro; (first | rfl | omega)))) <;> (try (conv => whnf))
 (obtain ⟨w, hq_⟩ : ∃ w, w = c := ⟨_, rfl⟩); subst hq_
 have hcc : H w = none := hc
 refine Then.mk (AWq.in ?_)
 refine AWp_writer hcc fun r hcr hr => ?_
 have hle : ∀ v bs, HLe H (WrH H w r v bs) := fun v bs => HLe.set_of _ _ (HLe.set_of _ _ (HLe.refl _) hcc) hr
 refine AWp.of zU (dok _) rfl ?_
 have e1 : IntKind.i64.wrap (((2 * n : Nat) : Int).tdiv 2) = n := by
  rw [show ((2 * n : Nat) : Int).tdiv 2 = ((2 * n / 2 : Nat) : Int) from rfl, IntKind.wrap_i64]; omega
 have hn10 := encI_len (n := (n : Int)) (by unfold I64; omega)
 have h1 := wInt_c w r 0 [] n (by unfold I64; omega) (by simp) H hcr
 have h2 := fun v => wRaw_c w r v (encI n) B (by omega) (by omega) H hcr
 have h3 := fun v => wDone_c w r v (encI n ++ encR B) (by omega) H hcr
 rw [List.nil_append] at h1
 generalize hG : WrH H w r 0 [] = G at *
 (repeat' ((conv => whnf); first | refine Then.mk ?_ | refine OpsA.zD ?_ | refine OpsA.zE ?_ | refine AWq.zI ?_ | refine AWq.zB ?_ | refine AWq.ret ?_ | (intro c hc; (try (simp only [AH.zA] at hc; repeat (have hn := hc.1; replace hc := hc.2))); (first | (have hc2 := Eq.trans hc (by with_reducible assumption); clear hc; subst hc2) | skip)) | (apply And.intro; (first | rfl | omega)) | (refine ACall.to (rc _) ?_) | (refine ACall.to (ic _) ?_))) <;> (try (conv => whnf))
 refine h1.mono ?_
 rintro y H' ⟨rfl, v1, rfl⟩
 have h2 := h2 v1
 generalize hG1 : WrH H w r v1 (encI n) = G1 at *
 (repeat' ((conv => whnf); first | refine Then.mk ?_ | refine OpsA.zD ?_ | refine OpsA.zE ?_ | refine AWq.zI ?_ | refine AWq.zB ?_ | refine AWq.ret ?_ | (intro c hc; (try (simp only [AH.zA] at hc; repeat (have hn := hc.1; replace hc := hc.2))); (first | (have hc2 := Eq.trans hc (by with_reducible assumption); clear hc; subst hc2) | skip)) | (apply And.intro; (first | rfl | omega)))) <;> (try (conv => whnf))
 refine h2.mono ?_
 rintro y H' ⟨rfl, v2, rfl⟩
 have h3 := h3 v2
 have hle := hle v2 (encI n ++ encR B)
 generalize hG2 : WrH H w r v2 (encI n ++ encR B) = G2 at *
 (repeat' ((conv => whnf); first | refine Then.mk ?_ | refine OpsA.zD ?_ | refine OpsA.zE ?_ | refine AWq.zI ?_ | refine AWq.zB ?_ | refine AWq.ret ?_ | (intro c hc; (try (simp only [AH.zA] at hc; repeat (have hn := hc.1; replace hc := hc.2))); (first | (have hc2 := Eq.trans hc (by with_reducible assumption); clear hc; subst hc2) | skip)) | (apply And.intro; (first | rfl | omega)) | (refine ACall.to (h3) ?_))) <;> (try (conv => whnf))
 exact hle
set_option maxRecDepth 8000 in
set_option maxHeartbeats 4000000 in
theorem bandPart_c {Z : List Int} (hz : ZO Z) (hzig : ∀ H, ACall Try.prog 62 [.int .i64 16] H (fun y H' => y = .tup [.cs (iS .i64 Z) 256, .int .i64 0] ∧ H' = H)) (a : List Int) (h : BOk a) (H : AH) :
  ACall Try.prog 31 [.cs (iS .i64 a) 256] H (fun y H' => y = .cs (u8s (bandP Z a)) (bandP Z a).length ∧ H' = H) := by
 have fw : ∀ H, ACall Try.prog 61 [.int .i64 16, .cs (iS .i64 a) 256] H (fun y H' => y = .tup [.cs (iS .i64 (coefL a)) 256, .int .i64 0] ∧ H' = H) := fun H => by
  have := Forward_ok 4 (by decide) a (by rw [h.len]) h.inA H
  unfold resV at this
  rw [h.len] at this
  have e : (toL (2 ^ 4) (fwd 4 (ofL (2 ^ 4) a))).length = 256 := coefL_len a
  dsimp only at this
  rw [e] at this
  exact this
 have hsI : I64L (sortL Z a) := sortL_ok hz h
 have hsl := sortL_len hz a
 have ic := fun H => cInts_c (sortL Z a) hsI (by omega) H
 obtain ⟨hil, hi0⟩ := ints_len hsI (m := 256) (by omega) (by omega)
 unfold k_resV at ic
 rw [hi0, hsl] at ic
 unfold bandP
 generalize (intsS (sortL Z a)).1 = B at *
 have hzl : (iS .i64 Z).length = 256 := by rw [iS_length]; exact hz.len
 have hcl : (iS .i64 (coefL a)).length = 256 := by rw [iS_length]; exact coefL_len a
 refine ACall.back ?_
 refine zQ zU (dok _) Try.func31 rfl (by decide) rfl ?_
 (repeat' ((conv => whnf); first | left | refine OpsA.zD ?_ | refine OpsA.zE ?_ | refine AWq.zI ?_ | refine AWq.zB ?_ | refine AWq.zG ?_ | refine AWq.zF ?_ | refine AWq.zH ?_ | refine AWq.ret ?_ | refine AWq.zK ?_ | refine AWq.zJ ?_ | (refine Both.mk ?_ ?_ <;> intro hc <;> (first | exact Bool.noConfusion hc | (exfalso; omega) | skip)) | (intro c hc; (try (simp only [AH.zA] at hc; repeat (have hn := hc.1; replace hc := hc.2))); (first | (refine zP hc ?_ ?_ ?_ ; omega; omega; (clear hc; intro hc; subst hc)) | skip)) | (apply Exists.intro; apply And.intro; (first | (focus (repeat (first | (with_reducible assumption))); done))) | (apply Exists.intro; apply And.intro; first | (with_reducible assumption) | ((try simp only [zW, z0z, zZ, zY]); first | (with_reducible assumption) | rfl)) | (apply And.intro; (first | rfl | (with_reducible assumption) | omega)))) <;> (try (conv => whnf))
 refine Then.mk ?_
 (repeat' ((conv => whnf); first | left | refine OpsA.zD ?_ | refine OpsA.zE ?_ | refine AWq.zI ?_ | refine AWq.zB ?_ | refine AWq.zG ?_ | refine AWq.zF ?_ | refine AWq.zH ?_ | refine AWq.ret ?_ | refine AWq.zK ?_ | refine AWq.zJ ?_ | (refine Both.mk ?_ ?_ <;> intro hc <;> (first | exact Bool.noConfusion hc | (exfalso; omega) | skip)) | (intro c hc; (try (simp only [AH.zA] at hc; repeat (have hn := hc.1; replace hc := hc.2))); (first | (refine zP hc ?_ ?_ ?_ ; omega; omega; (clear hc; intro hc; subst hc)) | skip)) | (apply Exists.intro; apply And.intro; (first | (focus (repeat (first | (with_reducible assumption))); done))) | (apply Exists.intro; apply And.intro; first | (with_reducible assumption) | ((try simp only [zW, z0z, zZ, zY]); first | (with_reducible assumption) | rfl)) | (apply And.intro; (first | rfl | (with_reducible assumption) | omega)) | (refine ACall.to (fw _) ?_))) <;> (try (conv => whnf))
 refine Then.mk ?_
 (repeat' ((conv => whnf); first | left | refine OpsA.zD ?_ | refine OpsA.zE ?_ | refine AWq.zI ?_ | refine AWq.zB ?_ | refine AWq.zG ?_ | refine AWq.zF ?_ | refine AWq.zH ?_ | refine AWq.ret ?_ | refine AWq.zK ?_ | refine AWq.zJ ?_ | (refine Both.mk ?_ ?_ <;> intro hc <;> (first | exact Bool.noConfusion hc | (exfalso; omega) | skip)) | (intro c hc; (try (simp only [AH.zA] at hc; repeat (have hn := hc.1; replace hc := hc.2))); (first | (refine zP hc ?_ ?_ ?_ ; omega; omega; (clear hc; intro hc; subst hc)) | skip)) | (apply Exists.intro; apply And.intro; (first | (focus (repeat (first | (with_reducible assumption))); done))) | (apply Exists.intro; apply And.intro; first | (with_reducible assumption) | ((try simp only [zW, z0z, zZ, zY]); first | (with_reducible assumption) | rfl)) | (apply And.intro; (first | rfl | (with_reducible assumption) | omega)) | (refine ACall.to (hzig _) ?_))) <;> (try (conv => whnf))
 refine Then.mk ?_
 (repeat' ((conv => whnf); first | left | refine OpsA.zD ?_ | refine OpsA.zE ?_ | refine AWq.zI ?_ | refine AWq.zB ?_ | refine AWq.zG ?_ | refine AWq.zF ?_ | refine AWq.zH ?_ | refine AWq.ret ?_ | refine AWq.zK ?_ | refine AWq.zJ ?_ | (refine Both.mk ?_ ?_ <;> intro hc <;> (first | exact Bool.noConfusion hc | (exfalso; omega) | skip)) | (intro c hc; (try (simp only [AH.zA] at hc; repeat (have hn := hc.1; replace hc := hc.2))); (first | (refine zP hc ?_ ?_ ?_ ; omega; omega; (clear hc; intro hc; subst hc)) | skip)) | (apply Exists.intro; apply And.intro; (first | (focus (repeat (first | (with_reducible assumption))); done))) | (apply Exists.intro; apply And.intro; first | (with_reducible assumption) | ((try simp only [zW, z0z, zZ, zY]); first | (with_reducible assumption) | rfl)) | (apply And.intro; (first | rfl | (with_reducible assumption) | omega)))) <;> (try (conv => whnf))
 refine Then.mk (AWq.in ?_)
 refine AWp_nilrow1 7 1 rfl rfl fun q hq => ?_
 refine AWp.of zU (dok _) rfl ?_
 (repeat' ((conv => whnf); first | refine Then.mk ?_ | left | refine OpsA.zD ?_ | refine OpsA.zE ?_ | refine AWq.zI ?_ | refine AWq.zB ?_ | refine AWq.zG ?_ | refine AWq.zF ?_ | refine AWq.zH ?_ | refine AWq.ret ?_ | refine AWq.zK ?_ | refine AWq.zJ ?_ | (refine Both.mk ?_ ?_ <;> intro hc <;> (first | exact Bool.noConfusion hc | (exfalso; omega) | skip)) | (intro c hc; (try (simp only [AH.zA] at hc; repeat (have hn := hc.1; replace hc := hc.2))); (first | (refine zP hc ?_ ?_ ?_ ; omega; omega; (clear hc; intro hc; subst hc)) | skip)) | (apply Exists.intro; apply And.intro; (first | (focus (repeat (first | (with_reducible assumption))); done))) | (apply Exists.intro; apply And.intro; first | (with_reducible assumption) | ((try simp only [zW, z0z, zZ, zY]); first | (with_reducible assumption) | rfl)) | (apply And.intro; (first | rfl | (with_reducible assumption) | omega)))) <;> (try (conv => whnf))
 refine zT (σ := Nat) (7 :: 9 :: 23 :: 24 :: 25 :: 26 :: 27 :: 28 :: 29 :: 30 :: 31 :: 32 :: 33 :: 34 :: []) (fun i => [(23, .int .i64 i), (7, .sl q i 1 0 i none)]) (fun i => H.set q (.row (iS .i64 ((sortL Z a).take i)) i)) (fun i => i ≤ 256) (fun i => 256 - i) 0 rfl (Nat.zero_le _) ⟨rfl, rfl, trivial⟩ (HLe.refl _) ?_
 intro i hi
 refine AWp.of zU (dok _) rfl ?_
 dsimp only at hi ⊢
 have gq := AH.zC H q (.row (iS .i64 ((sortL Z a).take i)) i)
 have lR : (iS .i64 ((sortL Z a).take i)).length = i := by rw [iS_length, List.length_take]; omega
 by_cases hit : i < 256
 ·have hiz : i < Z.length := by rw [hz.len]; exact hit
  have gz : (iS .i64 Z)[(i : Int).toNat]? = some (.int .i64 (Z.getD i 0)) := iS_get hiz
  have hb := hz.bd _ (getD_mem hiz)
  have gc : (iS .i64 (coefL a))[(Z.getD i 0).toNat]? = some (.int .i64 ((coefL a).getD (Z.getD i 0).toNat 0)) := iS_get (by rw [coefL_len]; omega)
  rw [← sortL_at a hiz] at gc
  have ht : iS .i64 ((sortL Z a).take (i + 1)) = iS .i64 ((sortL Z a).take i) ++ [.int .i64 ((sortL Z a).getD i 0)] := by
   rw [take_snoc (x := (sortL Z a).getD i 0) (by rw [List.getD_eq_getElem?_getD, List.getElem?_eq_getElem (by omega)]; rfl), ← iS_snoc]
  generalize iS .i64 ((sortL Z a).take i) = R at *
  generalize (sortL Z a).getD i 0 = v at *
  generalize Z.getD i 0 = z at *
  (repeat' ((conv => whnf); first | refine Then.mk ?_ | left | refine OpsA.zD ?_ | refine OpsA.zE ?_ | refine AWq.zI ?_ | refine AWq.zB ?_ | refine AWq.zG ?_ | refine AWq.zF ?_ | refine AWq.zH ?_ | refine AWq.ret ?_ | refine AWq.zK ?_ | refine AWq.zJ ?_ | (refine Both.mk ?_ ?_ <;> intro hc <;> (first | exact Bool.noConfusion hc | (exfalso; omega) | skip)) | (intro c hc; (try (simp only [AH.zA] at hc; repeat (have hn := hc.1; replace hc := hc.2))); (first | (refine zP hc ?_ ?_ ?_ ; omega; omega; (clear hc; intro hc; subst hc)) | skip)) | (apply Exists.intro; apply And.intro; (first | (focus (repeat (first | (with_reducible assumption))); done))) | (apply Exists.intro; apply And.intro; first | (with_reducible assumption) | ((try simp only [zW, z0z, zZ, zY]); first | (with_reducible assumption) | rfl)) | (apply And.intro; (first | rfl | (with_reducible assumption) | omega)))) <;> (try (conv => whnf))
  exact ⟨i + 1, hit, by omega, ⟨congrArg (AV.int .i64) (by omega), rfl, trivial⟩, HLe.of_eq (by rw [ht, AH.zS])⟩
 ·have hie : i = 256 := by omega
  subst hie
  rw [List.take_of_length_le (by omega)] at gq lR ⊢
  (repeat' ((conv => whnf); first | left | refine OpsA.zD ?_ | refine OpsA.zE ?_ | refine AWq.zI ?_ | refine AWq.zB ?_ | refine AWq.zG ?_ | refine AWq.zF ?_ | refine AWq.zH ?_ | refine AWq.ret ?_ | refine AWq.zK ?_ | refine AWq.zJ ?_ | (refine Both.mk ?_ ?_ <;> intro hc <;> (first | exact Bool.noConfusion hc | (exfalso; omega) | skip)) | (intro c hc; (try (simp only [AH.zA] at hc; repeat (have hn := hc.1; replace hc := hc.2))); (first | (refine zP hc ?_ ?_ ?_ ; omega; omega; (clear hc; intro hc; subst hc)) | skip)) | (apply Exists.intro; apply And.intro; (first | (focus (repeat (first | (with_reducible assumption))); done))) | (apply Exists.intro; apply And.intro; first | (with_reducible assumption) | ((try simp only [zW, z0z, zZ, zY]); first | (with_reducible assumption) | rfl)) | (apply And.intro; (first | rfl | (with_reducible assumption) | omega)))) <;> (try (conv => whnf))
  refine Then.mk ?_
  (repeat' ((conv => whnf); first | left | refine OpsA.zD ?_ | refine OpsA.zE ?_ | refine AWq.zI ?_ | refine AWq.zB ?_ | refine AWq.zG ?_ | refine AWq.zF ?_ | refine AWq.zH ?_ | refine AWq.ret ?_ | refine AWq.zK ?_ | refine AWq.zJ ?_ | (refine Both.mk ?_ ?_ <;> intro hc <;> (first | exact Bool.noConfusion hc | (exfalso; omega) | skip)) | (intro c hc; (try (simp only [AH.zA] at hc; repeat (have hn := hc.1; replace hc := hc.2))); (first | (refine zP hc ?_ ?_ ?_ ; omega; omega; (clear hc; intro hc; subst hc)) | skip)) | (apply Exists.intro; apply And.intro; (first | (focus (repeat (first | (with_reducible assumption))); done))) | (apply Exists.intro; apply And.intro; first | (with_reducible assumption) | ((try simp only [zW, z0z, zZ, zY]); first | (with_reducible assumption) | rfl)) | (apply And.intro; (first | rfl | (with_reducible assumption) | omega)))) <;> (try (conv => whnf))
  refine Then.mk (AWq.in ?_)
  refine AWp_freeze1 7 rfl rfl gq (by omega) ?_
  rw [AH.del_set _ _ _ hq]
  refine AWp.of zU (dok _) rfl ?_
  (repeat' ((conv => whnf); first | refine Then.mk ?_ | left | refine OpsA.zD ?_ | refine OpsA.zE ?_ | refine AWq.zI ?_ | refine AWq.zB ?_ | refine AWq.zG ?_ | refine AWq.zF ?_ | refine AWq.zH ?_ | refine AWq.ret ?_ | refine AWq.zK ?_ | refine AWq.zJ ?_ | (refine Both.mk ?_ ?_ <;> intro hc <;> (first | exact Bool.noConfusion hc | (exfalso; omega) | skip)) | (intro c hc; (try (simp only [AH.zA] at hc; repeat (have hn := hc.1; replace hc := hc.2))); (first | (refine zP hc ?_ ?_ ?_ ; omega; omega; (clear hc; intro hc; subst hc)) | skip)) | (apply Exists.intro; apply And.intro; (first | (focus (repeat (first | (with_reducible assumption))); done))) | (apply Exists.intro; apply And.intro; first | (with_reducible assumption) | ((try simp only [zW, z0z, zZ, zY]); first | (with_reducible assumption) | rfl)) | (apply And.intro; (first | rfl | (with_reducible assumption) | omega)) | (refine ACall.to (ic _) ?_))) <;> (try (conv => whnf))
  exact HLe.refl _
def pvL (ps : List (List UInt8)) : List AV := ps.map fun p => .cs (u8s p) p.length
@[simp] theorem pvL_len (ps : List (List UInt8)) : (pvL ps).length = ps.length := List.length_map ..
theorem pvL_get {ps : List (List UInt8)} {i : Nat} {p : List UInt8} (h : ps[i]? = some p) : (pvL ps)[i]? = some (.cs (u8s p) p.length) := by
 unfold pvL; rw [List.getElem?_map, h]; rfl
theorem pvL_snoc (ps : List (List UInt8)) (p : List UInt8) : pvL (ps ++ [p]) = pvL ps ++ [.cs (u8s p) p.length] := by unfold pvL; rw [List.map_append]; rfl
def encRs (ps : List (List UInt8)) : List UInt8 := ps.flatMap encR
def joinP (ps : List (List UInt8)) : List UInt8 := encI ((ps.length : Int) - 1) ++ encRs ps
theorem encRs_snoc (ps : List (List UInt8)) (p : List UInt8) : encRs (ps ++ [p]) = encRs ps ++ encR p := by unfold encRs; rw [List.flatMap_append]; simp
theorem encRs_len {ps : List (List UInt8)} {m : Nat} (h : ∀ p ∈ ps, p.length ≤ m) (hm : m < 2 ^ 40) : (encRs ps).length ≤ ps.length * (m + 10) := by
 induction ps with
 | nil => simp [encRs]
 | cons p ps ih =>
  have h1 := ih fun q hq => h q (List.mem_cons_of_mem _ hq)
  have h2 := encR_len (b := p) (by have := h p (by simp); omega)
  have h3 := h p (by simp)
  show (encR p ++ encRs ps).length ≤ _
  rw [List.length_append, List.length_cons, Nat.add_mul]
  omega
set_option maxRecDepth 8000 in
set_option maxHeartbeats 4000000 in
theorem join_c (ps : List (List UInt8)) (h1 : 1 ≤ ps.length) (h2 : ps.length ≤ 9) (hp : ∀ p ∈ ps, p.length ≤ 90000) (H : AH) :
  ACall Try.prog 32 [.cs (pvL ps) ps.length] H (fun y H' => y = .cs (u8s (joinP ps)) (joinP ps).length ∧ H' = H) := by
 have hn10 := encI_len (n := (ps.length : Int) - 1) (by unfold I64; omega)
 have hlt : ∀ i, (encRs (ps.take i)).length ≤ 9 * 90010 := fun i => by
  have := encRs_len (ps := ps.take i) (m := 90000) (fun p hp' => hp p (List.mem_of_mem_take hp')) (by decide)
  rw [List.length_take] at this
  have h3 : min i ps.length ≤ 9 := by omega
  exact Nat.le_trans this (Nat.mul_le_mul_right (90000 + 10) h3)
 have hpl := pvL_len ps
 refine ACall.back ?_
 refine zQ zU (dok _) Try.func32 rfl (by decide) rfl ?_
 (repeat' ((conv => whnf); first | refine OpsA.zD ?_ | refine OpsA.zE ?_ | refine AWq.zI ?_ | refine AWq.zB ?_ | refine AWq.zG ?_ | refine AWq.zF ?_ | refine AWq.zH ?_ | refine AWq.ret ?_ | refine AWq.zK ?_ | refine AWq.zJ ?_ | (refine Both.mk ?_ ?_ <;> intro hc <;> (first | exact Bool.noConfusion hc | (exfalso; omega) | skip)) | (intro c hc; (try (simp only [AH.zA] at hc; repeat (have hn := hc.1; replace hc := hc.2))); (first | (have hc2 := Eq.trans hc (by with_reducible assumption); clear hc; subst hc2) | (refine zP hc ?_ ?_ ?_ ; omega; omega; (clear hc; intro hc; subst hc)) | skip)) | (apply Exists.intro; apply And.intro; first | (with_reducible assumption) | ((try simp only [zW, z0z, zZ, zY]); first | (with_reducible assumption) | rfl)) | (apply And.intro; (first | rfl | (with_reducible assumption) | omega)))) <;> (try (conv => whnf))
 refine Then.mk ?_
 (repeat' ((conv => whnf); first | refine OpsA.zD ?_ | refine OpsA.zE ?_ | refine AWq.zI ?_ | refine AWq.zB ?_ | refine AWq.zG ?_ | refine AWq.zF ?_ | refine AWq.zH ?_ | refine AWq.ret ?_ | refine AWq.zK ?_ | refine AWq.zJ ?_ | (refine Both.mk ?_ ?_ <;> intro hc <;> (first | exact Bool.noConfusion hc | (exfalso; omega) | skip)) | (intro c hc; (try (simp only [AH.zA] at hc; repeat (have hn := hc.1; replace hc := hc.2))); (first | (have hc2 := Eq.trans hc (by with_reducible assumption); clear hc; subst hc2) | (refine zP hc ?_ ?_ ?_ ; omega; omega; (clear hc; intro hc; subst hc)) | skip)) | (apply Exists.intro; apply And.intro; first | (with_reducible assumption) | ((try simp only [zW, z0z, zZ, zY]); first | (with_reducible assumption) | rfl)) | (apply And.intro; (first | rfl | (with_reducible assumption) | omega)))) <;> (try (conv => whnf))
 (obtain ⟨w, hq_⟩ : ∃ w, w = c := ⟨_, rfl⟩); subst hq_
 have hcc : H w = none := hc
 refine Then.mk (AWq.in ?_)
 refine AWp_writer hcc fun r hcr hr => ?_
 have hle : ∀ v bs, HLe H (WrH H w r v bs) := fun v bs => HLe.set_of _ _ (HLe.set_of _ _ (HLe.refl _) hcc) hr
 refine AWp.of zU (dok _) rfl ?_
 have e1 : IntKind.i64.wrap ((ps.length : Int) - 1) = (ps.length : Int) - 1 := by rw [IntKind.wrap_i64]; omega
 have w1 := wInt_c w r 0 [] ((ps.length : Int) - 1) (by unfold I64; omega) (by simp) H hcr
 rw [List.nil_append] at w1
 generalize hG : WrH H w r 0 [] = G at *
 (repeat' ((conv => whnf); first | refine Then.mk ?_ | refine OpsA.zD ?_ | refine OpsA.zE ?_ | refine AWq.zI ?_ | refine AWq.zB ?_ | refine AWq.zG ?_ | refine AWq.zF ?_ | refine AWq.zH ?_ | refine AWq.ret ?_ | refine AWq.zK ?_ | refine AWq.zJ ?_ | (refine Both.mk ?_ ?_ <;> intro hc <;> (first | exact Bool.noConfusion hc | (exfalso; omega) | skip)) | (intro c hc; (try (simp only [AH.zA] at hc; repeat (have hn := hc.1; replace hc := hc.2))); (first | (have hc2 := Eq.trans hc (by with_reducible assumption); clear hc; subst hc2) | (refine zP hc ?_ ?_ ?_ ; omega; omega; (clear hc; intro hc; subst hc)) | skip)) | (apply Exists.intro; apply And.intro; first | (with_reducible assumption) | ((try simp only [zW, z0z, zZ, zY]); first | (with_reducible assumption) | rfl)) | (apply And.intro; (first | rfl | (with_reducible assumption) | omega)))) <;> (try (conv => whnf))
 refine w1.mono ?_
 rintro y H' ⟨rfl, v1, rfl⟩
 generalize hG1 : WrH H w r v1 (encI ((ps.length : Int) - 1)) = G1 at *
 (repeat' ((conv => whnf); first | refine Then.mk ?_ | refine OpsA.zD ?_ | refine OpsA.zE ?_ | refine AWq.zI ?_ | refine AWq.zB ?_ | refine AWq.zG ?_ | refine AWq.zF ?_ | refine AWq.zH ?_ | refine AWq.ret ?_ | refine AWq.zK ?_ | refine AWq.zJ ?_ | (refine Both.mk ?_ ?_ <;> intro hc <;> (first | exact Bool.noConfusion hc | (exfalso; omega) | skip)) | (intro c hc; (try (simp only [AH.zA] at hc; repeat (have hn := hc.1; replace hc := hc.2))); (first | (have hc2 := Eq.trans hc (by with_reducible assumption); clear hc; subst hc2) | (refine zP hc ?_ ?_ ?_ ; omega; omega; (clear hc; intro hc; subst hc)) | skip)) | (apply Exists.intro; apply And.intro; first | (with_reducible assumption) | ((try simp only [zW, z0z, zZ, zY]); first | (with_reducible assumption) | rfl)) | (apply And.intro; (first | rfl | (with_reducible assumption) | omega)))) <;> (try (conv => whnf))
 refine zT (σ := Nat × Nat) (5 :: 12 :: 13 :: 14 :: 15 :: 16 :: 17 :: 18 :: []) (fun (i, v) => [(12, .int .i64 i)]) (fun (i, v) => WrH H w r v (encI ((ps.length : Int) - 1) ++ encRs (ps.take i))) (fun (i, v) => i ≤ ps.length) (fun (i, v) => ps.length - i) (0, v1) rfl (Nat.zero_le _) ⟨rfl, trivial⟩ (HLe.of_eq (by show WrH H w r v1 (encI ((ps.length : Int) - 1) ++ encRs (ps.take 0)) = _; rw [List.take_zero]; show WrH H w r v1 (_ ++ []) = _; rw [List.append_nil, hG1])) ?_
 rintro ⟨i, v⟩ hi
 refine AWp.of zU (dok _) rfl ?_
 dsimp only at hi ⊢
 have hli := hlt i
 by_cases hit : i < ps.length
 ·obtain ⟨p, hpi⟩ : ∃ p, ps[i]? = some p := ⟨_, List.getElem?_eq_getElem hit⟩
  have gp : (pvL ps)[(i : Int).toNat]? = some (.cs (u8s p) p.length) := pvL_get hpi
  have w2 := wRaw_c w r v (encI ((ps.length : Int) - 1) ++ encRs (ps.take i)) p (by have := hp p (List.mem_of_getElem? hpi); omega) (by rw [List.length_append]; omega) H hcr
  have ht : ps.take (i + 1) = ps.take i ++ [p] := take_snoc hpi
  have hst : encI ((ps.length : Int) - 1) ++ encRs (ps.take i) ++ encR p = encI ((ps.length : Int) - 1) ++ encRs (ps.take (i + 1)) := by rw [ht, encRs_snoc, List.append_assoc]
  rw [hst] at w2
  generalize hG2 : WrH H w r v (encI ((ps.length : Int) - 1) ++ encRs (ps.take i)) = G2 at *
  (repeat' ((conv => whnf); first | refine Then.mk ?_ | refine OpsA.zD ?_ | refine OpsA.zE ?_ | refine AWq.zI ?_ | refine AWq.zB ?_ | refine AWq.zG ?_ | refine AWq.zF ?_ | refine AWq.zH ?_ | refine AWq.ret ?_ | refine AWq.zK ?_ | refine AWq.zJ ?_ | (refine Both.mk ?_ ?_ <;> intro hc <;> (first | exact Bool.noConfusion hc | (exfalso; omega) | skip)) | (intro c hc; (try (simp only [AH.zA] at hc; repeat (have hn := hc.1; replace hc := hc.2))); (first | (have hc2 := Eq.trans hc (by with_reducible assumption); clear hc; subst hc2) | (refine zP hc ?_ ?_ ?_ ; omega; omega; (clear hc; intro hc; subst hc)) | skip)) | (apply Exists.intro; apply And.intro; first | (with_reducible assumption) | ((try simp only [zW, z0z, zZ, zY]); first | (with_reducible assumption) | rfl)) | (apply And.intro; (first | rfl | (with_reducible assumption) | omega)))) <;> (try (conv => whnf))
  refine w2.mono ?_
  rintro y H' ⟨rfl, v2, rfl⟩
  generalize hG3 : WrH H w r v2 (encI ((ps.length : Int) - 1) ++ encRs (ps.take (i + 1))) = G3 at *
  (repeat' ((conv => whnf); first | refine Then.mk ?_ | refine OpsA.zD ?_ | refine OpsA.zE ?_ | refine AWq.zI ?_ | refine AWq.zB ?_ | refine AWq.zG ?_ | refine AWq.zF ?_ | refine AWq.zH ?_ | refine AWq.ret ?_ | refine AWq.zK ?_ | refine AWq.zJ ?_ | (refine Both.mk ?_ ?_ <;> intro hc <;> (first | exact Bool.noConfusion hc | (exfalso; omega) | skip)) | (intro c hc; (try (simp only [AH.zA] at hc; repeat (have hn := hc.1; replace hc := hc.2))); (first | (have hc2 := Eq.trans hc (by with_reducible assumption); clear hc; subst hc2) | (refine zP hc ?_ ?_ ?_ ; omega; omega; (clear hc; intro hc; subst hc)) | skip)) | (apply Exists.intro; apply And.intro; first | (with_reducible assumption) | ((try simp only [zW, z0z, zZ, zY]); first | (with_reducible assumption) | rfl)) | (apply And.intro; (first | rfl | (with_reducible assumption) | omega)))) <;> (try (conv => whnf))
  exact ⟨(i + 1, v2), hit, show ps.length - (i + 1) < ps.length - i by omega, ⟨congrArg (AV.int .i64) (by omega), trivial⟩, HLe.of_eq hG3⟩
 ·have hie : i = ps.length := by omega
  subst hie
  rw [List.take_length] at *
  have w3 := wDone_c w r v (encI ((ps.length : Int) - 1) ++ encRs ps) (by rw [List.length_append]; omega) H hcr
  have hle := hle v (encI ((ps.length : Int) - 1) ++ encRs ps)
  unfold joinP
  generalize hG2 : WrH H w r v (encI ((ps.length : Int) - 1) ++ encRs ps) = G2 at *
  (repeat' ((conv => whnf); first | refine Then.mk ?_ | refine OpsA.zD ?_ | refine OpsA.zE ?_ | refine AWq.zI ?_ | refine AWq.zB ?_ | refine AWq.zG ?_ | refine AWq.zF ?_ | refine AWq.zH ?_ | refine AWq.ret ?_ | refine AWq.zK ?_ | refine AWq.zJ ?_ | (refine Both.mk ?_ ?_ <;> intro hc <;> (first | exact Bool.noConfusion hc | (exfalso; omega) | skip)) | (intro c hc; (try (simp only [AH.zA] at hc; repeat (have hn := hc.1; replace hc := hc.2))); (first | (have hc2 := Eq.trans hc (by with_reducible assumption); clear hc; subst hc2) | (refine zP hc ?_ ?_ ?_ ; omega; omega; (clear hc; intro hc; subst hc)) | skip)) | (apply Exists.intro; apply And.intro; first | (with_reducible assumption) | ((try simp only [zW, z0z, zZ, zY]); first | (with_reducible assumption) | rfl)) | (apply And.intro; (first | rfl | (with_reducible assumption) | omega)) | (refine ACall.to (w3) ?_))) <;> (try (conv => whnf))
  exact hle
open Go.Fw Go
def insI (x : Int) : List Int → List Int
 | [] => [x]
 | y :: l => if y ≤ x then y :: insI x l else x :: y :: l
def sortI (l : List Int) : List Int := l.foldl (fun a x => insI x a) []
def Srt : List Int → Prop
 | [] => True
 | x :: l => (∀ y ∈ l, x ≤ y) ∧ Srt l
@[simp] theorem insI_len (x : Int) (l : List Int) : (insI x l).length = l.length + 1 := by
 induction l with
 | nil => rfl
 | cons y l ih => unfold insI; split <;> simp [ih]
theorem insI_mem {x z : Int} {l : List Int} : z ∈ insI x l ↔ z = x ∨ z ∈ l := by
 induction l with
 | nil => simp [insI]
 | cons y l ih =>
  unfold insI; split
  ·simp only [List.mem_cons, ih]; exact ⟨fun h => by rcases h with h | h | h <;> simp [h], fun h => by rcases h with h | h | h <;> simp [h]⟩
  ·simp only [List.mem_cons]
theorem insI_srt {x : Int} {l : List Int} (h : Srt l) : Srt (insI x l) := by
 induction l with
 | nil => exact ⟨fun y hy => by simp at hy, trivial⟩
 | cons y l ih =>
  unfold insI; split
  ·refine ⟨fun z hz => ?_, ih h.2⟩
   rcases insI_mem.1 hz with rfl | hz
   ·assumption
   ·exact h.1 z hz
  ·refine ⟨fun z hz => ?_, h⟩
   rcases List.mem_cons.1 hz with rfl | hz
   ·omega
   ·have := h.1 z hz; omega
theorem sortI_snoc (l : List Int) (x : Int) : sortI (l ++ [x]) = insI x (sortI l) := by unfold sortI; rw [List.foldl_append]; rfl
theorem sortI_all : ∀ (k : List Int), Srt (sortI k.reverse) ∧ (sortI k.reverse).length = k.length ∧ ∀ z, z ∈ sortI k.reverse ↔ z ∈ k
 | [] => ⟨trivial, rfl, fun z => by simp [sortI]⟩
 | x :: k => by
  obtain ⟨h1, h2, h3⟩ := sortI_all k
  rw [List.reverse_cons, sortI_snoc]
  refine ⟨insI_srt h1, by rw [insI_len, h2]; rfl, fun z => ?_⟩
  rw [insI_mem, h3, List.mem_cons]
@[simp] theorem sortI_len (l : List Int) : (sortI l).length = l.length := by have := (sortI_all l.reverse).2.1; rwa [List.reverse_reverse, List.length_reverse] at this
theorem Srt.append {A B : List Int} : Srt (A ++ B) → Srt A ∧ Srt B := by
 induction A with
 | nil => exact fun h => ⟨trivial, h⟩
 | cons a A ih => exact fun h => ⟨⟨fun y hy => h.1 y (by simp [hy]), (ih h.2).1⟩, (ih h.2).2⟩
open Go.Fw Go
def J64 (x : Int) : Prop := -9223372036854775808 ≤ x ∧ x ≤ 9223372036854775807
instance (x : Int) : Decidable (J64 x) := by unfold J64; exact inferInstance
set_option maxRecDepth 8000 in
theorem btw_c (n lo hi : Int) (H : AH) : ACall Try.prog 52 [.int .i64 n, .int .i64 lo, .int .i64 hi] H (fun y H' => y = .bool (decide (lo ≤ n ∧ n ≤ hi)) ∧ H' = H) := by
 by_cases h1 : lo ≤ n
 ·by_cases h2 : n ≤ hi
  ·rw [decide_eq_true ⟨h1, h2⟩]
   refine zQ zU (dok _) Try.func52 rfl (by decide) rfl ?_
   (repeat' ((conv => whnf); first | refine Then.mk ?_ | refine OpsA.zD ?_ | refine OpsA.zE ?_ | refine AWq.zI ?_ | refine AWq.zB ?_ | refine AWq.ret ?_ | (refine Both.mk ?_ ?_ <;> intro hc <;> (first | exact absurd (by assumption) hc | exact absurd hc (by assumption) | skip)) | (apply And.intro; (first | rfl)))) <;> (try (conv => whnf))
  ·rw [decide_eq_false (fun h => h2 h.2)]
   refine zQ zU (dok _) Try.func52 rfl (by decide) rfl ?_
   (repeat' ((conv => whnf); first | refine Then.mk ?_ | refine OpsA.zD ?_ | refine OpsA.zE ?_ | refine AWq.zI ?_ | refine AWq.zB ?_ | refine AWq.ret ?_ | (refine Both.mk ?_ ?_ <;> intro hc <;> (first | exact absurd (by assumption) hc | exact absurd hc (by assumption) | skip)) | (apply And.intro; (first | rfl)))) <;> (try (conv => whnf))
 ·rw [decide_eq_false (fun h => h1 h.1)]
  refine zQ zU (dok _) Try.func52 rfl (by decide) rfl ?_
  (repeat' ((conv => whnf); first | refine Then.mk ?_ | refine OpsA.zD ?_ | refine OpsA.zE ?_ | refine AWq.zI ?_ | refine AWq.zB ?_ | refine AWq.ret ?_ | (refine Both.mk ?_ ?_ <;> intro hc <;> (first | exact absurd (by assumption) hc | exact absurd hc (by assumption) | skip)) | (apply And.intro; (first | rfl)))) <;> (try (conv => whnf))
end Go.Proofs.Ytgpfmojlgejnhaa
/- The frame of the abstract walk, part 31: drawn regions in which rows are made and cells are taken and written, beside loads from other rows. -/
set_option linter.unusedVariables false
set_option linter.unusedSimpArgs false
namespace Go.Fw
open Go.RowKit
variable {κ : KM} {F : FM} {B : Nat} {w0 w : World} {H : AH} {P : Program} {T : TT}
def cK (cl : List (Nat × Nat)) (o : Oper) : Option Nat :=
  match o.dst with
  | some t => cOf cl (some t)
  | none => match o.op with
    | .store _ (.tmp a) _ => cOf cl (some a)
    | _ => none
theorem cOf_in {cl : List (Nat × Nat)} {d : Option Nat} {c : Nat} : cOf cl d = some c → c ∈ cl.map (·.2) := by
  cases d with
  | none => intro h; cases cl <;> simp [cOf] at h
  | some t =>
    induction cl with
    | nil => intro h; simp [cOf] at h
    | cons y l ih =>
      obtain ⟨u, c'⟩ := y
      intro h
      simp only [cOf] at h
      cases hb : Nat.beq u t with
      | true => rw [hb] at h; simp only [cond_true, Option.some.injEq] at h; subst h; simp
      | false => rw [hb] at h; simp only [cond_false] at h; exact List.mem_cons_of_mem _ (ih h)
theorem cK_in {cl : List (Nat × Nat)} {o : Oper} {c : Nat} (h : cK cl o = some c) : c ∈ cl.map (·.2) := by
  unfold cK at h
  split at h
  · exact cOf_in h
  · split at h
    · exact cOf_in h
    · cases h
def OutK (cl : List (Nat × Nat)) (nm : Nat → Nat) (G H : AH) : Prop := ∀ q, (∀ c, c ∈ cl.map (·.2) → nm c ≠ q) → G q = H q
theorem OutK.refl {cl : List (Nat × Nat)} {nm : Nat → Nat} : OutK cl nm H H := fun _ _ => rfl
theorem OutK.set {cl : List (Nat × Nat)} {nm : Nat → Nat} {G : AH} {c : Nat} {o : AO} (hc : c ∈ cl.map (·.2)) (h : OutK cl nm G H) : OutK cl nm G (H.set (nm c) o) :=
  fun q hq => (h q hq).trans (AH.zR _ _ (fun e => hq c hc e.symm)).symm
theorem OutK.set' {cl : List (Nat × Nat)} {nm : Nat → Nat} {G : AH} {c : Nat} {o : AO} (hc : c ∈ cl.map (·.2)) (h : OutK cl nm G H) : OutK cl nm (G.set (nm c) o) H :=
  fun q hq => (AH.zR _ _ (fun e => hq c hc e.symm)).trans (h q hq)
theorem VR.renameP {κ κ' : KM} {r v q u off : Nat} {x : Value} {i : Inc} (hi : κ r v = some i) (hq : κ' q u = some i) (h : VR κ F (.ptr r v off) x) : VR κ' F (.ptr q u off) x := by
  cases h with
  | ptr h => rw [hi] at h; cases h; exact .ptr hq
def TakesP (P : Program) (T : TT) (o : Op) (e : Env) (G : AH) (cells : List AV) : Prop :=
  stepA P T o e G (fun v' H' => ∃ r, G r = none ∧ v' = .ptr r 0 0 ∧ H' = G.set r (.row cells 0))
def LStepK (P : Program) (T : TT) (o : Op) (e : Env) (G : AH) (q : Nat) (v : AV) (o' : AO) : Prop :=
  LStep1 P T o e G q v o' ∨ ∃ cells, v = .ptr q 1 0 ∧ o' = .row cells 1 ∧ G q = some (.row [] 0) ∧ TakesP P T o e G cells
theorem Left.namedP {x : Value} {w' : World} {cells : List AV} {q : Nat} (hq : H q = some (.row [] 0)) (h : Left κ F B w0 (fun v' H' => ∃ r, H r = none ∧ v' = .ptr r 0 0 ∧ H' = H.set r (.row cells 0)) x w') :
    Left κ F B w0 (fun v' H' => v' = .ptr q 1 0 ∧ H' = H.set q (.row cells 1)) x w' := by
  obtain ⟨y, H', κ', F', h1, h2, I, hv, r, hr, rfl, rfl⟩ := h
  have hne : q ≠ r := fun e => by rw [e, hr] at hq; cases hq
  obtain ⟨i, hi, _⟩ := I.objs _ _ (AH.zC H r (.row cells 0))
  obtain ⟨hle, I'⟩ := I.rename (q := q) (u := 0) (AH.zC H r (.row cells 0)) hi (by rw [AH.zR _ _ hne]; exact hq) hne
  rw [AH.del_set _ _ _ hr] at I'
  exact ⟨_, _, _, F', h1.trans hle, h2, I', VR.renameP hi (KM.put_same ..) hv, rfl, rfl⟩
def ordK (all : Array Oper) (cl : List (Nat × Nat)) : Bool :=
  let ah := aheadOf all
  (List.range all.size).all fun j => (List.range j).all fun i =>
    match (all[i]?).bind (cK cl), (all[j]?).bind (cK cl) with
    | some a, some b => !(Nat.beq a b) || (ah.getD j 0).testBit i
    | _, _ => true
theorem ordK_spec {all : Array Oper} {cl : List (Nat × Nat)} (h : ordK all cl = true) {i j c : Nat} (hlt : i < j) (hj : j < all.size) (h1 : (all[i]?).bind (cK cl) = some c) (h2 : (all[j]?).bind (cK cl) = some c) :
    ((aheadOf all).getD j 0).testBit i = true := by
  unfold ordK at h
  have a1 := List.all_eq_true.1 h j (by simpa using hj)
  have a2 := List.all_eq_true.1 a1 i (by simpa using hlt)
  simp only [h1, h2] at a2
  have : Nat.beq c c = true := Nat.beq_refl c
  simpa [this] using a2
def drawKS (N : Nat) (P : Program) (T : TT) (cl : List (Nat × Nat)) (nm : Nat → Nat) : List Oper → (St → AH → Prop) → St → AH → Prop
  | [], K, s, H => K s H
  | o :: rest, K, s, H => dstOk N o.dst = true ∧ o.guard = none ∧ match cK cl o with
    | none => ∃ v, (∀ G, OutK cl nm G H → LStep0 P T o.op s.e G v) ∧ drawKS N P T cl nm rest K (putS s o.dst v) H
    | some c => ∃ ob v o', H (nm c) = some ob ∧ (∀ G, OutK cl nm G H → G (nm c) = some ob → LStepK P T o.op s.e G (nm c) v o') ∧ drawKS N P T cl nm rest K (putS s o.dst v) (H.set (nm c) o')
def infK (cl : List (Nat × Nat)) (nm : Nat → Nat) (l : List Oper) (obs : List AO) (k : Nat) : Option (Nat × AO) :=
  ((l[k]?).bind (cK cl)).map fun c => (nm c, obs.getD k (.row [] 0))
theorem lookK_cons (cl : List (Nat × Nat)) (nm : Nat → Nat) (o : Oper) (l : List Oper) (x : AO) (xs : List AO) (H : AH) : ∀ k, lookG (infK cl nm (o :: l) (x :: xs)) H (fun _ => true) (k + 1) = lookG (infK cl nm l xs) (setO H (infK cl nm (o :: l) (x :: xs) 0)) (fun _ => true) k
  | 0 => rfl
  | k + 1 => by
    have ih := lookK_cons cl nm o l x xs H k
    have e : infK cl nm (o :: l) (x :: xs) (k + 1) = infK cl nm l xs k := by simp [infK]
    show setO (lookG (infK cl nm (o :: l) (x :: xs)) H (fun _ => true) (k + 1)) (infK cl nm (o :: l) (x :: xs) (k + 1)) = setO (lookG (infK cl nm l xs) _ (fun _ => true) k) (infK cl nm l xs k)
    rw [ih, e]
theorem chainK {N : Nat} {cl : List (Nat × Nat)} {nm : Nat → Nat} {K : St → AH → Prop} : ∀ (l : List Oper) (s : St) (H : AH), drawKS N P T cl nm l K s H → ∃ (vs : List AV) (obs : List AO),
    (∀ j o, l[j]? = some o → dstOk N o.dst = true ∧ o.guard = none ∧ match cK cl o with
      | none => ∀ G, OutK cl nm G H → LStep0 P T o.op (lookE (dstF l) (valF vs) s.e (fun _ => true) j) G (valF vs j)
      | some c => ∃ ob, lookG (infK cl nm l obs) H (fun _ => true) j (nm c) = some ob ∧ ∀ G, OutK cl nm G H → G (nm c) = some ob → LStepK P T o.op (lookE (dstF l) (valF vs) s.e (fun _ => true) j) G (nm c) (valF vs j) (obs.getD j (.row [] 0))) ∧
    K ⟨lookE (dstF l) (valF vs) s.e (fun _ => true) l.length, s.d⟩ (lookG (infK cl nm l obs) H (fun _ => true) l.length)
  | [], s, H, h => ⟨[], [], fun j o hj => by simp at hj, h⟩
  | o :: l, s, H, ⟨h1, h2, h3⟩ => by
    have build : ∀ (v : AV) (x : AO) (H2 : AH), (∀ G, OutK cl nm G H → OutK cl nm G H2) → (∀ obs : List AO, setO H (infK cl nm (o :: l) (x :: obs) 0) = H2) → drawKS N P T cl nm l K (putS s o.dst v) H2 →
        (match cK cl o with
          | none => ∀ G, OutK cl nm G H → LStep0 P T o.op s.e G v
          | some c => ∃ ob, H (nm c) = some ob ∧ ∀ G, OutK cl nm G H → G (nm c) = some ob → LStepK P T o.op s.e G (nm c) v x) →
        ∃ (vs : List AV) (obs : List AO), (∀ j o', (o :: l)[j]? = some o' → dstOk N o'.dst = true ∧ o'.guard = none ∧ match cK cl o' with
          | none => ∀ G, OutK cl nm G H → LStep0 P T o'.op (lookE (dstF (o :: l)) (valF vs) s.e (fun _ => true) j) G (valF vs j)
          | some c => ∃ ob, lookG (infK cl nm (o :: l) obs) H (fun _ => true) j (nm c) = some ob ∧ ∀ G, OutK cl nm G H → G (nm c) = some ob → LStepK P T o'.op (lookE (dstF (o :: l)) (valF vs) s.e (fun _ => true) j) G (nm c) (valF vs j) (obs.getD j (.row [] 0))) ∧
        K ⟨lookE (dstF (o :: l)) (valF vs) s.e (fun _ => true) (o :: l).length, s.d⟩ (lookG (infK cl nm (o :: l) obs) H (fun _ => true) (o :: l).length) := by
      intro v x H2 hout hH2 hr h0
      obtain ⟨vs, obs, ih1, ih2⟩ := chainK l _ _ hr
      refine ⟨v :: vs, x :: obs, fun j o' hj => ?_, ?_⟩
      · cases j with
        | zero =>
          simp at hj; subst hj
          exact ⟨h1, h2, h0⟩
        | succ j =>
          have := ih1 j o' (by simpa using hj)
          rw [lookE_cons, lookK_cons, hH2 obs]
          refine ⟨this.1, this.2.1, ?_⟩
          have t2 := this.2.2
          cases hc : cK cl o' with
          | none => rw [hc] at t2; exact fun G hG => by simpa [valF, putS] using t2 G (hout G hG)
          | some c => rw [hc] at t2; obtain ⟨ob, t3, t4⟩ := t2; exact ⟨ob, t3, fun G hG hq => by simpa [valF, putS] using t4 G (hout G hG) hq⟩
      · rw [List.length_cons, lookE_cons, lookK_cons, hH2 obs]
        exact ih2
    cases hc : cK cl o with
    | none =>
      rw [hc] at h3 build
      obtain ⟨v, h3, h4⟩ := h3
      exact build v (.row [] 0) H (fun _ h => h) (fun obs => by simp [infK, hc, setO]) h4 h3
    | some c =>
      rw [hc] at h3 build
      obtain ⟨ob, v, o', h3, h4, h5⟩ := h3
      exact build v o' (H.set (nm c) o') (fun _ h => h.set (cK_in hc)) (fun obs => by simp [infK, hc, setO]) h5 ⟨ob, h3, h4⟩
theorem anyK_ok (hT : T.ok P = true) (ro : Option Nat) {N : Nat} {ws : Nat → Bool} {ops : Array Oper} {cl : List (Nat × Nat)} {nm : Nat → Nat} {K R : St → AH → Prop} {X : Nat → St → AH → Prop} {s : St} {vs : List AV} {obs : List AO} (hord : orderOk ops = true) (hcls : ordK ops cl = true)
    (hnm : ∀ c c', c ∈ cl.map (·.2) → c' ∈ cl.map (·.2) → nm c = nm c' → c = c') (hws : ∀ t, t ∈ dstsOf ops.toList → ws t = true)
    (hstep : ∀ j o, ops.toList[j]? = some o → dstOk N o.dst = true ∧ o.guard = none ∧ match cK cl o with
      | none => ∀ G, OutK cl nm G H → LStep0 P T o.op (lookE (dstF ops.toList) (valF vs) s.e (fun _ => true) j) G (valF vs j)
      | some c => ∃ ob, lookG (infK cl nm ops.toList obs) H (fun _ => true) j (nm c) = some ob ∧ ∀ G, OutK cl nm G H → G (nm c) = some ob → LStepK P T o.op (lookE (dstF ops.toList) (valF vs) s.e (fun _ => true) j) G (nm c) (valF vs j) (obs.getD j (.row [] 0)))
    (hend : K ⟨lookE (dstF ops.toList) (valF vs) s.e (fun _ => true) ops.toList.length, s.d⟩ (lookG (infK cl nm ops.toList obs) H (fun _ => true) ops.toList.length)) :
    ∀ (fuel : Nat) (listed : Array Bool) (κ : KM) (F : FM) (w : World) (a : Act), listed.size = ops.size → (∀ j, doneP listed ops.size j = true → Waited ops (doneP listed ops.size) j) →
      ((List.range ops.size).filter fun k => !doneP listed ops.size k).length = fuel → Inv κ F B w0 (lookG (infK cl nm ops.toList obs) H (doneP listed ops.size) ops.size) w →
      ER κ F N ⟨lookE (dstF ops.toList) (valF vs) s.e (doneP listed ops.size) ops.size, s.d⟩ a → wpAnyIn (fence ro) 0 P .any ops (QOk κ F B w0 N ws s K R X) fuel listed a w := by
  have hinf : ∀ k q o, infK cl nm ops.toList obs k = some (q, o) → ∃ c, k < ops.size ∧ (ops[k]?).bind (cK cl) = some c ∧ q = nm c ∧ c ∈ cl.map (·.2) := by
    intro k q o h
    unfold infK at h
    rw [Array.getElem?_toList] at h
    cases hx : (ops[k]?).bind (cK cl) with
    | none => rw [hx] at h; simp at h
    | some c =>
      rw [hx] at h
      simp at h
      refine ⟨c, ?_, rfl, h.1.symm, ?_⟩
      · cases hk : ops[k]? with
        | none => rw [hk] at hx; simp at hx
        | some x => exact (Array.getElem?_eq_some_iff.1 hk).1
      · cases hk : ops[k]? with
        | none => rw [hk] at hx; simp at hx
        | some x =>
          rw [hk] at hx
          simp only [Option.bind_some] at hx
          exact cK_in hx
  have hsame : ∀ k k' q o o', infK cl nm ops.toList obs k = some (q, o) → infK cl nm ops.toList obs k' = some (q, o') → k < k' → ((aheadOf ops).getD k' 0).testBit k = true := by
    intro k k' q o o' h1 h2 hlt
    obtain ⟨c, hk, hc, e1, hm⟩ := hinf _ _ _ h1
    obtain ⟨c', hk', hc', e2, hm'⟩ := hinf _ _ _ h2
    have : c = c' := hnm c c' hm hm' (e1.symm.trans e2)
    subst this
    exact ordK_spec hcls hlt hk' hc hc'
  have hout : ∀ (p : Nat → Bool) n, OutK cl nm (lookG (infK cl nm ops.toList obs) H p n) H := by
    intro p n
    induction n with
    | zero => exact .refl
    | succ n ih =>
      simp only [lookG]
      cases p n with
      | false => exact ih
      | true =>
        simp only [cond_true]
        cases hi : infK cl nm ops.toList obs n with
        | none => exact ih
        | some x =>
          obtain ⟨q, o⟩ := x
          obtain ⟨c, _, _, e, hm⟩ := hinf _ _ _ hi
          subst e
          exact ih.set' hm
  have hlow := orderOk_low hord
  have hdst : ∀ k, dstF ops.toList k = (ops[k]?).bind (·.dst) := fun k => by simp [dstF]
  have hagree : ∀ p : Nat → Bool, Agree ws s ⟨lookE (dstF ops.toList) (valF vs) s.e p ops.size, s.d⟩ := by
    intro p t ht
    show lookE _ _ _ p ops.size t = s.e t
    have : ∀ n, lookE (dstF ops.toList) (valF vs) s.e p n t = s.e t := by
      intro n
      induction n with
      | zero => rfl
      | succ n ih =>
        simp only [lookE]
        cases p n with
        | false => exact ih
        | true =>
          have hne : dstF ops.toList n ≠ some t := by
            intro e
            have : t ∈ dstsOf ops.toList := by
              simp only [dstF] at e
              cases hx : ops.toList[n]? with
              | none => rw [hx] at e; simp at e
              | some o =>
                rw [hx] at e
                simp at e
                exact List.mem_filterMap.2 ⟨o, List.mem_of_getElem? hx, e⟩
            rw [hws t this] at ht; cases ht
          simp only [cond_true, putA_ne _ _ _ hne, ih]
    exact this _
  have ready : ∀ (listed : Array Bool), listed.size = ops.size → ∀ i, i ∈ Region.ready .any ops listed → i < ops.size ∧ doneP listed ops.size i = false ∧ Waited ops (doneP listed ops.size) i := by
    intro listed hsz i hi
    simp only [Region.ready, List.mem_filter, List.mem_range, Bool.and_eq_true, Bool.not_eq_true'] at hi
    obtain ⟨hi, hl, ha⟩ := hi
    have hdone : doneP listed ops.size i = false := by
      have e : listed.getD i false = listed.getD i true := by simp [Array.getD_eq_getD_getElem?, show i < listed.size by omega]
      simp [doneP, e, hl]
    refine ⟨hi, hdone, fun o ho e he hb => ?_⟩
    rw [ho] at ha
    simp only [Option.map_some, Option.getD_some] at ha
    have := Array.all_eq_true'.1 ha e (by simpa using he)
    simp only [hb, Bool.not_true, Bool.false_or] at this
    have hlt := hlow i o ho e he hb
    simp [doneP, this, blt_of (show e.on < ops.size by omega)]
  intro fuel
  induction fuel with
  | zero =>
    intro listed κ F w a hsz hcl hcount I hE
    have hall : ∀ k, k < ops.size → doneP listed ops.size k = true := by
      intro k hk
      cases hd : doneP listed ops.size k with
      | true => rfl
      | false =>
        have : k ∈ (List.range ops.size).filter fun k => !doneP listed ops.size k := by simp [hk, hd]
        rw [List.length_eq_zero_iff.1 hcount] at this
        cases this
    refine ⟨?_, ?_⟩
    · cases hr : Region.ready .any ops listed with
      | nil => rfl
      | cons i r =>
        obtain ⟨h1, h2, _⟩ := ready listed hsz i (by rw [hr]; simp)
        rw [hall i h1] at h2; cases h2
    · have heq : lookE (dstF ops.toList) (valF vs) s.e (doneP listed ops.size) ops.size = lookE (dstF ops.toList) (valF vs) s.e (fun _ => true) ops.size := by
        funext t; exact lookE_congr _ (fun k hk _ => hall k hk)
      have hH : lookG (infK cl nm ops.toList obs) H (doneP listed ops.size) ops.size = lookG (infK cl nm ops.toList obs) H (fun _ => true) ops.size := by
        funext q; exact lookG_at _ (fun k o hk _ => hall k hk)
      refine ⟨_, _, κ, F, KLe.refl _, FLe.refl _, I, hE, hagree _, ?_⟩
      rw [heq, hH]
      simpa using hend
  | succ fuel ih =>
    intro listed κ F w a hsz hcl hcount I hE
    refine ⟨fun hr => ?_, fun i hi => ?_⟩
    · -- somebody is ready
      exfalso
      obtain ⟨k, hk⟩ : ∃ k, k ∈ (List.range ops.size).filter fun k => !doneP listed ops.size k := by
        cases hx : (List.range ops.size).filter fun k => !doneP listed ops.size k with
        | nil => rw [hx] at hcount; simp at hcount
        | cons k _ => exact ⟨k, by simp⟩
      have key : ∀ k, k < ops.size → doneP listed ops.size k = false → False := by
        intro k
        induction k using Nat.strongRecOn with
        | _ k ih2 =>
          intro hk hd
          have : k ∈ Region.ready .any ops listed := by
            simp only [Region.ready, List.mem_filter, List.mem_range, Bool.and_eq_true, Bool.not_eq_true']
            refine ⟨hk, ?_, ?_⟩
            · simp only [doneP, blt_of hk, Bool.true_and] at hd
              have e : listed.getD k false = listed.getD k true := by simp [Array.getD_eq_getD_getElem?, show k < listed.size by omega]
              rw [← e]; exact hd
            · have ho : ops[k]? = some ops[k] := by simp [hk]
              rw [ho]
              simp only [Option.map_some, Option.getD_some]
              refine Array.all_eq_true'.2 fun e he => ?_
              cases hb : Region.binds .any e with
              | false => rfl
              | true =>
                have hlt := hlow k _ ho e (by simpa using he) hb
                cases hd' : doneP listed ops.size e.on with
                | false => exact (ih2 e.on hlt (by omega) hd').elim
                | true => simp only [doneP, Bool.and_eq_true] at hd'; simp [hd'.2]
          rw [hr] at this; cases this
      simp only [List.mem_filter, List.mem_range, Bool.not_eq_true'] at hk
      exact key k hk.1 hk.2
    · obtain ⟨hil, hdi, hwi⟩ := ready listed hsz i hi
      have ho : ops[i]? = some ops[i] := by simp [hil]
      obtain ⟨o, rfl⟩ : ∃ o, o = ops[i] := ⟨_, rfl⟩
      obtain ⟨hdst0, hgd, hg⟩ := hstep i ops[i] (by simp [hil])
      have hahead := ahead_done hlow hcl i hil hwi
      -- what the operation looks at stands there
      have sees : ∀ t, t ∈ looks ops ops[i] → lookE (dstF ops.toList) (valF vs) s.e (doneP listed ops.size) ops.size t = lookE (dstF ops.toList) (valF vs) s.e (fun _ => true) i t := by
        intro t ht
        refine lookE_lt ops.size (by omega) (fun k hk hkd => ?_)
        rw [hdst] at hkd
        by_cases hki : k = i
        · subst hki; constructor
          · intro h; rw [hdi] at h; cases h
          · intro h; omega
        · obtain ⟨h1, h2⟩ := orderOk_spec hord hkd ho (.inl ht) hki
          constructor
          · intro hp
            rcases Nat.lt_or_ge k i with hlt | hge
            · exact hlt
            · have := ahead_done hlow hcl k hk (hcl k hp) i (h2 (by omega))
              rw [hdi] at this; cases this
          · intro hlt; exact hahead k (h1 hlt)
      have hev : ∀ x, x ∈ (ops[i]).op.operands → ev (lookE (dstF ops.toList) (valF vs) s.e (fun _ => true) i) x = ev (lookE (dstF ops.toList) (valF vs) s.e (doneP listed ops.size) ops.size) x := by
        intro x hx
        cases x with
        | tmp t => exact (sees t (List.mem_append_left _ (List.mem_filterMap.2 ⟨.tmp t, by simpa using hx, rfl⟩))).symm
        | _ => rfl
      have hwt : Region.wanted ops[i] (yielded ops a.tmps) = true := wanted_of (K := fun b => b = true) hE (by rw [hgd]; rfl)
      have hlset : ∀ k, doneP (listed.setIfInBounds i true) ops.size k = (doneP listed ops.size k || Nat.beq k i) := by
        intro k
        simp only [doneP, Array.getD_eq_getD_getElem?, Array.getElem?_setIfInBounds]
        by_cases hki : i = k
        · subst hki; simp [show i < listed.size by omega, blt_of hil, Nat.beq_refl]
        · have : Nat.beq k i = false := by cases hb : Nat.beq k i with
            | false => rfl
            | true => exact absurd (Nat.eq_of_beq_eq_true hb).symm hki
          simp [hki, this]
      have hlsetf : doneP (listed.setIfInBounds i true) ops.size = fun k => doneP listed ops.size k || Nat.beq k i := funext hlset
      have hput : lookE (dstF ops.toList) (valF vs) s.e (doneP (listed.setIfInBounds i true) ops.size) ops.size = putA (lookE (dstF ops.toList) (valF vs) s.e (doneP listed ops.size) ops.size) (dstF ops.toList i) (valF vs i) := by
        rw [hlsetf]
        refine lookE_put hdi ops.size hil (fun k hk hki hkd hnn hp => ?_)
        rcases Nat.lt_or_ge k i with hlt | hge
        · exact hlt
        · exfalso
          cases hdn : dstF ops.toList i with
          | none => exact hnn hdn
          | some t =>
            rw [hdn] at hkd
            have hoi : (ops[i]).dst = some t := by rw [hdst, ho] at hdn; simpa using hdn
            obtain ⟨_, h2⟩ := orderOk_spec hord (by rw [← hdst]; exact hkd) ho (.inr hoi) hki
            have := ahead_done hlow hcl k hk (hcl k hp) i (h2 (by omega))
            rw [hdi] at this; cases this
      have hcl' : ∀ j, doneP (listed.setIfInBounds i true) ops.size j = true → Waited ops (doneP (listed.setIfInBounds i true) ops.size) j := by
        intro j hj o' ho' e he hbe
        rw [hlset] at hj ⊢
        rw [Bool.or_eq_true] at hj
        rcases hj with h | h
        · rw [hcl j h o' ho' e he hbe]; rfl
        · obtain rfl := Nat.eq_of_beq_eq_true h
          rw [hwi o' ho' e he hbe]; rfl
      have hcount' : ((List.range ops.size).filter fun k => !doneP (listed.setIfInBounds i true) ops.size k).length = fuel := by
        have key : ∀ (l : List Nat), l.Nodup → i ∈ l → (l.filter fun k => !doneP listed ops.size k).length = (l.filter fun k => !doneP (listed.setIfInBounds i true) ops.size k).length + 1 := by
          intro l
          induction l with
          | nil => intro _ h; cases h
          | cons k l ih =>
            intro hnd hm
            obtain ⟨hk, hnd⟩ := List.nodup_cons.1 hnd
            by_cases hki : k = i
            · subst hki
              have hrest : (l.filter fun k' => !doneP listed ops.size k') = l.filter fun k' => !doneP (listed.setIfInBounds k true) ops.size k' := by
                refine List.filter_congr fun k' hk' => ?_
                rw [hlset]
                have : Nat.beq k' k = false := by cases hb : Nat.beq k' k with
                  | false => rfl
                  | true => exact absurd (Nat.eq_of_beq_eq_true hb ▸ hk') hk
                simp [this]
              rw [List.filter_cons, List.filter_cons, hlset, hdi, Nat.beq_refl, hrest]
              simp
            · have hm' : i ∈ l := by rcases List.mem_cons.1 hm with h | h; · exact absurd h.symm hki
                                     · exact h
              have hb : Nat.beq k i = false := by cases hb : Nat.beq k i with
                | false => rfl
                | true => exact absurd (Nat.eq_of_beq_eq_true hb) hki
              have := ih hnd hm'
              rw [List.filter_cons, List.filter_cons, hlset, hb, Bool.or_false]
              cases doneP listed ops.size k <;> simp [this]
        have := key (List.range ops.size) List.nodup_range (by simpa using hil)
        omega
      have hdi' : dstF ops.toList i = (ops[i]).dst := by rw [hdst, ho]; rfl
      have hG : lookG (infK cl nm ops.toList obs) H (doneP (listed.setIfInBounds i true) ops.size) ops.size = setO (lookG (infK cl nm ops.toList obs) H (doneP listed ops.size) ops.size) (infK cl nm ops.toList obs i) := by
        rw [hlsetf]
        refine lookG_put hdi ops.size hil (fun k q o o' h1 h2 h3 h4 => ?_)
        cases hd : doneP listed ops.size k with
        | false => rfl
        | true =>
          have := ahead_done hlow hcl k h2 (hcl k hd) i (hsame _ _ _ _ _ h3 h4 h1)
          rw [hdi] at this; cases this
      unfold wpOpIn
      rw [ho]
      simp only
      rw [if_pos hwt]
      have go : ∀ v w', Left κ F B w0 (fun v' H' => v' = valF vs i ∧ H' = lookG (infK cl nm ops.toList obs) H (doneP (listed.setIfInBounds i true) ops.size) ops.size) v w' →
          wpAnyIn (fence ro) 0 P .any ops (QOk κ F B w0 N ws s K R X) fuel (listed.setIfInBounds i true) (a.put (ops[i]).dst v) w' := by
        rintro v w' ⟨y, H', κ', F', hk, hf, I', hv, rfl, rfl⟩
        have hE' := (hE.mono hk hf).put hdst0 hv
        have := ih (listed.setIfInBounds i true) κ' F' w' _ (by simp [hsz]) hcl' hcount' I' (by rw [hput, hdi']; exact hE')
        exact wpAnyIn_mono (fun e a w hq => QOk.from hk hf (Agree.refl _ _) hq) _ _ _ _ this
      have hinfi : infK cl nm ops.toList obs i = (cK cl ops[i]).map fun c => (nm c, obs.getD i (.row [] 0)) := by simp [infK, hil]
      rw [hG, hinfi] at go
      have hcong := fun (G : AH) (KK : AV → AH → Prop) => stepA_congr (P := P) (T := T) (H := G) (K := KK) hev
      cases hc : cK cl ops[i] with
      | none =>
        rw [hc] at hg go
        simp only [Option.map_none, setO] at go
        rcases hg (lookG (infK cl nm ops.toList obs) H (doneP listed ops.size) ops.size) (hout _ _) with h | ⟨cells, n, es, hv, hlen, h⟩
        · rw [hcong] at h
          exact stepA_ok hT ro I hE.e h go
        · unfold Makes at h
          rw [hcong] at h
          refine stepA_ok hT ro I hE.e h fun v w' hL => go v w' ?_
          rw [hv]
          exact Left.cold hlen hL
      | some c =>
        rw [hc] at hg go
        simp only [Option.map_some, setO] at go
        obtain ⟨ob, h1, h2⟩ := hg
        have hat : lookG (infK cl nm ops.toList obs) H (doneP listed ops.size) ops.size (nm c) = some ob := by
          rw [← h1]
          have hii : infK cl nm ops.toList obs i = some (nm c, obs.getD i (.row [] 0)) := by rw [hinfi, hc]; rfl
          refine (lookG_up (i := i) ops.size (by omega) (fun k o h3 h4 h5 => ?_)).trans (lookG_at i (fun k o h3 h5 => ?_))
          · by_cases e : k = i
            · rw [e]; exact hdi
            · cases hd : doneP listed ops.size k with
              | false => rfl
              | true =>
                have := ahead_done hlow hcl k h4 (hcl k hd) i (hsame _ _ _ _ _ hii h5 (by omega))
                rw [hdi] at this; cases this
          · exact hahead k (hsame _ _ _ _ _ h5 hii h3)
        rcases h2 _ (hout _ _) hat with (h | ⟨cells, n, es, hv, ho', hq, h⟩) | ⟨cells, hv, ho', hq, h⟩
        · rw [hcong] at h
          exact stepA_ok hT ro I hE.e h go
        · unfold Makes at h
          rw [hcong] at h
          refine stepA_ok hT ro I hE.e h fun v w' hL => go v w' ?_
          rw [hv, ho']
          exact Left.named hq hL
        · unfold TakesP at h
          rw [hcong] at h
          refine stepA_ok hT ro I hE.e h fun v w' hL => go v w' ?_
          rw [hv, ho']
          exact Left.namedP hq hL
theorem AWp_drawK (hT : T.ok P = true) (hm : P.follows .mixedOrders = true) {N : Nat} {ro : Option Nat} {ws : Nat → Bool} {id : Nat} {ops : Array Oper} {K R : St → AH → Prop} {X : Nat → St → AH → Prop} {s : St} (cl : List (Nat × Nat)) (nm : Nat → Nat)
    (hnm : ∀ c c', c ∈ cl.map (·.2) → c' ∈ cl.map (·.2) → nm c = nm c' → c = c') (hws : (writes (.region id ops true)).all ws = true) (hord : (orderOk ops && ordK ops cl) = true) (h : drawKS N P T cl nm ops.toList K s H) :
    AWp N P ro ws (.region id ops true) K R X s H := by
  refine ⟨fun κ F B w0 w a I hE => wpIn_region_any hm ?_⟩
  obtain ⟨vs, obs, hstep, hend⟩ := chainK _ _ _ h
  rw [Bool.and_eq_true] at hord
  have hz : ∀ k, doneP (Array.replicate ops.size false) ops.size k = false := by
    intro k
    simp only [doneP, Array.getD_eq_getD_getElem?]
    by_cases hk : k < ops.size
    · simp [hk]
    · simp [hk]
  refine anyK_ok hT ro hord.1 hord.2 hnm (all_mem hws) hstep hend ops.size _ κ F _ a (by simp) (fun j hj => by rw [hz] at hj; cases hj) ?_ ?_ ?_
  · have : ((List.range ops.size).filter fun k => !doneP (Array.replicate ops.size false) ops.size k) = List.range ops.size := List.filter_eq_self.2 fun k _ => by simp [hz]
    rw [this]; simp
  · have : ∀ n, lookG (infK cl nm ops.toList obs) H (doneP (Array.replicate ops.size false) ops.size) n = H := by
      intro n
      induction n with
      | zero => rfl
      | succ n ih => simp only [lookG, hz, cond_false, ih]
    rw [this]; exact I.drew
  · have : ∀ n, lookE (dstF ops.toList) (valF vs) s.e (doneP (Array.replicate ops.size false) ops.size) n = s.e := by
      intro n
      induction n with
      | zero => rfl
      | succ n ih => simp only [lookE, hz, cond_false, ih]
    rw [this]; exact hE
structure DrawK (N : Nat) (P : Program) (T : TT) (cl : List (Nat × Nat)) (nm : Nat → Nat) (l : List Oper) (K : St → AH → Prop) (s : St) (H : AH) : Prop where
  out : drawKS N P T cl nm l K s H
def offR (nm : Nat → Nat) (r : Nat) : List (Nat × Nat) → Prop
  | [] => True
  | p :: l => nm p.2 ≠ r ∧ offR nm r l
theorem offR_iff {nm : Nat → Nat} {r : Nat} : ∀ {l : List (Nat × Nat)}, offR nm r l → ∀ c, c ∈ l.map (·.2) → nm c ≠ r
  | [], _, c, hc => by cases hc
  | p :: l, ⟨h1, h2⟩, c, hc => by
    rcases List.mem_cons.1 hc with rfl | hc
    · exact h1
    · exact offR_iff h2 c hc
def offK (P : Program) (T : TT) (cl : List (Nat × Nat)) (nm : Nat → Nat) (o : Op) (e : Env) (H : AH) (K : AV → Prop) : Prop :=
  match o with
  | .load t a =>
    (match T.get t with
     | some tr => (match ev e a with
       | .ptr r v off => offR nm r cl ∧ loadA tr (.ptr r v off) H K
       | b => loadC tr b K)
     | none => False)
  | o => pureL P T o e K
theorem loadA_det {tr : TR} {r v off : Nat} {K : AV → Prop} (h : loadA tr (.ptr r v off) H K) : ∃ x, K x ∧ ∀ G : AH, G r = H r → loadA tr (.ptr r v off) G (fun y => y = x) := by
  unfold loadA at h
  simp only at h
  obtain ⟨cells, hH, h⟩ := h
  cases hag : tr.agg with
  | true =>
    rw [hag] at h
    obtain ⟨h1, h2⟩ := h
    refine ⟨_, h2, fun G hG => ?_⟩
    unfold loadA
    simp only
    refine ⟨cells, hG.trans hH, ?_⟩
    rw [hag]
    exact ⟨h1, rfl⟩
  | false =>
    rw [hag] at h
    obtain ⟨h1, x, h2, h3⟩ := when_iff.1 h
    refine ⟨x, h3, fun G hG => ?_⟩
    unfold loadA
    simp only
    refine ⟨cells, hG.trans hH, ?_⟩
    rw [hag]
    exact when_iff.2 ⟨h1, x, h2, rfl⟩
theorem offK_ok {cl : List (Nat × Nat)} {nm : Nat → Nat} {o : Op} {e : Env} {K : AV → Prop} (h : offK P T cl nm o e H K) : ∃ v, (∀ G, OutK cl nm G H → LStep0 P T o e G v) ∧ K v := by
  unfold offK at h
  split at h
  · rename_i t a
    split at h
    · rename_i tr hg
      split at h
      · rename_i r v off ha
        obtain ⟨h1, h2⟩ := h
        obtain ⟨x, h3, h4⟩ := loadA_det h2
        refine ⟨x, fun G hG => .inl ?_, h3⟩
        have := h4 G (hG r (offR_iff h1))
        show opA T (.load t a) e G (fun v' H' => v' = x ∧ H' = G)
        simp only [opA, hg, ha]
        simpa using this
      · obtain ⟨v, h1, h2⟩ := det_loadC _ _ _ h
        refine ⟨v, fun G _ => .inl ?_, h2⟩
        show opA T (.load t a) e G (fun v' H' => v' = v ∧ H' = G)
        simp only [opA, hg]
        simpa using loadC_ok (H := G) h1
    · exact h.elim
  · obtain ⟨v, h1, h2⟩ := pureL_ok h
    exact ⟨v, fun G _ => h1 G, h2⟩
def onK (P : Program) (T : TT) (q : Nat) (ob : AO) (o : Op) (e : Env) (K : AV → AO → Prop) : Prop :=
  match o with
  | .alloc t => (match T.get t with | some tr => ob = .row [] 0 ∧ K (.ptr q 1 0) (.row tr.zero 1) | none => False)
  | .store t a x =>
    (match T.get t, ev e a, cellsOf (ev e x) with
     | some tr, .ptr r v off, some l => r = q ∧ ∃ cells, ob = .row cells v ∧ off + tr.size ≤ cells.length ∧ l.length = tr.size ∧ l.all one = true ∧ K .junk (.row (wrA cells off l) v)
     | _, _, _ => False)
  | .load t a =>
    (match T.get t, ev e a with
     | some tr, .ptr r v off => r = q ∧ loadA tr (.ptr r v off) (fun _ => some ob) fun x => K x ob
     | _, _ => False)
  | .fieldAddr t x f => when (isPure T (.fieldAddr t x f) && isDet T (.fieldAddr t x f)) (opA T (.fieldAddr t x f) e (fun _ => none) fun v _ => K v ob)
  | .indexAddr t x i => when (isPure T (.indexAddr t x i) && isDet T (.indexAddr t x i)) (opA T (.indexAddr t x i) e (fun _ => none) fun v _ => K v ob)
  | o => appL T q ob o e K ∨ ∃ cells n es, ob = .row [] 0 ∧ (∀ G, Makes P T o e G cells n es) ∧ K (.sl q 1 es 0 n none) (.row cells 1)
theorem pure_on {q : Nat} {ob : AO} {o : Op} {e : Env} {K : AV → AO → Prop} (h : when (isPure T o && isDet T o) (opA T o e (fun _ => none) fun v _ => K v ob)) : ∃ v o', (∀ G, G q = some ob → LStepK P T o e G q v o') ∧ K v o' := by
  obtain ⟨h1, h2⟩ := when_iff.1 h
  rw [Bool.and_eq_true] at h1
  obtain ⟨v, h3, h4⟩ := opA_det (H := fun _ => none) (K := fun v _ => K v ob) h1.2 h2
  obtain ⟨_, h5⟩ := opA_pure h1.1 h3
  refine ⟨v, ob, fun G hG => .inl (.inl ?_), h4⟩
  rw [stepA_pure h1.1, AH.set_id hG]
  exact h5 G
theorem onK_ok {q : Nat} {ob : AO} {o : Op} {e : Env} {K : AV → AO → Prop} (h : onK P T q ob o e K) : ∃ v o', (∀ G, G q = some ob → LStepK P T o e G q v o') ∧ K v o' := by
  unfold onK at h
  split at h
  · rename_i t
    split at h
    · rename_i tr hg
      obtain ⟨h1, h2⟩ := h
      refine ⟨_, _, fun G hG => .inr ⟨tr.zero, rfl, rfl, by rw [hG, h1], ?_⟩, h2⟩
      show opA T (.alloc t) e G (fun v' H' => ∃ r, G r = none ∧ v' = .ptr r 0 0 ∧ H' = G.set r (.row tr.zero 0))
      simp only [opA, hg]
      exact fun r hr => ⟨r, hr, rfl, rfl⟩
    · exact h.elim
  · rename_i t a x
    split at h
    · rename_i tr r v off l hg ha hx
      obtain ⟨rfl, cells, h1, h2, h3, h4, h5⟩ := h
      refine ⟨_, _, fun G hG => .inl (.inl ?_), h5⟩
      show opA T (.store t a x) e G (fun v' H' => v' = AV.junk ∧ H' = G.set r (AO.row (wrA cells off l) v))
      simp only [opA, hg, ha]
      unfold storeA
      simp only [hx]
      exact ⟨cells, by rw [hG, h1], h2, h3, h4, by simp⟩
    · exact h.elim
  · rename_i t a
    split at h
    · rename_i tr r v off hg ha
      obtain ⟨rfl, h2⟩ := h
      obtain ⟨x, h3, h4⟩ := loadA_det h2
      refine ⟨x, ob, fun G hG => .inl (.inl ?_), h3⟩
      show opA T (.load t a) e G (fun v' H' => v' = x ∧ H' = G.set r ob)
      simp only [opA, hg, ha]
      rw [AH.set_id hG]
      simpa using h4 G hG
    · exact h.elim
  · exact pure_on h
  · exact pure_on h
  · rcases h with h | ⟨cells, n, es, h1, h2, h3⟩
    · obtain ⟨v, o', h1, h2⟩ := appL_ok (P := P) h
      exact ⟨v, o', fun G hG => .inl (h1 G hG), h2⟩
    · exact ⟨_, _, fun G hG => .inl (.inr ⟨cells, n, es, rfl, rfl, by rw [hG, h1], h2 G⟩), h3⟩
def drawKD (N : Nat) (P : Program) (T : TT) (cl : List (Nat × Nat)) (nm : Nat → Nat) (o : Oper) (rest : List Oper) (K : St → AH → Prop) (e : Env) (d : List Nat) (H : AH) : Prop :=
  when (dstOk N o.dst && o.guard.isNone) (match cK cl o with
    | none => offK P T cl nm o.op e H fun v => force v fun v => DrawK N P T cl nm rest K ⟨putA e o.dst v, d⟩ H
    | some c => ∃ ob, H (nm c) = some ob ∧ onK P T (nm c) ob o.op e fun v o' => force v fun v => DrawK N P T cl nm rest K ⟨putA e o.dst v, d⟩ (H.set (nm c) o'))
theorem DrawK.nil {N : Nat} {cl : List (Nat × Nat)} {nm : Nat → Nat} {K : St → AH → Prop} {s : St} (h : K s H) : DrawK N P T cl nm [] K s H := ⟨h⟩
theorem DrawK.consD {N : Nat} {cl : List (Nat × Nat)} {nm : Nat → Nat} {o : Oper} {rest : List Oper} {K : St → AH → Prop} {e : Env} {d : List Nat} (h : drawKD N P T cl nm o rest K e d H) : DrawK N P T cl nm (o :: rest) K ⟨e, d⟩ H := by
  refine ⟨?_⟩
  unfold drawKD at h
  unfold drawKS
  obtain ⟨h1, h2⟩ := when_iff.1 h
  rw [Bool.and_eq_true] at h1
  refine ⟨h1.1, by simpa using h1.2, ?_⟩
  split at h2
  · rename_i hc
    obtain ⟨v, h3, h4⟩ := offK_ok h2
    rw [force_eq] at h4
    exact ⟨v, h3, h4.out⟩
  · rename_i c hc
    obtain ⟨ob, h3, h4⟩ := h2
    obtain ⟨v, o', h5, h6⟩ := onK_ok (P := P) h4
    rw [force_eq] at h6
    exact ⟨ob, v, o', h3, fun G _ hG => h5 G hG, h6.out⟩
theorem AWq.drawK (hm : P.follows .mixedOrders = true) {N : Nat} {ro : Option Nat} {ws : Nat → Bool} {id : Nat} {ops : Array Oper} {K R : St → AH → Prop} {X : Nat → St → AH → Prop} {s : St} (cl : List (Nat × Nat)) (nm : Nat → Nat)
    (hnm : ∀ c c', c ∈ cl.map (·.2) → c' ∈ cl.map (·.2) → nm c = nm c' → c = c') (hord : (orderOk ops && ordK ops cl) = true) (h : DrawK N P T cl nm ops.toList K s H) :
    AWq N P T ro ws (.region id ops true) K R X s H :=
  ⟨fun hT hdraw hw => AWp_drawK hT hm cl nm hnm (List.all_eq_true.2 hw) hord h.out⟩
end Go.Fw
/- The frame of the abstract walk, part 32: a cell that nobody writes any more is told as a constant. -/
set_option linter.unusedVariables false
set_option linter.unusedSimpArgs false
namespace Go.Fw
open Go.RowKit
variable {κ : KM} {F : FM} {B : Nat} {w0 w : World} {H : AH} {P : Program} {T : TT}
theorem wrA_all {z x : List AV} (h : z.length = x.length) : wrA z 0 x = x := by
  unfold wrA; rw [Nat.zero_add, List.drop_of_length_le (by omega)]; simp
theorem AVles.of_eq {a b : List AV} (h : a = b) : AVles a b := h ▸ AVles.refl _
theorem Inv.coolP (I : Inv κ F B w0 H w) {r v : Nat} {cells : List AV} (hH : H r = some (.row cells v)) :
    ∃ F', FLe F F' ∧ Inv κ F' B w0 (H.del r) w ∧ ∀ F2 x, VR κ F2 (.ptr r v 0) x → VR κ F' (.cp cells) x := by
  obtain ⟨i, hi, hrow, hn0⟩ := I.objs _ _ hH
  have hi' : κ r v = some i := hi
  cases hb : i.blk with
  | none =>
    refine ⟨F, FLe.refl _, I.drop r, fun F2 x hv => ?_⟩
    cases hv with
    | ptr h => rw [hi'] at h; cases h; cases hb
  | some b =>
    obtain ⟨arr, hsz, hlen', hcv, hFle, I'⟩ := I.freeze hH hi' hb
    refine ⟨_, hFle, I', fun F2 x hv => ?_⟩
    cases hv with
    | ptr h =>
      rw [hi'] at h; cases h; cases hb
      refine .cp (arr := arr) (by simp) (by omega) (fun j hj => ?_)
      have := (hcv j hj).mono (KLe.refl _) hFle
      simpa using this
theorem AWp_freezeP {N : Nat} {ro : Option Nat} {ws : Nat → Bool} {c : Code} {K R : St → AH → Prop} {X : Nat → St → AH → Prop} {s : St} {H : AH} (t : Nat) {r v : Nat} {cells : List AV} (hts : ws t = true)
    (he : s.e t = .ptr r v 0) (hH : H r = some (.row cells v)) (h : AWp N P ro ws c K R X ⟨retold [t] (.cp cells) s.e, s.d⟩ (H.del r)) : AWp N P ro ws c K R X s H := by
  refine ⟨fun κ F B w0 w a I hE => ?_⟩
  obtain ⟨F', hF, I', hall⟩ := I.coolP hH
  have hag : Agree ws s ⟨retold [t] (.cp cells) s.e, s.d⟩ := by
    intro u hu
    simp only [retold]
    cases hm : memA [t] u with
    | false => rfl
    | true =>
      have : u = t := by have := (memA_iff _ _).1 hm; simpa using this
      rw [this, hts] at hu; cases hu
  have hE' : ER κ F' N ⟨retold [t] (.cp cells) s.e, s.d⟩ a := by
    refine ⟨fun u => ?_, hE.size, hE.d⟩
    simp only [retold]
    cases hm : memA [t] u with
    | false => exact (hE.e u).mono (KLe.refl _) hF
    | true =>
      have hut : u = t := by have := (memA_iff _ _).1 hm; simpa using this
      have hx := hE.e u
      rw [hut, he] at hx
      rw [hut]
      exact hall _ _ hx
  exact wpIn_mono (h.out κ F' B w0 w a I' hE') (fun e a w hq => QOk.from (KLe.refl _) hF hag hq)
theorem AWp_seg {N : Nat} {ro : Option Nat} {ws : Nat → Bool} {c : Code} {K R : St → AH → Prop} {X : Nat → St → AH → Prop} {s : St} {G : AH} {p u : Nat} {o : AO} {z x : List AV} (y : List AV)
    (hx : x = y) (hl : z.length = y.length) (h : AWp N P ro ws c K R X s (G.set p (.row y u))) : AWp N P ro ws c K R X s ((G.set p o).set p (.row (wrA z 0 x) u)) := by
  rw [AH.zS, hx, wrA_all hl]; exact h
theorem AWp_segP {N : Nat} {ro : Option Nat} {ws : Nat → Bool} {c : Code} {K R : St → AH → Prop} {X : Nat → St → AH → Prop} {s : St} {G : AH} {p u : Nat} {o : AO} {z x : List AV} (t : Nat) (y : List AV)
    (hts : ws t = true) (he : s.e t = .ptr p u 0) (hG : G p = none) (hx : x = y) (hl : z.length = y.length) (h : AWp N P ro ws c K R X ⟨retold [t] (.cp y) s.e, s.d⟩ G) : AWp N P ro ws c K R X s ((G.set p o).set p (.row (wrA z 0 x) u)) := by
  refine AWp_seg y hx hl (AWp_freezeP t hts he (AH.zC _ _ _) ?_)
  rw [AH.del_set _ _ _ hG]; exact h
theorem HLe.push {G H : AH} {r : Nat} {o o' : AO} (h : HLe (G.set r o) H) : HLe (G.set r o') (H.set r o') := by
  refine ⟨fun s x hs => ?_⟩
  by_cases e : s = r
  · rw [e, AH.zC] at hs ⊢; exact hs
  · rw [AH.zR _ _ e] at hs ⊢
    exact h.le s x (by rw [AH.zR _ _ e]; exact hs)
end Go.Fw
/- The frame of the abstract walk, part 33: a call that is told of constants alone may be made with rows that are written later; it leaves them as they were. -/
set_option linter.unusedVariables false
set_option linter.unusedSimpArgs false
namespace Go.Fw
open Go.RowKit
variable {κ : KM} {F : FM} {B : Nat} {w0 w : World} {H : AH} {P : Program} {T : TT}
inductive Flat : AV → Prop where
  | junk : Flat .junk
  | int (k : IntKind) (n : Int) : Flat (.int k n)
  | bool (b : Bool) : Flat (.bool b)
  | str (s : List UInt8) : Flat (.str s)
  | nilp : Flat .nilp
  | nils : Flat .nils
  | cs (l : List AV) (n : Nat) (h : ∀ x, x ∈ l → Flat x) : Flat (.cs l n)
  | cp (l : List AV) (h : ∀ x, x ∈ l → Flat x) : Flat (.cp l)
  | agg (l : List AV) (h : ∀ x, x ∈ l → Flat x) : Flat (.agg l)
  | tup (l : List AV) (h : ∀ x, x ∈ l → Flat x) : Flat (.tup l)
theorem Flat.vr {κ' : KM} {F' : FM} (hF : FLe F F') {a : AV} {v : Value} (hf : Flat a) (h : VR κ F a v) : VR κ' F' a v := by
  induction h with
  | junk v => exact .junk v
  | int k n => exact .int k n
  | bool b => exact .bool b
  | str s => exact .str s
  | nilp => exact .nilp
  | ptr h => cases hf
  | cp hFb hle _ ih => cases hf with | cp _ hf => exact .cp (hF _ _ hFb) hle fun i hi => ih i hi (hf _ (List.getElem_mem hi))
  | nils a => exact .nils a
  | cs0 a c => exact .cs0 a c
  | cs hFb hle hc _ ih => cases hf with | cs _ _ hf => exact .cs (hF _ _ hFb) hle hc fun i hi => ih i hi (hf _ (List.getElem_mem hi))
  | sl h hoff hlo hc hlen ha => cases hf
  | mapNil => exact .mapNil
  | map h => cases hf
  | fn hA hC _ _ ih1 ih2 => cases hf
  | nilf => exact .nilf
  | agg hA _ ih => cases hf with | agg _ hf => exact .agg hA fun i hi => ih i hi (hf _ (List.getElem_mem hi))
  | tup hA _ ih => cases hf with | tup _ hf => exact .tup hA fun i hi => ih i hi (hf _ (List.getElem_mem hi))
inductive NoF : AV → Prop where
  | junk : NoF .junk
  | int (k : IntKind) (n : Int) : NoF (.int k n)
  | bool (b : Bool) : NoF (.bool b)
  | str (s : List UInt8) : NoF (.str s)
  | nilp : NoF .nilp
  | nils : NoF .nils
  | agg (l : List AV) (h : ∀ x, x ∈ l → NoF x) : NoF (.agg l)
  | tup (l : List AV) (h : ∀ x, x ∈ l → NoF x) : NoF (.tup l)
theorem NoF.vr {κ' : KM} {F' : FM} {a : AV} {v : Value} (hf : NoF a) (h : VR κ F a v) : VR κ' F' a v := by
  induction h with
  | junk v => exact .junk v
  | int k n => exact .int k n
  | bool b => exact .bool b
  | str s => exact .str s
  | nilp => exact .nilp
  | ptr h => cases hf
  | cp hFb hle _ ih => cases hf
  | nils a => exact .nils a
  | cs0 a c => exact .cs0 a c
  | cs hFb hle hc _ ih => cases hf
  | sl h hoff hlo hc hlen ha => cases hf
  | mapNil => exact .mapNil
  | map h => cases hf
  | fn hA hC _ _ ih1 ih2 => cases hf
  | nilf => exact .nilf
  | agg hA _ ih => cases hf with | agg _ hf => exact .agg hA fun i hi => ih i hi (hf _ (List.getElem_mem hi))
  | tup hA _ ih => cases hf with | tup _ hf => exact .tup hA fun i hi => ih i hi (hf _ (List.getElem_mem hi))
inductive Frz (H : AH) : AV → AV → Prop where
  | flat (a : AV) (h : Flat a) : Frz H a a
  | sl {r v es n : Nat} {lim : Option Nat} {cells : List AV} (hr : H r = some (.row cells v)) (hl : cells.length = n * es) (h : ∀ x, x ∈ cells → Flat x) : Frz H (.sl r v es 0 n lim) (.cs cells n)
inductive Frzs (H : AH) : List AV → List AV → Prop where
  | nil : Frzs H [] []
  | cons {a b : AV} {l m : List AV} (h : Frz H a b) (k : Frzs H l m) : Frzs H (a :: l) (b :: m)
theorem Frz.vr (I : Inv κ F B w0 H w) {a b : AV} (h : Frz H a b) {x : Value} (hv : VR κ F a x) : VR (fun _ _ => none) (startF w) b x := by
  have hF : FLe F (startF w) := fun c arr hc => by
    obtain ⟨e, fr, hh⟩ := I.fz c arr hc
    unfold startF
    rw [hh]
  cases h with
  | flat _ hf => exact hf.vr hF hv
  | sl hr hl hf =>
    rename_i r v es n lim cells
    obtain ⟨i, adr, c, rfl, hi, hie, hlc, hrow, hnx, hadr, lo, hlo0, hlo, hlim⟩ := VR.slOf I hv hr
    rcases hadr with hc | ⟨b', hb', rfl⟩
    · have hn : n = 0 := by omega
      subst hn
      have : cells = [] := List.eq_nil_of_length_eq_zero (by simpa using hl)
      rw [this]; exact .cs0 _ _
    · obtain ⟨i2, hi2, hrow2, _⟩ := I.objs _ _ hr
      have hi2 : κ r v = some i2 := hi2
      rw [hi] at hi2; cases hi2
      simp only [RowOk, hb'] at hrow2
      obtain ⟨hB, hFb, arr, e, fr, hh, hlo2, hsz, hlen, hcell⟩ := hrow2
      refine .cs (arr := arr) (by unfold startF; rw [hh]) (by omega) hlc fun j hj => ?_
      have := hcell j hj
      rw [Nat.zero_add]
      exact (hf _ (List.getElem_mem hj)).vr hF this
theorem Frzs.vrs (I : Inv κ F B w0 H w) : ∀ {l m : List AV}, Frzs H l m → m.length = l.length ∧ ∀ i (hi : i < l.length) (hj : i < m.length), Frz H l[i] m[i]
  | _, _, .nil => ⟨rfl, fun i hi => by simp at hi⟩
  | _, _, .cons h k => by
    obtain ⟨k1, k2⟩ := Frzs.vrs I k
    refine ⟨by simp [k1], fun i hi hj => ?_⟩
    cases i with
    | zero => exact h
    | succ i => exact k2 i (by simpa using hi) (by simpa using hj)
theorem Frzs.cargs (I : Inv κ F B w0 H w) {args args' : List AV} {cargs : Array Value} (ha : Frzs H args args') (hA : VRs κ F args cargs) : VRs (fun _ _ => none) (startF w) args' cargs := by
  obtain ⟨k1, k2⟩ := ha.vrs I
  exact ⟨by rw [hA.1, k1], fun i hi => (k2 i (by rw [← k1]; exact hi) hi).vr I (hA.2 i (by rw [← k1]; exact hi))⟩
end Go.Fw
/- Tiles: the walks of Valid. -/
namespace Go.Proofs.Ytgpfmojlgejnhaa
open Go.Fw Go
set_option linter.unusedVariables false
set_option linter.unusedSimpArgs false
def tV (b : Int) (L P : List Int) : AV := .agg [.int .i64 b, .cs (iS .i64 L) L.length, .cs (iS .i64 P) P.length]
def vOk (l v : Int) : Prop := (0 ≤ v ∧ v ≤ 65535) ∧ (l < 0 → v = 0)
def pxOk (n : Nat) (L P : List Int) (i k : Nat) : Prop := ∀ j, j < k → vOk (L.getD i 0) (P.getD (i * n + j) 0)
def lbOk (n : Nat) (L P : List Int) (i : Nat) : Prop := ∀ j, j < i → (-1 ≤ L.getD j 0 ∧ L.getD j 0 ≤ 4095) ∧ pxOk n L P j n
def tForm (b : Int) (L P : List Int) : Prop := (1 ≤ b ∧ b ≤ 4) ∧ L.length = 256 ∧ (P.length : Int) = 256 * b
open Classical in
noncomputable def tileE (b : Int) (L P : List Int) : Int := if ¬ tForm b L P then 1 else if lbOk b.toNat L P 256 then 0 else 5
def tI (L : List Int) : Prop := L.length ≤ 1000000
theorem iS_mid {P : List Int} {Q k n : Nat} (hk : k < n) (hP : Q + n ≤ P.length) :
  (List.drop ((k : Int).toNat * 1) (List.take ((((Q + n : Nat) : Int).toNat - ((Q : Nat) : Int).toNat) * 1) (List.drop (((Q : Nat) : Int).toNat * 1) (iS .i64 P))))[0]? = some (.int .i64 (P.getD (Q + k) 0)) := by
 rw [Int.toNat_natCast, Int.toNat_natCast, Int.toNat_natCast, List.getElem?_drop, List.getElem?_take_of_lt (by omega), List.getElem?_drop, show Q * 1 + (k * 1 + 0) = Q + k by omega]
 exact iS_get (by omega)
theorem pxOk_snoc {n : Nat} {L P : List Int} {i k : Nat} (h : pxOk n L P i k) (hk : vOk (L.getD i 0) (P.getD (i * n + k) 0)) : pxOk n L P i (k + 1) := fun j hj => by
 by_cases e : j = k
 ·rw [e]; exact hk
 ·exact h j (by omega)
theorem lbOk_snoc {n : Nat} {L P : List Int} {i : Nat} (h : lbOk n L P i) (hl : -1 ≤ L.getD i 0 ∧ L.getD i 0 ≤ 4095) (hp : pxOk n L P i n) : lbOk n L P (i + 1) := fun j hj => by
 by_cases e : j = i
 ·rw [e]; exact ⟨hl, hp⟩
 ·exact h j (by omega)
set_option maxRecDepth 8000 in
set_option maxHeartbeats 8000000 in
theorem valid_c (b : Int) (L P : List Int) (hb : J64 b) (hL : tI L) (hP : tI P) (H : AH) :
  ACall Try.prog 25 [tV b L P] H (fun z H' => z = .int .i64 (tileE b L P) ∧ H' = H) := by
 unfold tileE
 unfold tI at hL hP
 have b0 := fun H => btw_c b 1 4 H
 unfold J64 at hb
 by_cases hf : tForm b L P
 ·rw [if_neg (fun h => h hf)]
  obtain ⟨h1, h2, h3⟩ := hf
  rw [decide_eq_true h1] at b0
  obtain ⟨n, rfl⟩ : ∃ n : Nat, b = n := ⟨b.toNat, by omega⟩
  rw [Int.toNat_natCast]
  have hn : P.length = 256 * n := by omega
  have hLl : (iS .i64 L).length = L.length := by simp
  have hPl : (iS .i64 P).length = P.length := by simp
  refine zQ zU (dok _) Try.func25 rfl (by decide) rfl ?_
  (repeat' ((conv => whnf); first | refine OpsA.zD ?_ | refine OpsA.zE ?_ | refine AWq.zI ?_ | refine AWq.zB ?_ | refine AWq.zG ?_ | refine AWq.zF ?_ | refine AWq.zH ?_ | refine AWq.ret ?_ | refine AWq.zK ?_ | refine AWq.zJ ?_ | (refine Both.mk ?_ ?_ <;> intro hc <;> (first | exact Bool.noConfusion hc | exact absurd (by assumption) hc | (exfalso; omega) | skip)) | (intro c hc; (try (simp only [AH.zA] at hc; repeat (have hn := hc.1; replace hc := hc.2))); (first | (have hc2 := Eq.trans hc (by with_reducible assumption); clear hc; subst hc2) | (refine zP hc ?_ ?_ ?_ ; omega; omega; (clear hc; intro hc; subst hc)) | skip)) | (apply Exists.intro; apply And.intro; (first | (focus (repeat (first | (with_reducible assumption))); done))) | (apply Exists.intro; apply And.intro; first | (with_reducible assumption) | ((try simp only [zW, z0z, zZ, zY]); first | (with_reducible assumption) | rfl)) | (apply And.intro; (first | rfl | (with_reducible assumption) | exact zX rfl | omega | (simp <;> omega))))) <;> (try (conv => whnf))
  refine Then.mk (AWq.in ?_)
  refine AWp_freezeP 1 rfl rfl (AH.zC _ _ _) ?_
  rw [AH.del_set _ _ _ (by assumption)]
  refine AWp.of zU (dok _) rfl ?_
  (repeat' ((conv => whnf); first | refine Then.mk ?_ | refine OpsA.zD ?_ | refine OpsA.zE ?_ | refine AWq.zI ?_ | refine AWq.zB ?_ | refine AWq.zG ?_ | refine AWq.zF ?_ | refine AWq.zH ?_ | refine AWq.ret ?_ | refine AWq.zK ?_ | refine AWq.zJ ?_ | (refine Both.mk ?_ ?_ <;> intro hc <;> (first | exact Bool.noConfusion hc | exact absurd (by assumption) hc | (exfalso; omega) | skip)) | (intro c hc; (try (simp only [AH.zA] at hc; repeat (have hn := hc.1; replace hc := hc.2))); (first | (have hc2 := Eq.trans hc (by with_reducible assumption); clear hc; subst hc2) | (refine zP hc ?_ ?_ ?_ ; omega; omega; (clear hc; intro hc; subst hc)) | skip)) | (apply Exists.intro; apply And.intro; (first | (focus (repeat (first | (with_reducible assumption))); done))) | (apply Exists.intro; apply And.intro; first | (with_reducible assumption) | ((try simp only [zW, z0z, zZ, zY]); first | (with_reducible assumption) | rfl)) | (apply And.intro; (first | rfl | (with_reducible assumption) | exact zX rfl | omega | (simp <;> omega))) | (refine ACall.to (b0 _) ?_))) <;> (try (conv => whnf))
  refine zT (σ := Nat) (2 :: 3 :: 4 :: 6 :: 29 :: 30 :: 31 :: 32 :: 33 :: 34 :: 35 :: 36 :: 37 :: 38 :: 39 :: 40 :: 41 :: 42 :: 43 :: 44 :: 45 :: 46 :: 47 :: 48 :: 49 :: 50 :: 51 :: 52 :: 53 :: 54 :: 55 :: 56 :: 57 :: 58 :: 59 :: 60 :: 61 :: 62 :: 63 :: 64 :: 65 :: 66 :: []) (fun i => [(29, .int .i64 i)]) (fun _ => H) (fun i => i ≤ 256 ∧ lbOk n L P i) (fun i => 256 - i) 0 rfl ⟨Nat.zero_le _, fun j hj => absurd hj (Nat.not_lt_zero j)⟩ ⟨rfl, trivial⟩ (HLe.refl _) ?_
  rintro i ⟨hi, hio⟩
  refine AWp.of zU (dok _) rfl ?_
  dsimp only at hi ⊢
  by_cases hit : i < 256
  ·have gl : (iS .i64 L)[(i : Int).toNat]? = some (.int .i64 (L.getD i 0)) := iS_get (by omega)
   have b1 := fun H => btw_c (L.getD i 0) (-1) 4095 H
   by_cases hl : -1 ≤ L.getD i 0 ∧ L.getD i 0 ≤ 4095
   ·rw [decide_eq_true hl] at b1
    have hq : i * n + n ≤ 256 * n := by
     have := Nat.mul_le_mul_right n (show i + 1 ≤ 256 by omega)
     rwa [Nat.add_mul, Nat.one_mul] at this
    have w1 : IntKind.i64.wrap ((i : Int) * (n : Int)) = ((i * n : Nat) : Int) := by rw [← Int.natCast_mul, IntKind.wrap_i64]; omega
    have w2 : IntKind.i64.wrap (((i : Int) + 1) * (n : Int)) = ((i * n + n : Nat) : Int) := by
     rw [show ((i : Int) + 1) * (n : Int) = ((i * n + n : Nat) : Int) by rw [Int.add_mul, Int.natCast_add, Int.natCast_mul]; omega, IntKind.wrap_i64]; omega
    have hst := fun hp => lbOk_snoc (n := n) (P := P) hio hl hp
    have hpx : ∀ k, lbOk n L P 256 → k < n → vOk (L.getD i 0) (P.getD (i * n + k) 0) := fun k h hk => (h i hit).2 k hk
    obtain ⟨Q, hQ⟩ : ∃ Q, Q = i * n := ⟨_, rfl⟩
    have hsn : ∀ k, pxOk n L P i k → vOk (L.getD i 0) (P.getD (i * n + k) 0) → pxOk n L P i (k + 1) := fun k => pxOk_snoc
    rw [← hQ] at hq w1 w2 hpx hsn
    generalize hl0 : L.getD i 0 = l at *
    (repeat' ((conv => whnf); first | refine Then.mk ?_ | refine OpsA.zD ?_ | refine OpsA.zE ?_ | refine AWq.zI ?_ | refine AWq.zB ?_ | refine AWq.zG ?_ | refine AWq.zF ?_ | refine AWq.zH ?_ | refine AWq.ret ?_ | refine AWq.zK ?_ | refine AWq.zJ ?_ | (refine Both.mk ?_ ?_ <;> intro hc <;> (first | exact Bool.noConfusion hc | exact absurd (by assumption) hc | (exfalso; omega) | skip)) | (intro c hc; (try (simp only [AH.zA] at hc; repeat (have hn := hc.1; replace hc := hc.2))); (first | (have hc2 := Eq.trans hc (by with_reducible assumption); clear hc; subst hc2) | (refine zP hc ?_ ?_ ?_ ; omega; omega; (clear hc; intro hc; subst hc)) | skip)) | (apply Exists.intro; apply And.intro; (first | (focus (repeat (first | (with_reducible assumption))); done))) | (apply Exists.intro; apply And.intro; first | (with_reducible assumption) | ((try simp only [zW, z0z, zZ, zY]); first | (with_reducible assumption) | rfl)) | (apply And.intro; (first | rfl | (with_reducible assumption) | exact zX rfl | omega | (simp <;> omega))) | (refine ACall.to (b1 _) ?_))) <;> (try (conv => whnf))
    refine zT (σ := Nat) (2 :: 6 :: 50 :: 51 :: 52 :: 53 :: 54 :: 55 :: 56 :: 57 :: 58 :: 59 :: 60 :: 61 :: 62 :: 63 :: 64 :: 65 :: []) (fun k => [(50, .int .i64 k)]) (fun _ => H) (fun k => k ≤ n ∧ pxOk n L P i k) (fun k => n - k) 0 rfl ⟨Nat.zero_le _, fun j hj => absurd hj (Nat.not_lt_zero j)⟩ ⟨rfl, trivial⟩ (HLe.refl _) ?_
    rintro k ⟨hk, hko⟩
    refine AWp.of zU (dok _) rfl ?_
    dsimp only at hk ⊢
    by_cases hkt : k < n
    ·have gp := iS_mid (P := P) (Q := Q) hkt (by omega)
     have b2 := fun H => btw_c (P.getD (Q + k) 0) 0 65535 H
     have hsk := hsn k hko
     have hpk := fun h => hpx k h hkt
     unfold vOk at hsk hpk
     generalize P.getD (Q + k) 0 = v at *
     by_cases hv : 0 ≤ v ∧ v ≤ 65535
     ·rw [decide_eq_true hv] at b2
      by_cases hv2 : l < 0 ∧ v ≠ 0
      ·rw [if_neg (fun h => hv2.2 ((hpk h).2 hv2.1))]
       obtain ⟨hv3, hv4⟩ := hv2
       (repeat' ((conv => whnf); first | refine Then.mk ?_ | refine OpsA.zD ?_ | refine OpsA.zE ?_ | refine AWq.zI ?_ | refine AWq.zB ?_ | refine AWq.zG ?_ | refine AWq.zF ?_ | refine AWq.zH ?_ | refine AWq.ret ?_ | refine AWq.zK ?_ | refine AWq.zJ ?_ | (refine Both.mk ?_ ?_ <;> intro hc <;> (first | exact Bool.noConfusion hc | exact absurd (by assumption) hc | (exfalso; omega) | skip)) | (intro c hc; (try (simp only [AH.zA] at hc; repeat (have hn := hc.1; replace hc := hc.2))); (first | (have hc2 := Eq.trans hc (by with_reducible assumption); clear hc; subst hc2) | (refine zP hc ?_ ?_ ?_ ; omega; omega; (clear hc; intro hc; subst hc)) | skip)) | (apply Exists.intro; apply And.intro; (first | (focus (repeat (first | (with_reducible assumption))); done))) | (apply Exists.intro; apply And.intro; first | (with_reducible assumption) | ((try simp only [zW, z0z, zZ, zY]); first | (with_reducible assumption) | rfl)) | (apply And.intro; (first | rfl | (with_reducible assumption) | exact zX rfl | omega | (simp <;> omega))) | (refine ACall.to (b2 _) ?_))) <;> (try (conv => whnf))
       done
      ·have hsk2 := hsk ⟨hv, fun h => Decidable.byContradiction fun h2 => hv2 ⟨h, h2⟩⟩
       (repeat' ((conv => whnf); first | refine Then.mk ?_ | refine OpsA.zD ?_ | refine OpsA.zE ?_ | refine AWq.zI ?_ | refine AWq.zB ?_ | refine AWq.zG ?_ | refine AWq.zF ?_ | refine AWq.zH ?_ | refine AWq.ret ?_ | refine AWq.zK ?_ | refine AWq.zJ ?_ | (refine Both.mk ?_ ?_ <;> intro hc <;> (first | exact Bool.noConfusion hc | exact absurd (by assumption) hc | (exfalso; omega) | skip)) | (intro c hc; (try (simp only [AH.zA] at hc; repeat (have hn := hc.1; replace hc := hc.2))); (first | (have hc2 := Eq.trans hc (by with_reducible assumption); clear hc; subst hc2) | (refine zP hc ?_ ?_ ?_ ; omega; omega; (clear hc; intro hc; subst hc)) | skip)) | (apply Exists.intro; apply And.intro; (first | (focus (repeat (first | (with_reducible assumption))); done))) | (apply Exists.intro; apply And.intro; first | (with_reducible assumption) | ((try simp only [zW, z0z, zZ, zY]); first | (with_reducible assumption) | rfl)) | (apply And.intro; (first | rfl | (with_reducible assumption) | exact zX rfl | omega | (simp <;> omega))) | (refine ACall.to (b2 _) ?_))) <;> (try (conv => whnf))
       all_goals exact ⟨k + 1, ⟨hkt, hsk2⟩, show n - (k + 1) < n - k by omega, ⟨congrArg (AV.int .i64) (by omega), trivial⟩, HLe.refl _⟩
     ·rw [decide_eq_false hv] at b2
      rw [if_neg (fun h => hv (hpk h).1)]
      (repeat' ((conv => whnf); first | refine Then.mk ?_ | refine OpsA.zD ?_ | refine OpsA.zE ?_ | refine AWq.zI ?_ | refine AWq.zB ?_ | refine AWq.zG ?_ | refine AWq.zF ?_ | refine AWq.zH ?_ | refine AWq.ret ?_ | refine AWq.zK ?_ | refine AWq.zJ ?_ | (refine Both.mk ?_ ?_ <;> intro hc <;> (first | exact Bool.noConfusion hc | exact absurd (by assumption) hc | (exfalso; omega) | skip)) | (intro c hc; (try (simp only [AH.zA] at hc; repeat (have hn := hc.1; replace hc := hc.2))); (first | (have hc2 := Eq.trans hc (by with_reducible assumption); clear hc; subst hc2) | (refine zP hc ?_ ?_ ?_ ; omega; omega; (clear hc; intro hc; subst hc)) | skip)) | (apply Exists.intro; apply And.intro; (first | (focus (repeat (first | (with_reducible assumption))); done))) | (apply Exists.intro; apply And.intro; first | (with_reducible assumption) | ((try simp only [zW, z0z, zZ, zY]); first | (with_reducible assumption) | rfl)) | (apply And.intro; (first | rfl | (with_reducible assumption) | exact zX rfl | omega | (simp <;> omega))) | (refine ACall.to (b2 _) ?_))) <;> (try (conv => whnf))
      done
    ·have hke : k = n := by omega
     subst hke
     (repeat' ((conv => whnf); first | refine Then.mk ?_ | refine OpsA.zD ?_ | refine OpsA.zE ?_ | refine AWq.zI ?_ | refine AWq.zB ?_ | refine AWq.zG ?_ | refine AWq.zF ?_ | refine AWq.zH ?_ | refine AWq.ret ?_ | refine AWq.zK ?_ | refine AWq.zJ ?_ | (refine Both.mk ?_ ?_ <;> intro hc <;> (first | exact Bool.noConfusion hc | exact absurd (by assumption) hc | (exfalso; omega) | skip)) | (intro c hc; (try (simp only [AH.zA] at hc; repeat (have hn := hc.1; replace hc := hc.2))); (first | (have hc2 := Eq.trans hc (by with_reducible assumption); clear hc; subst hc2) | (refine zP hc ?_ ?_ ?_ ; omega; omega; (clear hc; intro hc; subst hc)) | skip)) | (apply Exists.intro; apply And.intro; (first | (focus (repeat (first | (with_reducible assumption))); done))) | (apply Exists.intro; apply And.intro; first | (with_reducible assumption) | ((try simp only [zW, z0z, zZ, zY]); first | (with_reducible assumption) | rfl)) | (apply And.intro; (first | rfl | (with_reducible assumption) | exact zX rfl | omega | (simp <;> omega))))) <;> (try (conv => whnf))
     exact ⟨i + 1, ⟨hit, hst hko⟩, show 256 - (i + 1) < 256 - i by omega, ⟨congrArg (AV.int .i64) (by omega), trivial⟩, HLe.refl _⟩
   ·rw [decide_eq_false hl] at b1
    rw [if_neg (fun h => hl (h i hit).1)]
    (repeat' ((conv => whnf); first | refine Then.mk ?_ | refine OpsA.zD ?_ | refine OpsA.zE ?_ | refine AWq.zI ?_ | refine AWq.zB ?_ | refine AWq.zG ?_ | refine AWq.zF ?_ | refine AWq.zH ?_ | refine AWq.ret ?_ | refine AWq.zK ?_ | refine AWq.zJ ?_ | (refine Both.mk ?_ ?_ <;> intro hc <;> (first | exact Bool.noConfusion hc | exact absurd (by assumption) hc | (exfalso; omega) | skip)) | (intro c hc; (try (simp only [AH.zA] at hc; repeat (have hn := hc.1; replace hc := hc.2))); (first | (have hc2 := Eq.trans hc (by with_reducible assumption); clear hc; subst hc2) | (refine zP hc ?_ ?_ ?_ ; omega; omega; (clear hc; intro hc; subst hc)) | skip)) | (apply Exists.intro; apply And.intro; (first | (focus (repeat (first | (with_reducible assumption))); done))) | (apply Exists.intro; apply And.intro; first | (with_reducible assumption) | ((try simp only [zW, z0z, zZ, zY]); first | (with_reducible assumption) | rfl)) | (apply And.intro; (first | rfl | (with_reducible assumption) | exact zX rfl | omega | (simp <;> omega))) | (refine ACall.to (b1 _) ?_))) <;> (try (conv => whnf))
    done
  ·have hie : i = 256 := by omega
   subst hie
   rw [if_pos hio]
   (repeat' ((conv => whnf); first | refine Then.mk ?_ | refine OpsA.zD ?_ | refine OpsA.zE ?_ | refine AWq.zI ?_ | refine AWq.zB ?_ | refine AWq.zG ?_ | refine AWq.zF ?_ | refine AWq.zH ?_ | refine AWq.ret ?_ | refine AWq.zK ?_ | refine AWq.zJ ?_ | (refine Both.mk ?_ ?_ <;> intro hc <;> (first | exact Bool.noConfusion hc | exact absurd (by assumption) hc | (exfalso; omega) | skip)) | (intro c hc; (try (simp only [AH.zA] at hc; repeat (have hn := hc.1; replace hc := hc.2))); (first | (have hc2 := Eq.trans hc (by with_reducible assumption); clear hc; subst hc2) | (refine zP hc ?_ ?_ ?_ ; omega; omega; (clear hc; intro hc; subst hc)) | skip)) | (apply Exists.intro; apply And.intro; (first | (focus (repeat (first | (with_reducible assumption))); done))) | (apply Exists.intro; apply And.intro; first | (with_reducible assumption) | ((try simp only [zW, z0z, zZ, zY]); first | (with_reducible assumption) | rfl)) | (apply And.intro; (first | rfl | (with_reducible assumption) | exact zX rfl | omega | (simp <;> omega))))) <;> (try (conv => whnf))
   done
 ·rw [if_pos hf]
  unfold tForm at hf
  refine zQ zU (dok _) Try.func25 rfl (by decide) rfl ?_
  (repeat' ((conv => whnf); first | refine OpsA.zD ?_ | refine OpsA.zE ?_ | refine AWq.zI ?_ | refine AWq.zB ?_ | refine AWq.zG ?_ | refine AWq.zF ?_ | refine AWq.zH ?_ | refine AWq.ret ?_ | refine AWq.zK ?_ | refine AWq.zJ ?_ | (refine Both.mk ?_ ?_ <;> intro hc <;> (first | exact Bool.noConfusion hc | exact absurd (by assumption) hc | (exfalso; omega) | skip)) | (intro c hc; (try (simp only [AH.zA] at hc; repeat (have hn := hc.1; replace hc := hc.2))); (first | (have hc2 := Eq.trans hc (by with_reducible assumption); clear hc; subst hc2) | (refine zP hc ?_ ?_ ?_ ; omega; omega; (clear hc; intro hc; subst hc)) | skip)) | (apply Exists.intro; apply And.intro; (first | (focus (repeat (first | (with_reducible assumption))); done))) | (apply Exists.intro; apply And.intro; first | (with_reducible assumption) | ((try simp only [zW, z0z, zZ, zY]); first | (with_reducible assumption) | rfl)) | (apply And.intro; (first | rfl | (with_reducible assumption) | exact zX rfl | omega | (simp <;> omega))))) <;> (try (conv => whnf))
  refine Then.mk (AWq.in ?_)
  refine AWp_freezeP 1 rfl rfl (AH.zC _ _ _) ?_
  rw [AH.del_set _ _ _ (by assumption)]
  refine AWp.of zU (dok _) rfl ?_
  by_cases h1 : 1 ≤ b ∧ b ≤ 4
  ·rw [decide_eq_true h1] at b0
   have w1 : IntKind.i64.wrap (256 * b) = 256 * b := by rw [IntKind.wrap_i64]; omega
   by_cases h2 : L.length = 256
   ·(repeat' ((conv => whnf); first | refine Then.mk ?_ | refine OpsA.zD ?_ | refine OpsA.zE ?_ | refine AWq.zI ?_ | refine AWq.zB ?_ | refine AWq.zG ?_ | refine AWq.zF ?_ | refine AWq.zH ?_ | refine AWq.ret ?_ | refine AWq.zK ?_ | refine AWq.zJ ?_ | (refine Both.mk ?_ ?_ <;> intro hc <;> (first | exact Bool.noConfusion hc | exact absurd (by assumption) hc | (exfalso; omega) | skip)) | (intro c hc; (try (simp only [AH.zA] at hc; repeat (have hn := hc.1; replace hc := hc.2))); (first | (have hc2 := Eq.trans hc (by with_reducible assumption); clear hc; subst hc2) | (refine zP hc ?_ ?_ ?_ ; omega; omega; (clear hc; intro hc; subst hc)) | skip)) | (apply Exists.intro; apply And.intro; (first | (focus (repeat (first | (with_reducible assumption))); done))) | (apply Exists.intro; apply And.intro; first | (with_reducible assumption) | ((try simp only [zW, z0z, zZ, zY]); first | (with_reducible assumption) | rfl)) | (apply And.intro; (first | rfl | (with_reducible assumption) | exact zX rfl | omega | (simp <;> omega))) | (refine ACall.to (b0 _) ?_))) <;> (try (conv => whnf))
    done
   ·(repeat' ((conv => whnf); first | refine Then.mk ?_ | refine OpsA.zD ?_ | refine OpsA.zE ?_ | refine AWq.zI ?_ | refine AWq.zB ?_ | refine AWq.zG ?_ | refine AWq.zF ?_ | refine AWq.zH ?_ | refine AWq.ret ?_ | refine AWq.zK ?_ | refine AWq.zJ ?_ | (refine Both.mk ?_ ?_ <;> intro hc <;> (first | exact Bool.noConfusion hc | exact absurd (by assumption) hc | (exfalso; omega) | skip)) | (intro c hc; (try (simp only [AH.zA] at hc; repeat (have hn := hc.1; replace hc := hc.2))); (first | (have hc2 := Eq.trans hc (by with_reducible assumption); clear hc; subst hc2) | (refine zP hc ?_ ?_ ?_ ; omega; omega; (clear hc; intro hc; subst hc)) | skip)) | (apply Exists.intro; apply And.intro; (first | (focus (repeat (first | (with_reducible assumption))); done))) | (apply Exists.intro; apply And.intro; first | (with_reducible assumption) | ((try simp only [zW, z0z, zZ, zY]); first | (with_reducible assumption) | rfl)) | (apply And.intro; (first | rfl | (with_reducible assumption) | exact zX rfl | omega | (simp <;> omega))) | (refine ACall.to (b0 _) ?_))) <;> (try (conv => whnf))
    done
  ·rw [decide_eq_false h1] at b0
   (repeat' ((conv => whnf); first | refine Then.mk ?_ | refine OpsA.zD ?_ | refine OpsA.zE ?_ | refine AWq.zI ?_ | refine AWq.zB ?_ | refine AWq.zG ?_ | refine AWq.zF ?_ | refine AWq.zH ?_ | refine AWq.ret ?_ | refine AWq.zK ?_ | refine AWq.zJ ?_ | (refine Both.mk ?_ ?_ <;> intro hc <;> (first | exact Bool.noConfusion hc | exact absurd (by assumption) hc | (exfalso; omega) | skip)) | (intro c hc; (try (simp only [AH.zA] at hc; repeat (have hn := hc.1; replace hc := hc.2))); (first | (have hc2 := Eq.trans hc (by with_reducible assumption); clear hc; subst hc2) | (refine zP hc ?_ ?_ ?_ ; omega; omega; (clear hc; intro hc; subst hc)) | skip)) | (apply Exists.intro; apply And.intro; (first | (focus (repeat (first | (with_reducible assumption))); done))) | (apply Exists.intro; apply And.intro; first | (with_reducible assumption) | ((try simp only [zW, z0z, zZ, zY]); first | (with_reducible assumption) | rfl)) | (apply And.intro; (first | rfl | (with_reducible assumption) | exact zX rfl | omega | (simp <;> omega))) | (refine ACall.to (b0 _) ?_))) <;> (try (conv => whnf))
   done
open Go.Fw Go
def grH (H : AH) (p q1 q2 : Nat) (b : Int) (A B : List Int) : AH :=
 ((H.set p (.row [.int .i64 b, .sl q1 A.length 1 0 A.length none, .sl q2 B.length 1 0 B.length none] 0)).set q1 (.row (iS .i64 A) A.length)).set q2 (.row (iS .i64 B) B.length)
structure Gr (H : AH) (p q1 q2 : Nat) : Prop where
 hp : H p = none
 ha : H q1 = none
 hb : H q2 = none
 pa : p ≠ q1
 pb : p ≠ q2
 ab : q1 ≠ q2
theorem Gr.atp {H : AH} {p q1 q2 : Nat} (g : Gr H p q1 q2) (b : Int) (A B : List Int) : grH H p q1 q2 b A B p = some (.row [.int .i64 b, .sl q1 A.length 1 0 A.length none, .sl q2 B.length 1 0 B.length none] 0) := by
 unfold grH; rw [AH.zR _ _ g.pb, AH.zR _ _ g.pa, AH.zC]
theorem Gr.ata {H : AH} {p q1 q2 : Nat} (g : Gr H p q1 q2) (b : Int) (A B : List Int) : grH H p q1 q2 b A B q1 = some (.row (iS .i64 A) A.length) := by
 unfold grH; rw [AH.zR _ _ g.ab, AH.zC]
theorem Gr.atb {H : AH} {p q1 q2 : Nat} (g : Gr H p q1 q2) (b : Int) (A B : List Int) : grH H p q1 q2 b A B q2 = some (.row (iS .i64 B) B.length) := by
 unfold grH; rw [AH.zC]
theorem Gr.stepA {H : AH} {p q1 q2 : Nat} (g : Gr H p q1 q2) (b : Int) (A B : List Int) (x : Int) :
  HLe (grH H p q1 q2 b (A ++ [x]) B) (((grH H p q1 q2 b A B).set q1 (.row (iS .i64 A ++ [.int .i64 x]) (A.length + 1))).set p (.row [.int .i64 b, .sl q1 (A.length + 1) 1 0 (A.length + 1) none, .sl q2 B.length 1 0 B.length none] 0)) := by
 obtain ⟨_, _, _, n1, n2, n3⟩ := g
 unfold grH
 rw [← iS_snoc, List.length_append]
 exact HLe.of_eq (by ((funext s; simp only [AH.set, AH.del]; repeat' split) <;> (first | rfl | (exfalso; omega))))
theorem Gr.stepB {H : AH} {p q1 q2 : Nat} (g : Gr H p q1 q2) (b : Int) (A B : List Int) (x : Int) :
  HLe (grH H p q1 q2 b A (B ++ [x])) (((grH H p q1 q2 b A B).set q2 (.row (iS .i64 B ++ [.int .i64 x]) (B.length + 1))).set p (.row [.int .i64 b, .sl q1 A.length 1 0 A.length none, .sl q2 (B.length + 1) 1 0 (B.length + 1) none] 0)) := by
 obtain ⟨_, _, _, n1, n2, n3⟩ := g
 unfold grH
 rw [← iS_snoc, List.length_append]
 exact HLe.of_eq (by ((funext s; simp only [AH.set, AH.del]; repeat' split) <;> (first | rfl | (exfalso; omega))))
theorem AWp_grown {N : Nat} {P : Program} {ro : Option Nat} {ws : Nat → Bool} {c : Code} {K R : St → AH → Prop} {X : Nat → St → AH → Prop} {s : St} {H : AH} {p q1 q2 : Nat} (g : Gr H p q1 q2) (b : Int) (A B : List Int)
  (h : AWp (P := P) N ro ws c K R X s (H.set p (.row [.int .i64 b, .cs (iS .i64 A) A.length, .cs (iS .i64 B) B.length] 0))) : AWp (P := P) N ro ws c K R X s (grH H p q1 q2 b A B) := by
 refine AWp_freezeC [.int .i64 b] [.sl q2 B.length 1 0 B.length none] g.pa (g.atp b A B) (g.ata b A B) (by simp) ?_
 have n1 := g.pa
 have n2 := g.pb
 have n3 := g.ab
 have hb := g.atb b A B
 refine AWp_freezeC (p := p) (r := q2) (u := 0) (v := B.length) (es := 1) (n := B.length) (lim := none) (cells := iS .i64 B) [.int .i64 b, .cs (iS .i64 A) A.length] [] g.pb (AH.zC _ _ _) (by rw [AH.zR _ _ (Ne.symm n2)]; unfold AH.del; rw [if_neg (Ne.symm n3)]; exact hb) (by simp) ?_
 refine AWp_less _ ?_ h
 refine ⟨fun r o hr => ?_⟩
 by_cases e : r = p
 ·subst e; rw [AH.zC] at hr ⊢; exact hr
 ·rw [AH.zR _ _ e] at hr ⊢
  have e1 : r ≠ q1 := fun e1 => by rw [e1, g.ha] at hr; cases hr
  have e2 : r ≠ q2 := fun e2 => by rw [e2, g.hb] at hr; cases hr
  unfold AH.del
  rw [if_neg e2, AH.zR _ _ e, if_neg e1]
  unfold grH
  rw [AH.zR _ _ e2, AH.zR _ _ e1, AH.zR _ _ e]
  exact hr
theorem AWp_grow {N : Nat} {P : Program} {ro : Option Nat} {ws : Nat → Bool} {c : Code} {K R : St → AH → Prop} {X : Nat → St → AH → Prop} {s : St} {H : AH} {p : Nat} (b : Int) (hp : H p = none)
  (h : ∀ q1 q2, Gr H p q1 q2 → AWp (P := P) N ro ws c K R X s (grH H p q1 q2 b [] [])) : AWp (P := P) N ro ws c K R X s (H.set p (.row [.int .i64 b, .nils, .nils] 0)) := by
 refine AWp_nilC 1 [.int .i64 b] [.nils] (AH.zC _ _ _) fun q1 h1 n1 => ?_
 refine AWp_nilC 1 [.int .i64 b, .sl q1 0 1 0 0 none] [] (AH.zC _ _ _) fun q2 h2 n2 => ?_
 have h1' : H q1 = none := (AH.none_set h1).2
 have h2a := (AH.none_set h2).2
 have n21 : q2 ≠ q1 := (AH.none_set h2a).1
 have h2' : H q2 = none := (AH.none_set (AH.none_set h2a).2).2
 refine AWp_less _ ?_ (h q1 q2 ⟨hp, h1', h2', Ne.symm n1, Ne.symm n2, Ne.symm n21⟩)
 unfold grH
 have n1' := Ne.symm n1
 have n2' := Ne.symm n2
 have n12 := Ne.symm n21
 exact HLe.of_eq (by ((funext s; simp only [AH.set, AH.del]; repeat' split) <;> (first | rfl | (exfalso; omega))))
open Go.Fw Go
def sumN (f : Nat → Int) : Nat → Int
 | 0 => 0
 | k + 1 => sumN f k + f k
def okW (w v : Int) : Prop := (0 ≤ w ∧ w ≤ 65536) ∧ (-1073741824 ≤ v ∧ v ≤ 1073741824)
instance (w v : Int) : Decidable (okW w v) := by unfold okW; exact inferInstance
open Classical in
open Go.Fw Go
theorem getD_fnL (f : Nat → Int) {n i : Nat} (h : i < n) : (fnL n f).getD i 0 = f i := by
 rw [List.getD_eq_getElem?_getD, fnL_get f h]; rfl
structure Btw (f g : Nat → Int) (k : Nat) (lo hi : Int) : Prop where
 nn : 0 ≤ sumN f k
 l : sumN f k * lo ≤ sumN (fun i => f i * g i) k
 h : sumN (fun i => f i * g i) k ≤ sumN f k * hi
theorem Btw.zero (f g : Nat → Int) : Btw f g 0 0 0 := ⟨Int.le_refl _, Int.le_refl _, Int.le_refl _⟩
open Go.Fw Go
abbrev Wl := List (Int × Int)
def prA (p : Int × Int) : List AV := [.int .i64 p.1, .int .i64 p.2]
theorem prA_len (p : Int × Int) : (prA p).length = 2 := rfl
def prL (l : Wl) : List AV := fL prA l
@[simp] theorem prL_len (l : Wl) : (prL l).length = l.length * 2 := fL_len prA_len l
structure WtOk (m : Int) (l : Wl) : Prop where
 s : l.Pairwise (fun a b => a.1 < b.1)
 c : ∀ p ∈ l, (0 ≤ p.1 ∧ p.1 ≤ 11) ∧ (1 ≤ p.2 ∧ p.2 ≤ m)
theorem WtOk.nil {m : Int} : WtOk m [] := ⟨List.Pairwise.nil, fun p hp => by simp at hp⟩
theorem wok_len : ∀ {l : Wl} {a b : Int}, l.Pairwise (fun a b => a.1 < b.1) → (∀ p ∈ l, a ≤ p.1 ∧ p.1 ≤ b) → a ≤ b + 1 → (l.length : Int) ≤ b + 1 - a
 | [], a, b, _, _, h => by simp; omega
 | p :: l, a, b, hs, hp, h => by
  rw [List.pairwise_cons] at hs
  have h1 := hp p (by simp)
  have := wok_len (a := p.1 + 1) (b := b) hs.2 (fun q hq => by have := hs.1 q hq; have := hp q (by simp [hq]); omega) (by omega)
  simp only [List.length_cons]; omega
theorem WtOk.len {m : Int} {l : Wl} (h : WtOk m l) : l.length ≤ 12 := by
 have := wok_len (a := 0) (b := 11) h.s (fun p hp => (h.c p hp).1) (by decide); omega
open Go.Fw Go
def LOk (L : List Int) : Prop := L.length ≤ 1000000 ∧ ∀ x ∈ L, -9223372036854775808 ≤ x ∧ x ≤ 11
theorem LOk.at {L : List Int} (h : LOk L) (i : Nat) : L.getD i 0 ≤ 11 := by
 by_cases hi : i < L.length
 ·exact (h.2 _ (getD_mem hi)).2
 ·rw [List.getD_eq_getElem?_getD, List.getElem?_eq_none (by omega)]; decide
def wBad (w h : Int) (L : List Int) : Prop := ¬ (1 ≤ w ∧ w ≤ 256) ∨ ¬ (1 ≤ h ∧ h ≤ 256) ∨ (L.length : Int) ≠ w * h
def wOut (w h x y r : Int) : Prop := ¬ (0 ≤ x ∧ x < w) ∨ ¬ (0 ≤ y ∧ y < h) ∨ ¬ (0 ≤ r ∧ r ≤ 4)
instance (w h : Int) (L : List Int) : Decidable (wBad w h L) := by unfold wBad; exact inferInstance
instance (w h x y r : Int) : Decidable (wOut w h x y r) := by unfold wOut; exact inferInstance
open Go.Fw Go
theorem nodup_len {α : Type} [DecidableEq α] : ∀ {A B : List α}, A.Nodup → (∀ a ∈ A, a ∈ B) → A.length ≤ B.length
 | [], B, _, _ => Nat.zero_le _
 | a :: A, B, hn, h => by
  rw [List.nodup_cons] at hn
  have ha := h a (by simp)
  have := nodup_len (A := A) (B := B.erase a) hn.2 fun x hx => by
   have hne : x ≠ a := fun e => hn.1 (e ▸ hx)
   exact (List.mem_erase_of_ne hne).2 (h x (by simp [hx]))
  rw [List.length_erase_of_mem ha] at this
  have := List.length_pos_of_mem ha
  simp only [List.length_cons]; omega
open Go.Fw Go
def wget (W : Wl) (n : Int) : Option Int := match W with
 | [] => none
 | p :: l => if p.1 = n then some p.2 else wget l n
theorem wget_none {n : Int} : ∀ {W : Wl}, wget W n = none ↔ n ∉ W.map (·.1)
 | [] => by simp [wget]
 | p :: l => by
  unfold wget
  by_cases h : p.1 = n
  ·rw [if_pos h]; simp [h]
  ·rw [if_neg h, wget_none (W := l)]
   simp [Ne.symm h]
theorem mget_none {n : Int} : ∀ {es : List ME}, mget es n = none ↔ n ∉ es.map (·.k)
 | [] => by simp [mget]
 | p :: l => by
  unfold mget
  by_cases h : p.k = n
  ·rw [if_pos h]; simp [h]
  ·rw [if_neg h, mget_none (es := l)]
   simp [Ne.symm h]
structure MOk (es : List ME) (cl : Nat) (W : Wl) : Prop where
 b : ∀ x, x ∈ es → x.b < cl
 d : (es.map (·.b)).Nodup
 k : (es.map (·.k)).Nodup
 g : ∀ n, (mget es n).map (·.v) = (wget W n).map fun c => AV.int .i64 c
theorem MOk.nil : MOk [] 0 [] := ⟨fun x hx => by simp at hx, List.nodup_nil, List.nodup_nil, fun n => rfl⟩
theorem MOk.km {es : List ME} {cl : Nat} {W : Wl} (h : MOk es cl W) (z : Int) : z ∈ W.map (·.1) ↔ z ∈ es.map (·.k) := by
 have := h.g z
 constructor
 ·intro hz
  refine Classical.byContradiction fun hn => ?_
  rw [mget_none.2 hn] at this
  cases hw : wget W z with
  | none => exact wget_none.1 hw hz
  | some c => rw [hw] at this; cases this
 ·intro hz
  refine Classical.byContradiction fun hn => ?_
  rw [wget_none.2 hn] at this
  cases hw : mget es z with
  | none => exact mget_none.1 hw hz
  | some c => rw [hw] at this; cases this
theorem MOk.len {es : List ME} {cl : Nat} {W : Wl} {m : Int} (h : MOk es cl W) (hW : WtOk m W) : es.length ≤ 12 := by
 have h1 := hW.len
 have := nodup_len (A := es.map (·.k)) (B := W.map (·.1)) h.k fun a ha => (h.km a).2 ha
 simp at this; omega
theorem MOk.gs {es : List ME} {cl : Nat} {W : Wl} (h : MOk es cl W) {n c : Int} (hw : wget W n = some c) : ∃ k b, mget es n = some ⟨k, .int .i64 c, b⟩ := by
 have := h.g n
 rw [hw] at this
 cases hm : mget es n with
 | none => rw [hm] at this; cases this
 | some x =>
  obtain ⟨k, v, b⟩ := x
  rw [hm] at this
  have : v = .int .i64 c := by simpa using this
  subst this
  exact ⟨k, b, rfl⟩
open Go.Fw Go
def mostI (l : Int) : Int := 65536 / 2 ^ l.toNat
def kOk (l x y : Int) : Prop := (0 ≤ l ∧ l ≤ 16) ∧ (-mostI l ≤ x ∧ x ≤ mostI l - 1) ∧ (-mostI l ≤ y ∧ y ≤ mostI l - 1)
instance (l x y : Int) : Decidable (kOk l x y) := by unfold kOk; exact inferInstance
open Go.Fw Go
def lblQ (l : List Int) (w i : Nat) : Nat := (i % w * pickV l 0 3 + i / w * pickV l 1 3) / 7 % 3
def lblN (l : List Int) (w i : Nat) : Int :=
 if pickV l ((i % 11 : Nat) : Int) 40 = 1 then -1 - ((i % 2 : Nat) : Int) else if pickV l ((i % 11 : Nat) : Int) 40 = 0 then ((i % 5 : Nat) : Int) else (lblQ l w i : Int)
def lblV (l : List Int) (w h : Nat) : List Int := fnL (w * h) (lblN l w)
theorem lblV_len (l : List Int) (w h : Nat) : (lblV l w h).length = w * h := fnL_len _ _
theorem lblN_bd (l : List Int) (w i : Nat) : -2 ≤ lblN l w i ∧ lblN l w i ≤ 4 := by
 have : lblQ l w i < 3 := Nat.mod_lt _ (by decide)
 unfold lblN
 split
 ·omega
 ·split <;> omega
set_option maxRecDepth 8000 in
set_option maxHeartbeats 8000000 in
theorem labels_c (l : List Int) (hl : ∀ n ∈ l, -9223372036854775808 ≤ n ∧ n ≤ 9223372036854775807) (hll : l.length ≤ maxLen) (w h : Nat) (hw : w ≤ 300) (hh : h ≤ 300) (H : AH) :
  ACall Try.prog 28 [.cs (iS .i64 l) l.length, .int .i64 w, .int .i64 h] H (fun y H' => y = .cs (iS .i64 (lblV l w h)) (w * h) ∧ H' = H) := by
 have hll2 : l.length ≤ 9223372036854775807 := by unfold maxLen at hll; omega
 have hp := fun (i : Nat) (hi : i ≤ 1000) m hm1 hm2 H => pick_f l hl hll2 (i : Int) (by omega) m hm1 hm2 H
 refine ACall.cold (es := 1) (by rw [iS_length, lblV_len]; omega) ?_
 have hwh : w * h ≤ 300 * 300 := Nat.mul_le_mul hw hh
 have wm : IntKind.i64.wrap ((w : Int) * (h : Int)) = ((w * h : Nat) : Int) := by rw [← Int.natCast_mul, IntKind.wrap_i64]; omega
 unfold lblV
 obtain ⟨N, hN⟩ : ∃ N, N = w * h := ⟨_, rfl⟩
 rw [← hN] at wm hwh ⊢
 refine zQ zU (dok _) Try.func28 rfl (by decide) rfl ?_
 (iterate 1 ((repeat' ((conv => whnf); first | left | refine OpsA.zD ?_ | refine OpsA.zE ?_ | refine AWq.zI ?_ | refine AWq.zB ?_ | refine AWq.zG ?_ | refine AWq.zF ?_ | refine AWq.zH ?_ | refine AWq.ret ?_ | refine AWq.zK ?_ | refine AWq.zJ ?_ | refine DrawA.zM ?_ | refine DrawA.zN ?_ | refine AWq.zO (by decide +kernel) ?_ | (refine Both.mk ?_ ?_ <;> intro hc <;> (first | exact Bool.noConfusion hc | (exfalso; omega) | skip)) | (intro c hc; (try (simp only [AH.zA] at hc; repeat (have hn := hc.1; replace hc := hc.2))); (first | (have hc2 := Eq.trans hc (by with_reducible assumption); clear hc; subst hc2) | (refine zP hc ?_ ?_ ?_ ; omega; omega; (clear hc; intro hc; subst hc)) | skip)) | (apply Exists.intro; apply And.intro; (first | (focus (repeat (first | (with_reducible assumption) | (with_reducible exact AH.zC _ _ _))); done))) | (apply Exists.intro; apply And.intro; first | (with_reducible assumption) | ((try simp only [zW, z0z, zZ, zY]); first | (with_reducible assumption) | rfl)) | (apply Exists.intro; apply And.intro; (focus ((conv => whnf); first | (intro c hc; subst hc; exact And.intro rfl rfl)))) | (apply And.intro; (first | rfl | (with_reducible assumption) | omega)))) <;> (try (conv => whnf)); refine Then.mk ?_))
 (repeat' ((conv => whnf); first | left | refine OpsA.zD ?_ | refine OpsA.zE ?_ | refine AWq.zI ?_ | refine AWq.zB ?_ | refine AWq.zG ?_ | refine AWq.zF ?_ | refine AWq.zH ?_ | refine AWq.ret ?_ | refine AWq.zK ?_ | refine AWq.zJ ?_ | refine DrawA.zM ?_ | refine DrawA.zN ?_ | refine AWq.zO (by decide +kernel) ?_ | (refine Both.mk ?_ ?_ <;> intro hc <;> (first | exact Bool.noConfusion hc | (exfalso; omega) | skip)) | (intro c hc; (try (simp only [AH.zA] at hc; repeat (have hn := hc.1; replace hc := hc.2))); (first | (have hc2 := Eq.trans hc (by with_reducible assumption); clear hc; subst hc2) | (refine zP hc ?_ ?_ ?_ ; omega; omega; (clear hc; intro hc; subst hc)) | skip)) | (apply Exists.intro; apply And.intro; (first | (focus (repeat (first | (with_reducible assumption) | (with_reducible exact AH.zC _ _ _))); done))) | (apply Exists.intro; apply And.intro; first | (with_reducible assumption) | ((try simp only [zW, z0z, zZ, zY]); first | (with_reducible assumption) | rfl)) | (apply Exists.intro; apply And.intro; (focus ((conv => whnf); first | (intro c hc; subst hc; exact And.intro rfl rfl)))) | (apply And.intro; (first | rfl | (with_reducible assumption) | omega)))) <;> (try (conv => whnf))
 refine Then.mk (AWq.in ?_)
 refine AWp_nilrow1 7 1 rfl rfl fun q hq => ?_
 refine AWp.of zU (dok _) rfl ?_
 (repeat' ((conv => whnf); first | refine Then.mk ?_ | left | refine OpsA.zD ?_ | refine OpsA.zE ?_ | refine AWq.zI ?_ | refine AWq.zB ?_ | refine AWq.zG ?_ | refine AWq.zF ?_ | refine AWq.zH ?_ | refine AWq.ret ?_ | refine AWq.zK ?_ | refine AWq.zJ ?_ | refine DrawA.zM ?_ | refine DrawA.zN ?_ | refine AWq.zO (by decide +kernel) ?_ | (refine Both.mk ?_ ?_ <;> intro hc <;> (first | exact Bool.noConfusion hc | (exfalso; omega) | skip)) | (intro c hc; (try (simp only [AH.zA] at hc; repeat (have hn := hc.1; replace hc := hc.2))); (first | (have hc2 := Eq.trans hc (by with_reducible assumption); clear hc; subst hc2) | (refine zP hc ?_ ?_ ?_ ; omega; omega; (clear hc; intro hc; subst hc)) | skip)) | (apply Exists.intro; apply And.intro; (first | (focus (repeat (first | (with_reducible assumption) | (with_reducible exact AH.zC _ _ _))); done))) | (apply Exists.intro; apply And.intro; first | (with_reducible assumption) | ((try simp only [zW, z0z, zZ, zY]); first | (with_reducible assumption) | rfl)) | (apply Exists.intro; apply And.intro; (focus ((conv => whnf); first | (intro c hc; subst hc; exact And.intro rfl rfl)))) | (apply And.intro; (first | rfl | (with_reducible assumption) | omega)))) <;> (try (conv => whnf))
 refine zT (σ := Nat) (7 :: 8 :: 9 :: 10 :: 11 :: 12 :: 13 :: 14 :: 15 :: 16 :: 17 :: 18 :: 19 :: 20 :: 21 :: 22 :: 23 :: 24 :: 25 :: 26 :: 27 :: 28 :: 29 :: 30 :: 31 :: 32 :: 33 :: 34 :: 35 :: 36 :: 37 :: 38 :: 39 :: 40 :: 41 :: 42 :: 43 :: 44 :: 45 :: 46 :: 47 :: 48 :: 49 :: 50 :: []) (fun i => [(8, .int .i64 i), (7, .sl q i 1 0 i none)]) (fun i => H.set q (.row (iS .i64 (fnL i (lblN l w))) i)) (fun i => i ≤ N) (fun i => N - i) 0 rfl (Nat.zero_le _) ⟨rfl, rfl, trivial⟩ (HLe.refl _) ?_
 intro i hi
 refine AWp.of zU (dok _) rfl ?_
 dsimp only at hi ⊢
 by_cases hit : i < N
 ·have hw1 : 1 ≤ w := by
   rcases Nat.eq_zero_or_pos w with h0 | h0
   ·rw [h0, Nat.zero_mul] at hN; omega
   ·exact h0
  have pk := fun H => hp (i % 11) (by omega) 40 (by decide) (by decide) H
  have p0 := fun H => hp 0 (by decide) 3 (by decide) (by decide) H
  have p1 := fun H => hp 1 (by decide) 3 (by decide) (by decide) H
  have l0 := pickV_lt (l := l) (i := ((0 : Nat) : Int)) (m := 3) (by decide)
  have l1 := pickV_lt (l := l) (i := ((1 : Nat) : Int)) (m := 3) (by decide)
  have hsn : iS .i64 (fnL (i + 1) (lblN l w)) = iS .i64 (fnL i (lblN l w)) ++ [.int .i64 (lblN l w i)] := by rw [fnL_snoc, ← iS_snoc]
  rw [show lblN l w i = if pickV l ((i % 11 : Nat) : Int) 40 = 1 then -1 - ((i % 2 : Nat) : Int) else if pickV l ((i % 11 : Nat) : Int) 40 = 0 then ((i % 5 : Nat) : Int) else (((i % w * pickV l ((0 : Nat) : Int) 3 + i / w * pickV l ((1 : Nat) : Int) 3) / 7 % 3 : Nat) : Int) from rfl] at hsn
  generalize pickV l ((i % 11 : Nat) : Int) 40 = kk at *
  generalize pickV l ((0 : Nat) : Int) 3 = P0 at *
  generalize pickV l ((1 : Nat) : Int) 3 = P1 at *
  have hA : i % w < w := Nat.mod_lt _ hw1
  have hB : i / w ≤ i := Nat.div_le_self _ _
  have e_mod : ((i : Int).tmod (w : Int)) = ((i % w : Nat) : Int) := by rw [Int.tmod_eq_emod_of_nonneg (by omega)]; omega
  have e_div : IntKind.i64.wrap ((i : Int).tdiv (w : Int)) = ((i / w : Nat) : Int) := by
   rw [Int.tdiv_eq_ediv_of_nonneg (by omega), ← Int.natCast_ediv]
   generalize i / w = z at hB ⊢
   rw [IntKind.wrap_i64]; omega
  have e_max : max (w : Int) 1 = w := by omega
  have e_div2 : IntKind.i64.wrap ((i : Int).tdiv (max (w : Int) 1)) = ((i / w : Nat) : Int) := by rw [e_max]; exact e_div
  have e11 : ((i : Int).tmod 11) = ((i % 11 : Nat) : Int) := by rw [Int.tmod_eq_emod_of_nonneg (by omega)]; omega
  have e5 : ((i : Int).tmod 5) = ((i % 5 : Nat) : Int) := by rw [Int.tmod_eq_emod_of_nonneg (by omega)]; omega
  have e2 : ((i : Int).tmod 2) = ((i % 2 : Nat) : Int) := by rw [Int.tmod_eq_emod_of_nonneg (by omega)]; omega
  generalize i % w = A at *
  generalize i / w = Bq at *
  have hU : A * P0 ≤ 300 * 3 := Nat.mul_le_mul (by omega) (by omega)
  have hV : Bq * P1 ≤ 90000 * 3 := Nat.mul_le_mul (by omega) (by omega)
  have e_m1 : IntKind.i64.wrap ((A : Int) * (P0 : Int)) = ((A * P0 : Nat) : Int) := by rw [← Int.natCast_mul, IntKind.wrap_i64]; omega
  have e_m2 : IntKind.i64.wrap ((Bq : Int) * (P1 : Int)) = ((Bq * P1 : Nat) : Int) := by rw [← Int.natCast_mul, IntKind.wrap_i64]; omega
  generalize A * P0 = U at *
  generalize Bq * P1 = V at *
  have e7 : IntKind.i64.wrap (((U : Int) + (V : Int)).tdiv 7) = (((U + V) / 7 : Nat) : Int) := by
   rw [Int.tdiv_eq_ediv_of_nonneg (by omega), IntKind.wrap_i64]; omega
  have e3 : ((((U + V) / 7 : Nat) : Int).tmod 3) = (((U + V) / 7 % 3 : Nat) : Int) := by rw [Int.tmod_eq_emod_of_nonneg (by omega)]; omega
  generalize hQ : (U + V) / 7 = Q at *
  have hil : (iS .i64 (fnL i (lblN l w))).length = i := by simp
  generalize hR2 : iS .i64 (fnL (i + 1) (lblN l w)) = R2 at *
  generalize iS .i64 (fnL i (lblN l w)) = R1 at *
  have pk : ∀ H, ACall Try.prog 29 [.cs (iS .i64 l) l.length, .int .i64 ((i % 11 : Nat) : Int), .int .i64 40] H (fun y H' => y = .int .i64 kk ∧ H' = H) := pk
  have p0 : ∀ H, ACall Try.prog 29 [.cs (iS .i64 l) l.length, .int .i64 0, .int .i64 3] H (fun y H' => y = .int .i64 P0 ∧ H' = H) := p0
  have p1 : ∀ H, ACall Try.prog 29 [.cs (iS .i64 l) l.length, .int .i64 1, .int .i64 3] H (fun y H' => y = .int .i64 P1 ∧ H' = H) := p1
  rcases (show kk = 0 ∨ kk = 1 ∨ kk ≠ 0 ∧ kk ≠ 1 by omega) with h0 | h0 | h0
  ·rw [if_neg (by omega), if_pos h0] at hsn
   (repeat' ((conv => whnf); first | refine Then.mk ?_ | left | refine OpsA.zD ?_ | refine OpsA.zE ?_ | refine AWq.zI ?_ | refine AWq.zB ?_ | refine AWq.zG ?_ | refine AWq.zF ?_ | refine AWq.zH ?_ | refine AWq.ret ?_ | refine AWq.zK ?_ | refine AWq.zJ ?_ | refine DrawA.zM ?_ | refine DrawA.zN ?_ | refine AWq.zO (by decide +kernel) ?_ | (apply Exists.intro; apply And.intro; exact p0 _) | (apply Exists.intro; apply And.intro; exact p1 _) | (refine Both.mk ?_ ?_ <;> intro hc <;> (first | exact Bool.noConfusion hc | (exfalso; omega) | skip)) | (intro c hc; (try (simp only [AH.zA] at hc; repeat (have hn := hc.1; replace hc := hc.2))); (first | (have hc2 := Eq.trans hc (by with_reducible assumption); clear hc; subst hc2) | (refine zP hc ?_ ?_ ?_ ; omega; omega; (clear hc; intro hc; subst hc)) | skip)) | (apply Exists.intro; apply And.intro; (first | (focus (repeat (first | (with_reducible assumption) | (with_reducible exact AH.zC _ _ _))); done))) | (apply Exists.intro; apply And.intro; first | (with_reducible assumption) | ((try simp only [zW, z0z, zZ, zY]); first | (with_reducible assumption) | rfl)) | (apply Exists.intro; apply And.intro; (focus ((conv => whnf); first | (intro c hc; subst hc; exact And.intro rfl rfl)))) | (apply And.intro; (first | rfl | (with_reducible assumption) | omega)) | (refine ACall.to (pk _) ?_))) <;> (try (conv => whnf))
   refine ⟨i + 1, hit, show N - (i + 1) < N - i by omega, ⟨congrArg (AV.int .i64) (by omega), rfl, trivial⟩, HLe.of_eq ?_⟩
   rw [hR2, hsn, AH.zS]
  ·rw [if_pos h0] at hsn
   (repeat' ((conv => whnf); first | refine Then.mk ?_ | left | refine OpsA.zD ?_ | refine OpsA.zE ?_ | refine AWq.zI ?_ | refine AWq.zB ?_ | refine AWq.zG ?_ | refine AWq.zF ?_ | refine AWq.zH ?_ | refine AWq.ret ?_ | refine AWq.zK ?_ | refine AWq.zJ ?_ | refine DrawA.zM ?_ | refine DrawA.zN ?_ | refine AWq.zO (by decide +kernel) ?_ | (apply Exists.intro; apply And.intro; exact p0 _) | (apply Exists.intro; apply And.intro; exact p1 _) | (refine Both.mk ?_ ?_ <;> intro hc <;> (first | exact Bool.noConfusion hc | (exfalso; omega) | skip)) | (intro c hc; (try (simp only [AH.zA] at hc; repeat (have hn := hc.1; replace hc := hc.2))); (first | (have hc2 := Eq.trans hc (by with_reducible assumption); clear hc; subst hc2) | (refine zP hc ?_ ?_ ?_ ; omega; omega; (clear hc; intro hc; subst hc)) | skip)) | (apply Exists.intro; apply And.intro; (first | (focus (repeat (first | (with_reducible assumption) | (with_reducible exact AH.zC _ _ _))); done))) | (apply Exists.intro; apply And.intro; first | (with_reducible assumption) | ((try simp only [zW, z0z, zZ, zY]); first | (with_reducible assumption) | rfl)) | (apply Exists.intro; apply And.intro; (focus ((conv => whnf); first | (intro c hc; subst hc; exact And.intro rfl rfl)))) | (apply And.intro; (first | rfl | (with_reducible assumption) | omega)) | (refine ACall.to (pk _) ?_))) <;> (try (conv => whnf))
   refine ⟨i + 1, hit, show N - (i + 1) < N - i by omega, ⟨congrArg (AV.int .i64) (by omega), rfl, trivial⟩, HLe.of_eq ?_⟩
   rw [hR2, hsn, AH.zS]
  ·rw [if_neg h0.2, if_neg h0.1] at hsn
   (repeat' ((conv => whnf); first | refine Then.mk ?_ | left | refine OpsA.zD ?_ | refine OpsA.zE ?_ | refine AWq.zI ?_ | refine AWq.zB ?_ | refine AWq.zG ?_ | refine AWq.zF ?_ | refine AWq.zH ?_ | refine AWq.ret ?_ | refine AWq.zK ?_ | refine AWq.zJ ?_ | refine DrawA.zM ?_ | refine DrawA.zN ?_ | refine AWq.zO (by decide +kernel) ?_ | (apply Exists.intro; apply And.intro; exact p0 _) | (apply Exists.intro; apply And.intro; exact p1 _) | (refine Both.mk ?_ ?_ <;> intro hc <;> (first | exact Bool.noConfusion hc | (exfalso; omega) | skip)) | (intro c hc; (try (simp only [AH.zA] at hc; repeat (have hn := hc.1; replace hc := hc.2))); (first | (have hc2 := Eq.trans hc (by with_reducible assumption); clear hc; subst hc2) | (refine zP hc ?_ ?_ ?_ ; omega; omega; (clear hc; intro hc; subst hc)) | skip)) | (apply Exists.intro; apply And.intro; (first | (focus (repeat (first | (with_reducible assumption) | (with_reducible exact AH.zC _ _ _))); done))) | (apply Exists.intro; apply And.intro; first | (with_reducible assumption) | ((try simp only [zW, z0z, zZ, zY]); first | (with_reducible assumption) | rfl)) | (apply Exists.intro; apply And.intro; (focus ((conv => whnf); first | (intro c hc; subst hc; exact And.intro rfl rfl)))) | (apply And.intro; (first | rfl | (with_reducible assumption) | omega)) | (refine ACall.to (pk _) ?_))) <;> (try (conv => whnf))
   refine ⟨i + 1, hit, show N - (i + 1) < N - i by omega, ⟨congrArg (AV.int .i64) (by omega), rfl, trivial⟩, HLe.of_eq ?_⟩
   rw [hR2, hsn, AH.zS]
 ·have hie : i = N := by omega
  subst hie
  (repeat' ((conv => whnf); first | refine Then.mk ?_ | left | refine OpsA.zD ?_ | refine OpsA.zE ?_ | refine AWq.zI ?_ | refine AWq.zB ?_ | refine AWq.zG ?_ | refine AWq.zF ?_ | refine AWq.zH ?_ | refine AWq.ret ?_ | refine AWq.zK ?_ | refine AWq.zJ ?_ | refine DrawA.zM ?_ | refine DrawA.zN ?_ | refine AWq.zO (by decide +kernel) ?_ | (refine Both.mk ?_ ?_ <;> intro hc <;> (first | exact Bool.noConfusion hc | (exfalso; omega) | skip)) | (intro c hc; (try (simp only [AH.zA] at hc; repeat (have hn := hc.1; replace hc := hc.2))); (first | (have hc2 := Eq.trans hc (by with_reducible assumption); clear hc; subst hc2) | (refine zP hc ?_ ?_ ?_ ; omega; omega; (clear hc; intro hc; subst hc)) | skip)) | (apply Exists.intro; apply And.intro; (first | (focus (repeat (first | (with_reducible assumption) | (with_reducible exact AH.zC _ _ _))); done))) | (apply Exists.intro; apply And.intro; first | (with_reducible assumption) | ((try simp only [zW, z0z, zZ, zY]); first | (with_reducible assumption) | rfl)) | (apply Exists.intro; apply And.intro; (focus ((conv => whnf); first | (intro c hc; subst hc; exact And.intro rfl rfl)))) | (apply And.intro; (first | rfl | (with_reducible assumption) | omega)))) <;> (try (conv => whnf))
open Go.Fw Go
def tlA (l : List Int) (i : Nat) : Int := max (lblN l 16 i) (-1)
def tlQ (l : List Int) (i k : Nat) : Int := if 0 ≤ lblN l 16 i then (((pickV l ((i % 7 : Nat) : Int) 9000 + i * pickV l 2 300 + 31 * k) % 65536 : Nat) : Int) else 0
def tlB (l : List Int) (n m : Nat) : Int := tlQ l (m / n) (m % n)
theorem tlB_at (l : List Int) {n k : Nat} (i : Nat) (hk : k < n) : tlB l n (i * n + k) = tlQ l i k := by
 unfold tlB
 rw [Nat.mul_comm i n, Nat.mul_add_div (by omega), Nat.div_eq_of_lt hk, Nat.mul_add_mod, Nat.mod_eq_of_lt hk, Nat.add_zero]
set_option maxRecDepth 8000 in
set_option maxHeartbeats 8000000 in
theorem tile_c (l : List Int) (hl : ∀ n ∈ l, -9223372036854775808 ≤ n ∧ n ≤ 9223372036854775807) (hll : l.length ≤ maxLen) (b : Int) (hb : J64 b) (H : AH) :
  ACall Try.prog 6 [.cs (iS .i64 l) l.length, .int .i64 b] H (fun z H' => z = tV ((1 + aro b 3 : Nat) : Int) (fnL 256 (tlA l)) (fnL (256 * (1 + aro b 3)) (tlB l (1 + aro b 3))) ∧ H' = H) := by
 have hll2 : l.length ≤ 9223372036854775807 := by unfold maxLen at hll; omega
 have hp := fun (i : Nat) (hi : i ≤ 1000) m hm1 hm2 H => pick_f l hl hll2 (i : Int) (by omega) m hm1 hm2 H
 have ha := fun H => around_f b hb.1 hb.2 3 (by decide) (by decide) H
 have hn := aro_lt (n := b) (m := 3) (by decide)
 generalize aro b 3 = n0 at *
 obtain ⟨n, hnd⟩ : ∃ n, n = 1 + n0 := ⟨_, rfl⟩
 have lenL : (lblV l 16 16).length = 256 := lblV_len l 16 16
 have hlb : ∀ H, ACall Try.prog 28 [.cs (iS .i64 l) l.length, .int .i64 16, .int .i64 16] H (fun y H' => y = .cs (iS .i64 (lblV l 16 16)) 256 ∧ H' = H) := fun H => labels_c l hl hll 16 16 (by decide) (by decide) H
 have hlg : ∀ i, i < 256 → (lblV l 16 16).getD i 0 = lblN l 16 i := fun i hi => by
  unfold lblV; rw [List.getD_eq_getElem?_getD, fnL_get _ hi]; rfl
 have hn13 : 1 ≤ n ∧ n ≤ 3 := by omega
 have e1n : 1 + (n0 : Int) = n := by omega
 have ha : ∀ H, ACall Try.prog 8 [.int .i64 b, .int .i64 3] H (fun y H' => y = .int .i64 n0 ∧ H' = H) := ha
 rw [← hnd]
 refine ACall.back ?_
 refine zQ zU (dok _) Try.func6 rfl (by decide) rfl ?_
 (repeat' ((conv => whnf); first | left | refine OpsA.zD ?_ | refine OpsA.zE ?_ | refine AWq.zI ?_ | refine AWq.zB ?_ | refine AWq.zG ?_ | refine AWq.zF ?_ | refine AWq.zH ?_ | refine AWq.ret ?_ | refine AWq.zK ?_ | refine AWq.zJ ?_ | refine DrawA.zM ?_ | refine DrawA.zN ?_ | refine AWq.zO (by decide +kernel) ?_ | (refine Both.mk ?_ ?_ <;> intro hc <;> (first | exact Bool.noConfusion hc | exact absurd (by assumption) hc | exact absurd hc (by assumption) | (exfalso; omega) | skip)) | (intro c hc; (try (simp only [AH.zA] at hc; repeat (have hn := hc.1; replace hc := hc.2))); (first | (have hc2 := Eq.trans hc (by with_reducible assumption); clear hc; subst hc2) | (refine zP hc ?_ ?_ ?_ ; omega; omega; (clear hc; intro hc; subst hc)) | skip)) | (apply Exists.intro; apply And.intro; (first | (focus (repeat (first | (with_reducible assumption) | (with_reducible exact AH.zC _ _ _) | ((first | refine AH.zL ?_ ?_); (first | (with_reducible assumption) | exact Ne.symm (by with_reducible assumption))))); done))) | (apply Exists.intro; apply And.intro; first | (with_reducible assumption) | ((try simp only [zW, z0z, zZ, zY]); first | (with_reducible assumption) | rfl)) | (apply Exists.intro; apply And.intro; (focus ((conv => whnf); first | (intro c hc; subst hc; exact And.intro rfl rfl)))) | (apply And.intro; (first | rfl | (with_reducible assumption) | exact zX rfl | omega)))) <;> (try (conv => whnf))
 refine Then.mk ?_
 (obtain ⟨t4, hq_⟩ : ∃ t4, t4 = c := ⟨_, rfl⟩); subst hq_
 have ht4 : H t4 = none := by assumption
 (repeat' ((conv => whnf); first | left | refine OpsA.zD ?_ | refine OpsA.zE ?_ | refine AWq.zI ?_ | refine AWq.zB ?_ | refine AWq.zG ?_ | refine AWq.zF ?_ | refine AWq.zH ?_ | refine AWq.ret ?_ | refine AWq.zK ?_ | refine AWq.zJ ?_ | refine DrawA.zM ?_ | refine DrawA.zN ?_ | refine AWq.zO (by decide +kernel) ?_ | (refine Both.mk ?_ ?_ <;> intro hc <;> (first | exact Bool.noConfusion hc | exact absurd (by assumption) hc | exact absurd hc (by assumption) | (exfalso; omega) | skip)) | (intro c hc; (try (simp only [AH.zA] at hc; repeat (have hn := hc.1; replace hc := hc.2))); (first | (have hc2 := Eq.trans hc (by with_reducible assumption); clear hc; subst hc2) | (refine zP hc ?_ ?_ ?_ ; omega; omega; (clear hc; intro hc; subst hc)) | skip)) | (apply Exists.intro; apply And.intro; (first | (focus (repeat (first | (with_reducible assumption) | (with_reducible exact AH.zC _ _ _) | ((first | refine AH.zL ?_ ?_); (first | (with_reducible assumption) | exact Ne.symm (by with_reducible assumption))))); done))) | (apply Exists.intro; apply And.intro; first | (with_reducible assumption) | ((try simp only [zW, z0z, zZ, zY]); first | (with_reducible assumption) | rfl)) | (apply Exists.intro; apply And.intro; (focus ((conv => whnf); first | (intro c hc; subst hc; exact And.intro rfl rfl)))) | (apply And.intro; (first | rfl | (with_reducible assumption) | exact zX rfl | omega)) | (refine ACall.to (ha _) ?_))) <;> (try (conv => whnf))
 (obtain ⟨p, hq_⟩ : ∃ p, p = c := ⟨_, rfl⟩); subst hq_
 refine Then.mk (AWq.in ?_)
 refine AWp_seg [.int .i64 n, .nils, .nils] (by rw [← e1n]) rfl ?_
 obtain ⟨Z, hZ⟩ : ∃ Z, Z = H.set t4 (.row [.int .i64 0, .nils, .nils] 0) := ⟨_, rfl⟩
 have hpZ : Z p = none := by rw [hZ]; (first | assumption | (simp only [AH.zA]; (repeat' (first | assumption | (refine And.intro ?_ ?_)))))
 show AWp _ _ _ _ _ _ _ _ _ (AH.set (H.set t4 (.row [.int .i64 0, .nils, .nils] 0)) p _)
 rw [← hZ]
 refine AWp_grow (n : Int) hpZ fun q1 q2 g => ?_
 refine AWp.of zU (dok _) rfl ?_
 (repeat' ((conv => whnf); first | refine Then.mk ?_ | left | refine OpsA.zD ?_ | refine OpsA.zE ?_ | refine AWq.zI ?_ | refine AWq.zB ?_ | refine AWq.zG ?_ | refine AWq.zF ?_ | refine AWq.zH ?_ | refine AWq.ret ?_ | refine AWq.zK ?_ | refine AWq.zJ ?_ | refine DrawA.zM ?_ | refine DrawA.zN ?_ | refine AWq.zO (by decide +kernel) ?_ | (refine Both.mk ?_ ?_ <;> intro hc <;> (first | exact Bool.noConfusion hc | exact absurd (by assumption) hc | exact absurd hc (by assumption) | (exfalso; omega) | skip)) | (intro c hc; (try (simp only [AH.zA] at hc; repeat (have hn := hc.1; replace hc := hc.2))); (first | (have hc2 := Eq.trans hc (by with_reducible assumption); clear hc; subst hc2) | (refine zP hc ?_ ?_ ?_ ; omega; omega; (clear hc; intro hc; subst hc)) | skip)) | (apply Exists.intro; apply And.intro; (first | (focus (repeat (first | (with_reducible assumption) | (with_reducible exact AH.zC _ _ _) | ((first | refine AH.zL ?_ ?_); (first | (with_reducible assumption) | exact Ne.symm (by with_reducible assumption))))); done))) | (apply Exists.intro; apply And.intro; first | (with_reducible assumption) | ((try simp only [zW, z0z, zZ, zY]); first | (with_reducible assumption) | rfl)) | (apply Exists.intro; apply And.intro; (focus ((conv => whnf); first | (intro c hc; subst hc; exact And.intro rfl rfl)))) | (apply And.intro; (first | rfl | (with_reducible assumption) | exact zX rfl | omega)) | (refine ACall.to (hlb _) ?_))) <;> (try (conv => whnf))
 have n1 := g.pa
 have n2 := g.pb
 have n3 := g.ab
 obtain ⟨fA, hA⟩ : ∃ fA : Nat → List Int, ∀ i, fA i = fnL i (tlA l) := ⟨_, fun _ => rfl⟩
 obtain ⟨fB, hB⟩ : ∃ fB : Nat → List Int, ∀ i, fB i = fnL i (tlB l n) := ⟨_, fun _ => rfl⟩
 have lA : ∀ i, (fA i).length = i := fun i => by rw [hA]; exact fnL_len _ _
 have lB : ∀ i, (fB i).length = i := fun i => by rw [hB]; exact fnL_len _ _
 have sA : ∀ i, fA (i + 1) = fA i ++ [tlA l i] := fun i => by rw [hA, hA, fnL_snoc]
 have sB : ∀ i, fB (i + 1) = fB i ++ [tlB l n i] := fun i => by rw [hB, hB, fnL_snoc]
 refine zT (σ := Nat) (7 :: 8 :: 9 :: 16 :: 17 :: 18 :: 19 :: 20 :: 21 :: 22 :: 23 :: 24 :: 25 :: 26 :: 27 :: 28 :: 29 :: 30 :: 31 :: 32 :: 33 :: 34 :: 35 :: 36 :: 37 :: 38 :: 39 :: 40 :: 41 :: 42 :: 43 :: 44 :: 45 :: 46 :: 47 :: 48 :: 49 :: 50 :: 51 :: 52 :: 53 :: 54 :: 55 :: 56 :: 57 :: 58 :: 59 :: []) (fun i => [(7, .int .i64 i)]) (fun i => grH Z p q1 q2 n (fA i) (fB (i * n))) (fun i => i ≤ 256) (fun i => 256 - i) 0 rfl (Nat.zero_le _) ⟨rfl, trivial⟩ (by rw [hA, Nat.zero_mul, hB]; exact HLe.refl _) ?_
 intro i hi
 refine AWp.of zU (dok _) rfl ?_
 dsimp only at hi ⊢
 have gp := g.atp n (fA i) (fB (i * n))
 have ga := g.ata n (fA i) (fB (i * n))
 have gb := g.atb n (fA i) (fB (i * n))
 by_cases hit : i < 256
 ·have st := g.stepA n (fA i) (fB (i * n)) (tlA l i)
  rw [← sA] at st
  simp only [lA, lB] at gp ga gb st
  have hq : i * n + n ≤ 256 * n := by
   have := Nat.mul_le_mul_right n (show i + 1 ≤ 256 by omega)
   rwa [Nat.add_mul, Nat.one_mul] at this
  have l1 : (iS .i64 (fA i)).length = i := by rw [iS_length, lA]
  have gx : (iS .i64 (lblV l 16 16))[(i : Int).toNat]? = some (.int .i64 (lblN l 16 i)) := by rw [← hlg i hit]; exact iS_get (by omega)
  have hxb := lblN_bd l 16 i
  have hsn := fun (k : Nat) (hk : k < n) => tlB_at l i hk
  unfold tlQ at hsn
  unfold tlA at st
  generalize hx : lblN l 16 i = x at *
  generalize hR1 : iS .i64 (fA i) = R1 at *
  generalize grH Z p q1 q2 n (fA i) (fB (i * n)) = G at *
  have hLL : (iS .i64 (lblV l 16 16)).length = 256 := by rw [iS_length]; exact lenL
  generalize iS .i64 (lblV l 16 16) = RL at *
  (repeat' ((conv => whnf); first | refine Then.mk ?_ | left | refine OpsA.zD ?_ | refine OpsA.zE ?_ | refine AWq.zI ?_ | refine AWq.zB ?_ | refine AWq.zG ?_ | refine AWq.zF ?_ | refine AWq.zH ?_ | refine AWq.ret ?_ | refine AWq.zK ?_ | refine AWq.zJ ?_ | refine DrawA.zM ?_ | refine DrawA.zN ?_ | refine AWq.zO (by decide +kernel) ?_ | (refine Both.mk ?_ ?_ <;> intro hc <;> (first | exact Bool.noConfusion hc | exact absurd (by assumption) hc | exact absurd hc (by assumption) | (exfalso; omega) | skip)) | (intro c hc; (try (simp only [AH.zA] at hc; repeat (have hn := hc.1; replace hc := hc.2))); (first | (have hc2 := Eq.trans hc (by with_reducible assumption); clear hc; subst hc2) | (refine zP hc ?_ ?_ ?_ ; omega; omega; (clear hc; intro hc; subst hc)) | skip)) | (apply Exists.intro; apply And.intro; (first | (focus (repeat (first | (with_reducible assumption) | (with_reducible exact AH.zC _ _ _) | ((first | refine AH.zL ?_ ?_); (first | (with_reducible assumption) | exact Ne.symm (by with_reducible assumption))))); done))) | (apply Exists.intro; apply And.intro; first | (with_reducible assumption) | ((try simp only [zW, z0z, zZ, zY]); first | (with_reducible assumption) | rfl)) | (apply Exists.intro; apply And.intro; (focus ((conv => whnf); first | (intro c hc; subst hc; exact And.intro rfl rfl)))) | (apply And.intro; (first | rfl | (with_reducible assumption) | exact zX rfl | omega)))) <;> (try (conv => whnf))
  refine zT (σ := Nat) (8 :: 9 :: 30 :: 31 :: 32 :: 33 :: 34 :: 35 :: 36 :: 37 :: 38 :: 39 :: 40 :: 41 :: 42 :: 43 :: 44 :: 45 :: 46 :: 47 :: 48 :: 49 :: 50 :: 51 :: 52 :: 53 :: 54 :: 55 :: 56 :: 57 :: 58 :: 59 :: []) (fun k => [(8, .int .i64 k)]) (fun k => grH Z p q1 q2 n (fA (i + 1)) (fB (i * n + k))) (fun k => k ≤ n) (fun k => n - k) 0 rfl (Nat.zero_le _) ⟨rfl, trivial⟩ st ?_
  intro k hk
  refine AWp.of zU (dok _) rfl ?_
  dsimp only at hk ⊢
  clear gp ga gb st
  have gp := g.atp n (fA (i + 1)) (fB (i * n + k))
  have ga := g.ata n (fA (i + 1)) (fB (i * n + k))
  have gb := g.atb n (fA (i + 1)) (fB (i * n + k))
  have st := g.stepB n (fA (i + 1)) (fB (i * n + k)) (tlB l n (i * n + k))
  rw [← sB] at st
  simp only [lA, lB] at gp ga gb st
  have l2 : (iS .i64 (fB (i * n + k))).length = i * n + k := by rw [iS_length, lB]
  by_cases hkt : k < n
  ·rw [hsn k hkt] at st
   have p1 : ∀ H, ACall Try.prog 29 [.cs (iS .i64 l) l.length, .int .i64 ((i % 7 : Nat) : Int), .int .i64 9000] H (fun y H' => y = .int .i64 (pickV l ((i % 7 : Nat) : Int) 9000) ∧ H' = H) := fun H => hp (i % 7) (by omega) 9000 (by decide) (by decide) H
   have p2 : ∀ H, ACall Try.prog 29 [.cs (iS .i64 l) l.length, .int .i64 2, .int .i64 300] H (fun y H' => y = .int .i64 (pickV l 2 300) ∧ H' = H) := fun H => hp 2 (by decide) 300 (by decide) (by decide) H
   have b1 := pickV_lt (l := l) (i := ((i % 7 : Nat) : Int)) (m := 9000) (by decide)
   have b2 := pickV_lt (l := l) (i := 2) (m := 300) (by decide)
   generalize pickV l ((i % 7 : Nat) : Int) 9000 = A1 at *
   generalize pickV l 2 300 = A2 at *
   have e7 : ((i : Int).tmod 7) = ((i % 7 : Nat) : Int) := by rw [Int.tmod_eq_emod_of_nonneg (by omega)]; omega
   have hU : i * A2 ≤ 256 * 300 := Nat.mul_le_mul (by omega) (by omega)
   have em : IntKind.i64.wrap ((i : Int) * (A2 : Int)) = ((i * A2 : Nat) : Int) := by rw [← Int.natCast_mul, IntKind.wrap_i64]; omega
   generalize i * A2 = U at *
   have e6 : ((A1 : Int) + (U : Int) + 31 * (k : Int)).tmod 65536 = (((A1 + U + 31 * k) % 65536 : Nat) : Int) := by rw [Int.tmod_eq_emod_of_nonneg (by omega)]; omega
   generalize (A1 + U + 31 * k) % 65536 = V at *
   generalize i % 7 = i7 at *
   generalize iS .i64 (fB (i * n + k)) = R2 at *
   generalize grH Z p q1 q2 n (fA (i + 1)) (fB (i * n + k)) = G at *
   generalize hQ : i * n = Q at *
   by_cases hx0 : 0 ≤ x
   ·rw [if_pos hx0] at st
    (repeat' ((conv => whnf); first | refine Then.mk ?_ | left | refine OpsA.zD ?_ | refine OpsA.zE ?_ | refine AWq.zI ?_ | refine AWq.zB ?_ | refine AWq.zG ?_ | refine AWq.zF ?_ | refine AWq.zH ?_ | refine AWq.ret ?_ | refine AWq.zK ?_ | refine AWq.zJ ?_ | refine DrawA.zM ?_ | refine DrawA.zN ?_ | refine AWq.zO (by decide +kernel) ?_ | (refine Both.mk ?_ ?_ <;> intro hc <;> (first | exact Bool.noConfusion hc | exact absurd (by assumption) hc | exact absurd hc (by assumption) | (exfalso; omega) | skip)) | (intro c hc; (try (simp only [AH.zA] at hc; repeat (have hn := hc.1; replace hc := hc.2))); (first | (have hc2 := Eq.trans hc (by with_reducible assumption); clear hc; subst hc2) | (refine zP hc ?_ ?_ ?_ ; omega; omega; (clear hc; intro hc; subst hc)) | skip)) | (apply Exists.intro; apply And.intro; (first | (focus (repeat (first | (with_reducible assumption) | (with_reducible exact AH.zC _ _ _) | ((first | refine AH.zL ?_ ?_); (first | (with_reducible assumption) | exact Ne.symm (by with_reducible assumption))))); done))) | (apply Exists.intro; apply And.intro; first | (with_reducible assumption) | ((try simp only [zW, z0z, zZ, zY]); first | (with_reducible assumption) | rfl)) | (apply Exists.intro; apply And.intro; (focus ((conv => whnf); first | (intro c hc; subst hc; exact And.intro rfl rfl)))) | (apply And.intro; (first | rfl | (with_reducible assumption) | exact zX rfl | omega)) | (refine ACall.to (p1 _) ?_) | (refine ACall.to (p2 _) ?_))) <;> (try (conv => whnf))
    exact ⟨k + 1, hkt, show n - (k + 1) < n - k by omega, ⟨congrArg (AV.int .i64) (by omega), trivial⟩, st⟩
   ·rw [if_neg hx0] at st
    (repeat' ((conv => whnf); first | refine Then.mk ?_ | left | refine OpsA.zD ?_ | refine OpsA.zE ?_ | refine AWq.zI ?_ | refine AWq.zB ?_ | refine AWq.zG ?_ | refine AWq.zF ?_ | refine AWq.zH ?_ | refine AWq.ret ?_ | refine AWq.zK ?_ | refine AWq.zJ ?_ | refine DrawA.zM ?_ | refine DrawA.zN ?_ | refine AWq.zO (by decide +kernel) ?_ | (refine Both.mk ?_ ?_ <;> intro hc <;> (first | exact Bool.noConfusion hc | exact absurd (by assumption) hc | exact absurd hc (by assumption) | (exfalso; omega) | skip)) | (intro c hc; (try (simp only [AH.zA] at hc; repeat (have hn := hc.1; replace hc := hc.2))); (first | (have hc2 := Eq.trans hc (by with_reducible assumption); clear hc; subst hc2) | (refine zP hc ?_ ?_ ?_ ; omega; omega; (clear hc; intro hc; subst hc)) | skip)) | (apply Exists.intro; apply And.intro; (first | (focus (repeat (first | (with_reducible assumption) | (with_reducible exact AH.zC _ _ _) | ((first | refine AH.zL ?_ ?_); (first | (with_reducible assumption) | exact Ne.symm (by with_reducible assumption))))); done))) | (apply Exists.intro; apply And.intro; first | (with_reducible assumption) | ((try simp only [zW, z0z, zZ, zY]); first | (with_reducible assumption) | rfl)) | (apply Exists.intro; apply And.intro; (focus ((conv => whnf); first | (intro c hc; subst hc; exact And.intro rfl rfl)))) | (apply And.intro; (first | rfl | (with_reducible assumption) | exact zX rfl | omega)))) <;> (try (conv => whnf))
    exact ⟨k + 1, hkt, show n - (k + 1) < n - k by omega, ⟨congrArg (AV.int .i64) (by omega), trivial⟩, st⟩
  ·have hke : k = n := by omega
   subst hke
   have e2 : i * k + k = (i + 1) * k := by rw [Nat.add_mul, Nat.one_mul]
   rw [e2]
   clear gp ga gb st
   have gp := g.atp k (fA (i + 1)) (fB ((i + 1) * k))
   simp only [lA, lB] at gp
   generalize hG : grH Z p q1 q2 k (fA (i + 1)) (fB ((i + 1) * k)) = G at *
   (repeat' ((conv => whnf); first | refine Then.mk ?_ | left | refine OpsA.zD ?_ | refine OpsA.zE ?_ | refine AWq.zI ?_ | refine AWq.zB ?_ | refine AWq.zG ?_ | refine AWq.zF ?_ | refine AWq.zH ?_ | refine AWq.ret ?_ | refine AWq.zK ?_ | refine AWq.zJ ?_ | refine DrawA.zM ?_ | refine DrawA.zN ?_ | refine AWq.zO (by decide +kernel) ?_ | (refine Both.mk ?_ ?_ <;> intro hc <;> (first | exact Bool.noConfusion hc | exact absurd (by assumption) hc | exact absurd hc (by assumption) | (exfalso; omega) | skip)) | (intro c hc; (try (simp only [AH.zA] at hc; repeat (have hn := hc.1; replace hc := hc.2))); (first | (have hc2 := Eq.trans hc (by with_reducible assumption); clear hc; subst hc2) | (refine zP hc ?_ ?_ ?_ ; omega; omega; (clear hc; intro hc; subst hc)) | skip)) | (apply Exists.intro; apply And.intro; (first | (focus (repeat (first | (with_reducible assumption) | (with_reducible exact AH.zC _ _ _) | ((first | refine AH.zL ?_ ?_); (first | (with_reducible assumption) | exact Ne.symm (by with_reducible assumption))))); done))) | (apply Exists.intro; apply And.intro; first | (with_reducible assumption) | ((try simp only [zW, z0z, zZ, zY]); first | (with_reducible assumption) | rfl)) | (apply Exists.intro; apply And.intro; (focus ((conv => whnf); first | (intro c hc; subst hc; exact And.intro rfl rfl)))) | (apply And.intro; (first | rfl | (with_reducible assumption) | exact zX rfl | omega)))) <;> (try (conv => whnf))
   exact ⟨i + 1, hit, show 256 - (i + 1) < 256 - i by omega, ⟨congrArg (AV.int .i64) (by omega), trivial⟩, by rw [hG]; exact HLe.refl _⟩
 ·have hie : i = 256 := by omega
  subst hie
  iterate 2 ((repeat' ((conv => whnf); first | left | refine OpsA.zD ?_ | refine OpsA.zE ?_ | refine AWq.zI ?_ | refine AWq.zB ?_ | refine AWq.zG ?_ | refine AWq.zF ?_ | refine AWq.zH ?_ | refine AWq.ret ?_ | refine AWq.zK ?_ | refine AWq.zJ ?_ | refine DrawA.zM ?_ | refine DrawA.zN ?_ | refine AWq.zO (by decide +kernel) ?_ | (refine Both.mk ?_ ?_ <;> intro hc <;> (first | exact Bool.noConfusion hc | exact absurd (by assumption) hc | exact absurd hc (by assumption) | (exfalso; omega) | skip)) | (intro c hc; (try (simp only [AH.zA] at hc; repeat (have hn := hc.1; replace hc := hc.2))); (first | (have hc2 := Eq.trans hc (by with_reducible assumption); clear hc; subst hc2) | (refine zP hc ?_ ?_ ?_ ; omega; omega; (clear hc; intro hc; subst hc)) | skip)) | (apply Exists.intro; apply And.intro; (first | (focus (repeat (first | (with_reducible assumption) | (with_reducible exact AH.zC _ _ _) | ((first | refine AH.zL ?_ ?_); (first | (with_reducible assumption) | exact Ne.symm (by with_reducible assumption))))); done))) | (apply Exists.intro; apply And.intro; first | (with_reducible assumption) | ((try simp only [zW, z0z, zZ, zY]); first | (with_reducible assumption) | rfl)) | (apply Exists.intro; apply And.intro; (focus ((conv => whnf); first | (intro c hc; subst hc; exact And.intro rfl rfl)))) | (apply And.intro; (first | rfl | (with_reducible assumption) | exact zX rfl | omega)))) <;> (try (conv => whnf)); refine Then.mk ?_)
  refine AWq.in ?_
  refine AWp_grown g n (fA 256) (fB (256 * n)) ?_
  refine AWp.of zU (dok _) rfl ?_
  rw [lA, lB, hA, hB]
  unfold tV
  rw [fnL_len, fnL_len]
  clear gp ga gb
  have gp := AH.zC Z p (.row [.int .i64 n, .cs (iS .i64 (fnL 256 (tlA l))) 256, .cs (iS .i64 (fnL (256 * n) (tlB l n))) (256 * n)] 0)
  have gt : Z t4 = some (.row [.int .i64 0, .nils, .nils] 0) := by rw [hZ]; exact AH.zC _ _ _
  generalize iS .i64 (fnL 256 (tlA l)) = R1 at *
  generalize iS .i64 (fnL (256 * n) (tlB l n)) = R2 at *
  (repeat' ((conv => whnf); first | refine Then.mk ?_ | left | refine OpsA.zD ?_ | refine OpsA.zE ?_ | refine AWq.zI ?_ | refine AWq.zB ?_ | refine AWq.zG ?_ | refine AWq.zF ?_ | refine AWq.zH ?_ | refine AWq.ret ?_ | refine AWq.zK ?_ | refine AWq.zJ ?_ | refine DrawA.zM ?_ | refine DrawA.zN ?_ | refine AWq.zO (by decide +kernel) ?_ | (refine Both.mk ?_ ?_ <;> intro hc <;> (first | exact Bool.noConfusion hc | exact absurd (by assumption) hc | exact absurd hc (by assumption) | (exfalso; omega) | skip)) | (intro c hc; (try (simp only [AH.zA] at hc; repeat (have hn := hc.1; replace hc := hc.2))); (first | (have hc2 := Eq.trans hc (by with_reducible assumption); clear hc; subst hc2) | (refine zP hc ?_ ?_ ?_ ; omega; omega; (clear hc; intro hc; subst hc)) | skip)) | (apply Exists.intro; apply And.intro; (first | (focus (repeat (first | (with_reducible assumption) | (with_reducible exact AH.zC _ _ _) | ((first | refine AH.zL ?_ ?_); (first | (with_reducible assumption) | exact Ne.symm (by with_reducible assumption))))); done))) | (apply Exists.intro; apply And.intro; first | (with_reducible assumption) | ((try simp only [zW, z0z, zZ, zY]); first | (with_reducible assumption) | rfl)) | (apply Exists.intro; apply And.intro; (focus ((conv => whnf); first | (intro c hc; subst hc; exact And.intro rfl rfl)))) | (apply And.intro; (first | rfl | (with_reducible assumption) | exact zX rfl | omega)))) <;> (try (conv => whnf))
  all_goals (rw [hZ]; (first | ((repeat' (first | (with_reducible exact HLe.refl _) | (with_reducible assumption) | refine HLe.set_of _ _ ?_ ?_)); done)))
open Go.Fw Go
structure Tl where
 b : Int
 L : List Int
 P : List Int
def Tl.v (t : Tl) : AV := tV t.b t.L t.P
def Tl.cells (t : Tl) : List AV := [.int .i64 t.b, .cs (iS .i64 t.L) t.L.length, .cs (iS .i64 t.P) t.P.length]
def Tl.zero : Tl := ⟨0, [], []⟩
theorem zero_le : AVles [.int .i64 0, .nils, .nils] Tl.zero.cells := AVles.cons (AVle.refl _) (AVles.cons AVle.nils (AVles.cons AVle.nils AVles.nil))
open Go.Fw Go
def emL : List Int := fnL 256 fun _ => -1
def emP (n : Nat) : List Int := fnL (256 * n) fun _ => 0
theorem emL_len : emL.length = 256 := fnL_len _ _
theorem emP_len (n : Nat) : (emP n).length = 256 * n := fnL_len _ _
def emV (b : Int) : AV × Int := if 1 ≤ b ∧ b ≤ 4 then (tV b emL (emP b.toNat), 0) else (tV 0 [] [], 1)
end Go.Proofs.Ytgpfmojlgejnhaa
/- What Shrink answers, all of it; its rows while it works. -/
namespace Go.Fw
open Go.RowKit Go.Proofs.Ytgpfmojlgejnhaa
end Go.Fw
namespace Go.Proofs.Ytgpfmojlgejnhaa
open Go.Fw Go
set_option linter.unusedVariables false
set_option linter.unusedSimpArgs false
theorem at_div {n p k : Nat} (hk : k < n) : (p * n + k) / n = p := by
 rw [Nat.mul_comm, Nat.mul_add_div (by omega), Nat.div_eq_of_lt hk, Nat.add_zero]
theorem at_mod {n p k : Nat} (hk : k < n) : (p * n + k) % n = k := by
 rw [Nat.mul_comm, Nat.mul_add_mod, Nat.mod_eq_of_lt hk]
open Classical in
open Go.Fw Go
theorem wrap_u64b (x : Int) : IntKind.u64.wrap x = x % 18446744073709551616 := rfl
set_option maxRecDepth 8000 in
theorem bMul64_c (n : Nat) (h : n ≤ 4294967295) (H : AH) : ACall Try.prog 109 [.int .u64 1, .int .u64 n] H (fun y H' => y = .tup [.int .u64 0, .int .u64 n] ∧ H' = H) := by
 have e0 : (2 : Int) ^ min (Int.toNat 32) IntKind.u64.bits = 4294967296 := by decide
 have e1 : (n : Int).fdiv 4294967296 = 0 := by rw [Int.fdiv_eq_ediv_of_nonneg _ (by omega)]; omega
 have e2 : bitsA .and .u64 (n : Int) 4294967295 = n := by
  show IntKind.u64.wrap ((BitVec.ofInt 64 (n : Int) &&& BitVec.ofInt 64 4294967295).toNat : Int) = _
  have ha : (BitVec.ofInt 64 (n : Int)).toNat = n := by rw [BitVec.toNat_ofInt]; omega
  have hb : (BitVec.ofInt 64 4294967295).toNat = 2 ^ 32 - 1 := by decide
  rw [BitVec.toNat_and, ha, hb, Nat.and_two_pow_sub_one_eq_mod, wrap_u64b]
  omega
 have e3 : bitsA .and .u64 1 4294967295 = 1 := by decide
 have e4 : Int.fdiv 1 4294967296 = 0 := by decide
 have e5 : IntKind.u64.wrap (n : Int) = n := by rw [wrap_u64b]; omega
 have e6 : bitsA .and .u64 0 4294967295 = 0 := by decide
 have e7 : IntKind.u64.wrap 0 = 0 := by decide
 have e8 : Int.fdiv 0 4294967296 = 0 := by decide
 refine zQ zU (dok _) Try.func109 rfl (by decide) rfl ?_
 (repeat' ((conv => whnf); first | refine Then.mk ?_ | refine OpsA.zD ?_ | refine OpsA.zE ?_ | refine AWq.zI ?_ | refine AWq.zB ?_ | refine AWq.ret ?_ | (intro c hc; (try (simp only [AH.zA] at hc; repeat (have hn := hc.1; replace hc := hc.2))); (first | (have hc2 := Eq.trans hc (by with_reducible assumption); clear hc; subst hc2) | (refine u64_k hc ?_ ?_ ?_ ; omega; omega; (clear hc; intro hc; subst hc)) | subst hc)) | (apply And.intro; (first | rfl | omega)))) <;> (try (conv => whnf))
 refine ⟨?_, rfl⟩
 simp only [e0, e1, e2, e3, e4, e5, e6, e7, e8, Int.zero_mul, Int.one_mul, Int.mul_zero, Int.add_zero]
set_option maxRecDepth 8000 in
theorem bMul_c (n : Nat) (h : n ≤ 4294967295) (H : AH) : ACall Try.prog 95 [.int .u64 1, .int .u64 n] H (fun y H' => y = .tup [.int .u64 0, .int .u64 n] ∧ H' = H) := by
 have hm := fun H => bMul64_c n h H
 refine zQ zU (dok _) Try.func95 rfl (by decide) rfl ?_
 (repeat' ((conv => whnf); first | refine Then.mk ?_ | refine OpsA.zD ?_ | refine OpsA.zE ?_ | refine AWq.zI ?_ | refine AWq.zB ?_ | refine AWq.zG ?_ | refine AWq.zH ?_ | refine AWq.ret ?_ | (refine Both.mk ?_ ?_ <;> intro hc <;> (first | exact Bool.noConfusion hc | skip)) | (apply And.intro; (first | rfl)) | (refine ACall.to (hm _) ?_))) <;> (try (conv => whnf))
theorem dLc {n : Nat} {f g : Nat → Int} (h : ∀ i, i < n → f i = g i) : dL n f = dL n g := congrArg (iS .i64) (fnL_congr h)
theorem dL_takeN {n m : Nat} (X : Nat → Int) (h : m ≤ n) : (dL n X).take m = dL m X := by
 apply List.ext_getElem?
 intro i
 rw [List.getElem?_take]
 by_cases hi : i < m
 ·rw [if_pos hi, dL_get X (by omega), dL_get X hi]
 ·rw [if_neg hi, List.getElem?_eq_none (by rw [dL_len]; omega)]
theorem dL_drop {n m : Nat} (X : Nat → Int) : (dL n X).drop m = dL (n - m) (fun k => X (m + k)) := by
 apply List.ext_getElem?
 intro i
 rw [List.getElem?_drop]
 by_cases hi : m + i < n
 ·rw [dL_get X hi, dL_get _ (by omega)]
 ·rw [List.getElem?_eq_none (by rw [dL_len]; omega), List.getElem?_eq_none (by rw [dL_len]; omega)]
theorem dL_app {n m : Nat} (X Y : Nat → Int) : dL n X ++ dL m Y = dL (n + m) (fun k => if k < n then X k else Y (k - n)) := by
 apply List.ext_getElem?
 intro i
 by_cases hi : i < n
 ·rw [List.getElem?_append_left (by rw [dL_len]; exact hi), dL_get _ hi, dL_get _ (by omega), if_pos hi]
 ·rw [List.getElem?_append_right (by rw [dL_len]; omega), dL_len]
  by_cases h2 : i < n + m
  ·rw [dL_get _ (by omega), dL_get _ h2, if_neg hi]
  ·rw [List.getElem?_eq_none (by rw [dL_len]; omega), List.getElem?_eq_none (by rw [dL_len]; omega)]
theorem dL_wrs {n m c : Nat} (X Y : Nat → Int) (h : c + m ≤ n) : wrA (dL n X) c (dL m Y) = dL n (fun k => if c ≤ k ∧ k < c + m then Y (k - c) else X k) := by
 unfold wrA
 rw [dL_takeN X (by omega), dL_len, dL_drop, dL_app, dL_app, show c + m + (n - (c + m)) = n by omega]
 refine dLc fun k hk => ?_
 by_cases h1 : k < c
 ·rw [if_pos (by omega), if_pos h1, if_neg (by omega)]
 ·by_cases h2 : k < c + m
  ·rw [if_pos h2, if_neg h1, if_pos (by omega)]
  ·rw [if_neg h2, if_neg (by omega)]
   congr 1; omega
set_option maxRecDepth 8000 in
theorem bRepeat_c (z : Int) (n : Nat) (h1 : 1 ≤ n) (h2 : n ≤ 1000000) (H : AH) :
  ACall Try.prog 72 [.cs [.int .i64 z] 1, .int .i64 n] H (fun y H' => ∃ q, H q = none ∧ y = .sl q 0 1 0 n none ∧ H' = H.set q (.row (dL n fun _ => z) 0)) := by
 have hm := fun H => bMul_c n (by omega) H
 refine zQ zU (dok _) Try.func72 rfl (by decide) rfl ?_
 (repeat' ((conv => whnf); first | refine Then.mk ?_ | refine OpsA.zD ?_ | refine OpsA.zE ?_ | refine AWq.zI ?_ | refine AWq.zB ?_ | refine AWq.zG ?_ | refine AWq.zF ?_ | refine AWq.zH ?_ | refine AWq.ret ?_ | refine AWq.zK ?_ | refine AWq.zJ ?_ | refine DrawA.zM ?_ | refine DrawA.zN ?_ | (refine Both.mk ?_ ?_ <;> intro hc <;> (first | exact Bool.noConfusion hc | (exfalso; omega) | skip)) | (intro c hc; (try (simp only [AH.zA] at hc; repeat (have hn := hc.1; replace hc := hc.2))); (first | (refine zP hc ?_ ?_ ?_ ; omega; omega; (clear hc; intro hc; subst hc)) | (refine u64_k hc ?_ ?_ ?_ ; omega; omega; (clear hc; intro hc; subst hc)) | skip)) | (apply Exists.intro; apply And.intro; (first | (focus (repeat (first | (with_reducible assumption) | (with_reducible exact AH.zC _ _ _))); done))) | (apply And.intro; (first | rfl | (with_reducible assumption) | omega | (simp <;> fail) | (focus (repeat' (first | (with_reducible assumption) | exact one_iS _ _ | rfl | apply one_take)); done))) | (refine ACall.to (hm _) ?_))) <;> (try (conv => whnf))
 refine zT (σ := Nat) (8 :: 34 :: 35 :: 36 :: 37 :: 38 :: 39 :: 40 :: 41 :: 42 :: 43 :: 44 :: 45 :: 46 :: []) (fun m => [(8, .int .i64 m)]) (fun m => AH.set H c (.row (dL n fun k => if k < m then z else 0) 0)) (fun m => 1 ≤ m ∧ m ≤ n) (fun m => n - m) 1 rfl ?_ ?_ ?_ ?_
 ·exact ⟨Nat.le_refl _, h1⟩
 ·refine ⟨?_, trivial⟩
  have : Nat.min 1 n = 1 := Nat.min_eq_left h1
  show AV.int .i64 (Nat.min 1 n : Nat) = _
  rw [this]
 ·refine HLe.of_eq (Eq.symm ((AH.zS _ _ _ _).trans (congrArg (fun l => AH.set H c (.row l 0)) ?_)))
  show wrA ((List.replicate n [AV.int .i64 0]).flatten) 0 (List.take (Nat.min 1 n * 1) (dL 1 fun _ => z)) = _
  rw [show Nat.min 1 n = 1 from Nat.min_eq_left h1, dL_zero, dL_takeN _ (by omega), dL_wrs _ _ (by omega)]
  refine dLc fun k hk => ?_
  by_cases h : k < 1 <;> simp [h]
 ·rintro m ⟨hm1, hm2⟩
  refine AWp.of zU (dok _) rfl ?_
  have li := dL_len n (fun k => if k < m then z else 0)
  by_cases hmn : m < n
  ·(repeat' ((conv => whnf); first | refine AWq.drawM ([45], []) (by decide +kernel) ?_ | refine Then.mk ?_ | refine OpsA.zD ?_ | refine OpsA.zE ?_ | refine AWq.zI ?_ | refine AWq.zB ?_ | refine AWq.zG ?_ | refine AWq.zF ?_ | refine AWq.zH ?_ | refine AWq.ret ?_ | refine AWq.zK ?_ | refine AWq.zJ ?_ | refine DrawA.zM ?_ | refine DrawA.zN ?_ | (refine Both.mk ?_ ?_ <;> intro hc <;> (first | exact Bool.noConfusion hc | (exfalso; omega) | skip)) | (intro c hc; (try (simp only [AH.zA] at hc; repeat (have hn := hc.1; replace hc := hc.2))); (first | (refine zP hc ?_ ?_ ?_ ; omega; omega; (clear hc; intro hc; subst hc)) | (refine u64_k hc ?_ ?_ ?_ ; omega; omega; (clear hc; intro hc; subst hc)) | skip)) | (apply Exists.intro; apply And.intro; (first | (focus (repeat (first | (with_reducible assumption) | (with_reducible exact AH.zC _ _ _))); done))) | (apply And.intro; (first | rfl | (with_reducible assumption) | omega | (simp <;> fail) | (focus (repeat' (first | (with_reducible assumption) | exact one_iS _ _ | rfl | apply one_take)); done))) | (refine ACall.to (hm _) ?_))) <;> (try (conv => whnf))
   refine ⟨.int .i64 (min m (n - m) : Nat), AH.set H c (.row (dL n fun k => if k < m + min m (n - m) then z else 0) 0), ?_, ?_⟩
   ·(repeat' ((conv => whnf); first | refine Then.mk ?_ | refine OpsA.zD ?_ | refine OpsA.zE ?_ | refine AWq.zI ?_ | refine AWq.zB ?_ | refine AWq.zG ?_ | refine AWq.zF ?_ | refine AWq.zH ?_ | refine AWq.ret ?_ | refine AWq.zK ?_ | refine AWq.zJ ?_ | refine DrawA.zM ?_ | refine DrawA.zN ?_ | (refine Both.mk ?_ ?_ <;> intro hc <;> (first | exact Bool.noConfusion hc | (exfalso; omega) | skip)) | (intro c hc; (try (simp only [AH.zA] at hc; repeat (have hn := hc.1; replace hc := hc.2))); (first | (refine zP hc ?_ ?_ ?_ ; omega; omega; (clear hc; intro hc; subst hc)) | (refine u64_k hc ?_ ?_ ?_ ; omega; omega; (clear hc; intro hc; subst hc)) | skip)) | (apply Exists.intro; apply And.intro; (first | (focus (repeat (first | (with_reducible assumption) | (with_reducible exact AH.zC _ _ _))); done))) | (apply And.intro; (first | rfl | (with_reducible assumption) | omega | (simp <;> fail) | (focus (repeat' (first | (with_reducible assumption) | exact one_iS _ _ | rfl | apply one_take)); done))))) <;> (try (conv => whnf))
    refine (AH.zS _ _ _ _).trans (congrArg (fun l => AH.set H c (.row l 0)) ?_)
    have e1 : Nat.min m (n - m) = min m (n - m) := rfl
    rw [Int.toNat_natCast, Int.toNat_natCast, e1, List.drop_zero, Nat.mul_one, Nat.mul_one, dL_takeN _ hm2, dL_takeN _ (by omega), Nat.zero_add, dL_wrs _ _ (by omega)]
    refine dLc fun k hk => ?_
    split <;> split <;> first | rfl | omega | (split <;> first | rfl | omega)
   ·(repeat' ((conv => whnf); first | refine Then.mk ?_ | refine OpsA.zD ?_ | refine OpsA.zE ?_ | refine AWq.zI ?_ | refine AWq.zB ?_ | refine AWq.zG ?_ | refine AWq.zF ?_ | refine AWq.zH ?_ | refine AWq.ret ?_ | refine AWq.zK ?_ | refine AWq.zJ ?_ | refine DrawA.zM ?_ | refine DrawA.zN ?_ | (refine Both.mk ?_ ?_ <;> intro hc <;> (first | exact Bool.noConfusion hc | (exfalso; omega) | skip)) | (intro c hc; (try (simp only [AH.zA] at hc; repeat (have hn := hc.1; replace hc := hc.2))); (first | (refine zP hc ?_ ?_ ?_ ; omega; omega; (clear hc; intro hc; subst hc)) | (refine u64_k hc ?_ ?_ ?_ ; omega; omega; (clear hc; intro hc; subst hc)) | skip)) | (apply Exists.intro; apply And.intro; (first | (focus (repeat (first | (with_reducible assumption) | (with_reducible exact AH.zC _ _ _))); done))) | (apply And.intro; (first | rfl | (with_reducible assumption) | omega | (simp <;> fail) | (focus (repeat' (first | (with_reducible assumption) | exact one_iS _ _ | rfl | apply one_take)); done))))) <;> (try (conv => whnf))
    exact ⟨m + min m (n - m), by omega, by omega, ⟨congrArg (AV.int .i64) (by omega), trivial⟩, HLe.refl _⟩
  ·have hme : m = n := by omega
   (repeat' ((conv => whnf); first | refine Then.mk ?_ | refine OpsA.zD ?_ | refine OpsA.zE ?_ | refine AWq.zI ?_ | refine AWq.zB ?_ | refine AWq.zG ?_ | refine AWq.zF ?_ | refine AWq.zH ?_ | refine AWq.ret ?_ | refine AWq.zK ?_ | refine AWq.zJ ?_ | refine DrawA.zM ?_ | refine DrawA.zN ?_ | (refine Both.mk ?_ ?_ <;> intro hc <;> (first | exact Bool.noConfusion hc | (exfalso; omega) | skip)) | (intro c hc; (try (simp only [AH.zA] at hc; repeat (have hn := hc.1; replace hc := hc.2))); (first | (refine zP hc ?_ ?_ ?_ ; omega; omega; (clear hc; intro hc; subst hc)) | (refine u64_k hc ?_ ?_ ?_ ; omega; omega; (clear hc; intro hc; subst hc)) | skip)) | (apply Exists.intro; apply And.intro; (first | (focus (repeat (first | (with_reducible assumption) | (with_reducible exact AH.zC _ _ _))); done))) | (apply And.intro; (first | rfl | (with_reducible assumption) | omega | (simp <;> fail) | (focus (repeat' (first | (with_reducible assumption) | exact one_iS _ _ | rfl | apply one_take)); done))))) <;> (try (conv => whnf))
   exact congrArg (fun l => AH.set H c (.row l 0)) (dLc fun k hk => by rw [if_pos (by omega)])
theorem repeat_k (z : Int) (n : Nat) (h1 : 1 ≤ n) (h2 : n ≤ 1000000) (H : AH) :
  ACall Try.prog 72 [.cs [.int .i64 z] 1, .int .i64 n] H (fun y H' => y = .cs (iS .i64 (fnL n fun _ => z)) n ∧ H' = H) := by
 refine ACall.cold (es := 1) (by simp) ((bRepeat_c z n h1 h2 H).mono ?_)
 rintro y H' ⟨q, hq, rfl, rfl⟩
 exact ⟨q, hq, 0, rfl, rfl⟩
open Go.Fw Go
theorem zeros_fn (n : Nat) : (List.replicate n [AV.int .i64 0]).flatten = iS .i64 (fnL n fun _ => 0) := dL_zero n
set_option maxRecDepth 8000 in
set_option maxHeartbeats 8000000 in
theorem empty_c (b : Int) (hb : J64 b) (H : AH) : ACall Try.prog 39 [.int .i64 b] H (fun z H' => z = .tup [(emV b).1, .int .i64 (emV b).2] ∧ H' = H) := by
 unfold emV
 have b0 := fun H => btw_c b 1 4 H
 unfold J64 at hb
 by_cases h1 : 1 ≤ b ∧ b ≤ 4
 ·rw [if_pos h1]
  rw [decide_eq_true h1] at b0
  obtain ⟨n, rfl⟩ : ∃ n : Nat, b = n := ⟨b.toNat, by omega⟩
  rw [Int.toNat_natCast]
  have rp := fun H => repeat_k (-1) 256 (by decide) (by decide) H
  have rp : ∀ H, ACall Try.prog 72 [.cs [.int .i64 (-1)] 1, .int .i64 256] H (fun y H' => y = .cs (iS .i64 emL) 256 ∧ H' = H) := rp
  have ez : (List.replicate (256 * n) [AV.int .i64 0]).flatten = iS .i64 (emP n) := zeros_fn _
  have lP : (iS .i64 (emP n)).length = 256 * n := by rw [iS_length]; exact emP_len n
  have lL : (iS .i64 emL).length = 256 := by rw [iS_length]; exact emL_len
  unfold tV
  rw [emL_len, emP_len]
  refine ACall.back ?_
  refine zQ zU (dok _) Try.func39 rfl (by decide) rfl ?_
  (repeat' ((conv => whnf); first | refine Then.mk ?_ | left | refine OpsA.zD ?_ | refine OpsA.zE ?_ | refine AWq.zI ?_ | refine AWq.zB ?_ | refine AWq.zG ?_ | refine AWq.zH ?_ | refine AWq.ret ?_ | (refine Both.mk ?_ ?_ <;> intro hc <;> (first | exact Bool.noConfusion hc | skip)) | (intro c hc; (try (simp only [AH.zA] at hc; repeat (have hn := hc.1; replace hc := hc.2))); (first | (refine zP hc ?_ ?_ ?_ ; omega; omega; (clear hc; intro hc; subst hc)) | skip)) | (apply Exists.intro; apply And.intro; (first | (focus (repeat (first | (with_reducible assumption) | (with_reducible exact AH.zC _ _ _))); done) | (focus (repeat (first | assumption)); done))) | (apply Exists.intro; apply And.intro; first | (with_reducible assumption) | ((try simp only [zW, z0z, zZ, zY]); first | (with_reducible assumption) | assumption | rfl)) | (apply Exists.intro; apply And.intro; (focus (intro G; ((conv => whnf); (try left); (conv => whnf); first | exact And.intro rfl rfl)))) | (apply And.intro; (first | rfl | (with_reducible assumption) | exact zX rfl | omega | assumption | (simp <;> fail))) | (refine ACall.to (b0 _) ?_))) <;> (try (conv => whnf))
  (obtain ⟨t2, hq_⟩ : ∃ t2, t2 = c := ⟨_, rfl⟩); subst hq_
  have gt := AH.zC H t2 (.row [.int .i64 0, .nils, .nils] 0)
  refine AWq.drawK mo [(2, 0)] (fun _ => t2) (fun a b ha hb _ => by simp at ha hb; rw [ha, hb]) (by decide +kernel) ?_
  (repeat' ((conv => whnf); first | refine DrawK.consD ?_ | refine DrawK.nil ?_ | refine Then.mk ?_ | left | refine OpsA.zD ?_ | refine OpsA.zE ?_ | refine AWq.zI ?_ | refine AWq.zB ?_ | refine AWq.zG ?_ | refine AWq.zH ?_ | refine AWq.ret ?_ | (refine Both.mk ?_ ?_ <;> intro hc <;> (first | exact Bool.noConfusion hc | skip)) | (intro c hc; (try (simp only [AH.zA] at hc; repeat (have hn := hc.1; replace hc := hc.2))); (first | (refine zP hc ?_ ?_ ?_ ; omega; omega; (clear hc; intro hc; subst hc)) | skip)) | (apply Exists.intro; apply And.intro; (first | (focus (repeat (first | (with_reducible assumption) | (with_reducible exact AH.zC _ _ _))); done) | (focus (repeat (first | assumption)); done))) | (apply Exists.intro; apply And.intro; first | (with_reducible assumption) | ((try simp only [zW, z0z, zZ, zY]); first | (with_reducible assumption) | assumption | rfl)) | (apply Exists.intro; apply And.intro; (focus (intro G; ((conv => whnf); (try left); (conv => whnf); first | exact And.intro rfl rfl)))) | (apply And.intro; (first | rfl | (with_reducible assumption) | exact zX rfl | omega | assumption | (simp <;> fail))))) <;> (try (conv => whnf))
  have hc0 : H t2 = none := hc
  rw [show (256 * (n : Int)).toNat = 256 * n by omega, ez]
  refine ⟨rfl, ?_⟩
  show HLe H (AH.set (AH.set H t2 _) t2 _)
  rw [AH.zS]; exact HLe.fresh _ hc0
 ·rw [if_neg h1]
  rw [decide_eq_false h1] at b0
  refine ACall.told ?_
  refine zQ zU (dok _) Try.func39 rfl (by decide) rfl ?_
  (repeat' ((conv => whnf); first | refine Then.mk ?_ | left | refine OpsA.zD ?_ | refine OpsA.zE ?_ | refine AWq.zI ?_ | refine AWq.zB ?_ | refine AWq.zG ?_ | refine AWq.zH ?_ | refine AWq.ret ?_ | (refine Both.mk ?_ ?_ <;> intro hc <;> (first | exact Bool.noConfusion hc | skip)) | (intro c hc; (try (simp only [AH.zA] at hc; repeat (have hn := hc.1; replace hc := hc.2))); (first | (refine zP hc ?_ ?_ ?_ ; omega; omega; (clear hc; intro hc; subst hc)) | skip)) | (apply Exists.intro; apply And.intro; (first | (focus (repeat (first | (with_reducible assumption) | (with_reducible exact AH.zC _ _ _))); done) | (focus (repeat (first | assumption)); done))) | (apply Exists.intro; apply And.intro; first | (with_reducible assumption) | ((try simp only [zW, z0z, zZ, zY]); first | (with_reducible assumption) | assumption | rfl)) | (apply Exists.intro; apply And.intro; (focus (intro G; ((conv => whnf); (try left); (conv => whnf); first | exact And.intro rfl rfl)))) | (apply And.intro; (first | rfl | (with_reducible assumption) | exact zX rfl | omega | assumption | (simp <;> fail))) | (refine ACall.to (b0 _) ?_))) <;> (try (conv => whnf))
  all_goals exact ⟨_, _, AVle.tup (AVles.cons (AVle.agg (AVles.cons (AVle.refl _) (AVles.cons AVle.nils (AVles.cons AVle.nils AVles.nil)))) (AVles.refl _)), (by (first | ((repeat' (first | (with_reducible exact HLe.refl _) | (with_reducible assumption) | refine HLe.set_of _ _ ?_ ?_)); done)) : HLe H _), rfl, rfl⟩
open Go.Fw Go
theorem row_lt {n a k : Nat} (ha : a < 256) (hk : k < n) : a * n + k < 256 * n := by
 have := Nat.mul_le_mul_right n (show a + 1 ≤ 256 by omega)
 rw [Nat.add_mul, Nat.one_mul] at this
 omega
structure Well (n : Nat) (L P : List Int) : Prop where
 l : L.length = 256
 p : P.length = 256 * n
 ok : lbOk n L P 256
open Go.Fw Go
def bandL (n : Nat) (P : List Int) (k : Nat) : List Int := fnL 256 fun i => P.getD (i * n + k) 0
theorem bandL_len (n : Nat) (P : List Int) (k : Nat) : (bandL n P k).length = 256 := fnL_len _ _
def partsT (Z : List Int) (n : Nat) (L P : List Int) (k : Nat) : List (List UInt8) := labP L :: fnL k fun j => bandP Z (bandL n P j)
def packT (Z : List Int) (n : Nat) (L P : List Int) : List UInt8 := joinP (partsT Z n L P n)
theorem partsT_len (Z : List Int) (n : Nat) (L P : List Int) (k : Nat) : (partsT Z n L P k).length = k + 1 := by unfold partsT; rw [List.length_cons, fnL_len]
theorem partsT_snoc (Z : List Int) (n : Nat) (L P : List Int) (k : Nat) : partsT Z n L P (k + 1) = partsT Z n L P k ++ [bandP Z (bandL n P k)] := by
 unfold partsT; rw [fnL_snoc]; rfl
theorem Well.lab {n : Nat} {L P : List Int} (w : Well n L P) : I64L L := fun x hx => by
 obtain ⟨i, hi, rfl⟩ := List.getElem_of_mem hx
 have := (w.ok i (by rw [← w.l]; exact hi)).1
 rw [List.getD_eq_getElem?_getD, List.getElem?_eq_getElem hi] at this
 have : -1 ≤ L[i] ∧ L[i] ≤ 4095 := this
 omega
theorem Well.band {n : Nat} {L P : List Int} (w : Well n L P) {k : Nat} (hk : k < n) : BOk (bandL n P k) := by
 refine ⟨bandL_len _ _ _, fun x hx => ?_⟩
 unfold bandL fnL at hx
 obtain ⟨i, hi, rfl⟩ := List.mem_map.1 hx
 rw [List.mem_range] at hi
 exact ((w.ok i hi).2 k hk).1
theorem bandP_len {Z : List Int} (hz : ZO Z) {a : List Int} (h : BOk a) : (bandP Z a).length ≤ 33284 := by
 have := (ints_len (sortL_ok hz h) (m := 256) (by rw [sortL_len hz]; omega) (by omega)).1
 unfold bandP
 omega
theorem parts_le {Z : List Int} (hz : ZO Z) {n : Nat} {L P : List Int} (w : Well n L P) {k : Nat} (hk : k ≤ n) : ∀ p ∈ partsT Z n L P k, p.length ≤ 90000 := fun p hp => by
 unfold partsT at hp
 rcases List.mem_cons.1 hp with rfl | hp
 ·have := labP_len w.lab (by rw [w.l]; omega); omega
 ·unfold fnL at hp
  obtain ⟨j, hj, rfl⟩ := List.mem_map.1 hp
  rw [List.mem_range] at hj
  have := bandP_len hz (w.band (show j < n by omega)); omega
set_option maxRecDepth 8000 in
set_option maxHeartbeats 4000000 in
theorem encode_ok {Z : List Int} (hz : ZO Z) (hzig : ∀ H, ACall Try.prog 62 [.int .i64 16] H (fun y H' => y = .tup [.cs (iS .i64 Z) 256, .int .i64 0] ∧ H' = H)) (n : Nat) (hn : 1 ≤ n ∧ n ≤ 4) (L P : List Int) (w : Well n L P) (H : AH) :
  ACall Try.prog 7 [.agg [.int .i64 n, .cs (iS .i64 L) 256, .cs (iS .i64 P) (256 * n)]] H (fun y H' => y = .tup [.cs (u8s (packT Z n L P)) (packT Z n L P).length, .int .i64 0] ∧ H' = H) := by
 have hL := w.l
 have hP := w.p
 have vc := fun H => valid_c (n : Int) L P (by unfold J64; omega) (by unfold tI; omega) (by unfold tI; omega) H
 have hv : tileE (n : Int) L P = 0 := by
  unfold tileE
  rw [if_neg (fun h => h (by unfold tForm; omega)), Int.toNat_natCast, if_pos w.ok]
 rw [hv] at vc
 unfold tV at vc
 have lc := fun H => labelPart_c L w.lab (by omega) H
 rw [hL] at vc lc
 rw [hP] at vc
 have bc := fun k (hk : k < n) H => bandPart_c hz hzig (bandL n P k) (w.band hk) H
 have hPl : (iS .i64 P).length = 256 * n := by rw [iS_length, hP]
 have jc := fun H => join_c (partsT Z n L P n) (by rw [partsT_len]; omega) (by rw [partsT_len]; omega) (parts_le hz w (Nat.le_refl _)) H
 rw [partsT_len] at jc
 unfold packT
 generalize joinP (partsT Z n L P n) = B at *
 refine ACall.back ?_
 refine zQ zU (dok _) Try.func7 rfl (by decide) rfl ?_
 (repeat' ((conv => whnf); first | left | refine OpsA.zD ?_ | refine OpsA.zE ?_ | refine AWq.zI ?_ | refine AWq.zB ?_ | refine AWq.zG ?_ | refine AWq.zF ?_ | refine AWq.zH ?_ | refine AWq.ret ?_ | refine AWq.zK ?_ | refine AWq.zJ ?_ | (refine Both.mk ?_ ?_ <;> intro hc <;> (first | exact Bool.noConfusion hc | exact absurd (by with_reducible rfl) hc | (exfalso; omega) | skip)) | (intro c hc; (try (simp only [AH.zA] at hc; repeat (have hn := hc.1; replace hc := hc.2))); (first | (have hc2 := Eq.trans hc (by with_reducible assumption); clear hc; subst hc2) | (refine zP hc ?_ ?_ ?_ ; omega; omega; (clear hc; intro hc; subst hc)) | skip)) | (apply Exists.intro; apply And.intro; (first | (focus (repeat (first | (with_reducible assumption))); done))) | (apply Exists.intro; apply And.intro; first | (with_reducible assumption) | ((try simp only [zW, z0z, zZ, zY]); first | (with_reducible assumption) | rfl)) | (apply And.intro; (first | rfl | (with_reducible assumption) | exact zX rfl | omega)))) <;> (try (conv => whnf))
 refine Then.mk (AWq.in ?_)
 refine AWp_freezeP 1 rfl rfl (AH.zC _ _ _) ?_
 rw [AH.del_set _ _ _ (by assumption)]
 refine AWp.of zU (dok _) rfl ?_
 iterate 3 ((repeat' ((conv => whnf); first | left | refine OpsA.zD ?_ | refine OpsA.zE ?_ | refine AWq.zI ?_ | refine AWq.zB ?_ | refine AWq.zG ?_ | refine AWq.zF ?_ | refine AWq.zH ?_ | refine AWq.ret ?_ | refine AWq.zK ?_ | refine AWq.zJ ?_ | (refine Both.mk ?_ ?_ <;> intro hc <;> (first | exact Bool.noConfusion hc | exact absurd (by with_reducible rfl) hc | (exfalso; omega) | skip)) | (intro c hc; (try (simp only [AH.zA] at hc; repeat (have hn := hc.1; replace hc := hc.2))); (first | (have hc2 := Eq.trans hc (by with_reducible assumption); clear hc; subst hc2) | (refine zP hc ?_ ?_ ?_ ; omega; omega; (clear hc; intro hc; subst hc)) | skip)) | (apply Exists.intro; apply And.intro; (first | (focus (repeat (first | (with_reducible assumption))); done))) | (apply Exists.intro; apply And.intro; first | (with_reducible assumption) | ((try simp only [zW, z0z, zZ, zY]); first | (with_reducible assumption) | rfl)) | (apply And.intro; (first | rfl | (with_reducible assumption) | exact zX rfl | omega)) | (refine ACall.to (vc _) ?_))) <;> (try (conv => whnf)); refine Then.mk ?_)
 (repeat' ((conv => whnf); first | refine Or.inr (Or.inl ?_) | refine OpsA.zD ?_ | refine OpsA.zE ?_ | refine AWq.zI ?_ | refine AWq.zB ?_ | refine AWq.zG ?_ | refine AWq.zF ?_ | refine AWq.zH ?_ | refine AWq.ret ?_ | refine AWq.zK ?_ | refine AWq.zJ ?_ | (refine Both.mk ?_ ?_ <;> intro hc <;> (first | exact Bool.noConfusion hc | exact absurd (by with_reducible rfl) hc | (exfalso; omega) | skip)) | (intro c hc; (try (simp only [AH.zA] at hc; repeat (have hn := hc.1; replace hc := hc.2))); (first | (have hc2 := Eq.trans hc (by with_reducible assumption); clear hc; subst hc2) | (refine zP hc ?_ ?_ ?_ ; omega; omega; (clear hc; intro hc; subst hc)) | skip)) | (apply Exists.intro; apply And.intro; (first | (focus (repeat (first | (with_reducible assumption))); done))) | (apply Exists.intro; apply And.intro; first | (with_reducible assumption) | ((try simp only [zW, z0z, zZ, zY]); first | (with_reducible assumption) | rfl)) | (apply And.intro; (first | rfl | (with_reducible assumption) | exact zX rfl | omega)) | (refine ACall.to (lc _) ?_))) <;> (try (conv => whnf))
 (obtain ⟨q5, hq_⟩ : ∃ q5, q5 = c := ⟨_, rfl⟩); subst hq_
 have hq5 : H q5 = none := hc
 refine Then.mk ?_
 (repeat' ((conv => whnf); first | refine Then.mk ?_ | left | refine OpsA.zD ?_ | refine OpsA.zE ?_ | refine AWq.zI ?_ | refine AWq.zB ?_ | refine AWq.zG ?_ | refine AWq.zF ?_ | refine AWq.zH ?_ | refine AWq.ret ?_ | refine AWq.zK ?_ | refine AWq.zJ ?_ | (refine Both.mk ?_ ?_ <;> intro hc <;> (first | exact Bool.noConfusion hc | exact absurd (by with_reducible rfl) hc | (exfalso; omega) | skip)) | (intro c hc; (try (simp only [AH.zA] at hc; repeat (have hn := hc.1; replace hc := hc.2))); (first | (have hc2 := Eq.trans hc (by with_reducible assumption); clear hc; subst hc2) | (refine zP hc ?_ ?_ ?_ ; omega; omega; (clear hc; intro hc; subst hc)) | skip)) | (apply Exists.intro; apply And.intro; (first | (focus (repeat (first | (with_reducible assumption))); done))) | (apply Exists.intro; apply And.intro; first | (with_reducible assumption) | ((try simp only [zW, z0z, zZ, zY]); first | (with_reducible assumption) | rfl)) | (apply And.intro; (first | rfl | (with_reducible assumption) | exact zX rfl | omega)))) <;> (try (conv => whnf))
 refine zT (σ := Nat) (5 :: 6 :: 7 :: 8 :: 20 :: 21 :: 22 :: 23 :: 24 :: 25 :: 26 :: 27 :: 28 :: 29 :: 30 :: 31 :: 32 :: 33 :: 34 :: 35 :: 36 :: 37 :: 38 :: 39 :: 40 :: 41 :: 42 :: 43 :: 44 :: 45 :: []) (fun k => [(20, .int .i64 k), (5, .sl q5 k 1 0 (k + 1) none)]) (fun k => H.set q5 (.row (pvL (partsT Z n L P k)) k)) (fun k => k ≤ n) (fun k => n - k) 0 rfl (Nat.zero_le _) ⟨rfl, rfl, trivial⟩ (HLe.refl _) ?_
 intro k hk
 refine AWp.of zU (dok _) rfl ?_
 dsimp only at hk ⊢
 have gq := AH.zC H q5 (.row (pvL (partsT Z n L P k)) k)
 have lq : (pvL (partsT Z n L P k)).length = k + 1 := by rw [pvL_len, partsT_len]
 by_cases hkt : k < n
 ·have hps := pvL_snoc (partsT Z n L P k) (bandP Z (bandL n P k))
  rw [← partsT_snoc] at hps
  have bc := bc k hkt
  have hbl := bandL_len n P k
  generalize hG : AH.set H q5 (.row (pvL (partsT Z n L P k)) k) = G at *
  generalize hRP : pvL (partsT Z n L P k) = RP at *
  (repeat' ((conv => whnf); first | left | refine OpsA.zD ?_ | refine OpsA.zE ?_ | refine AWq.zI ?_ | refine AWq.zB ?_ | refine AWq.zG ?_ | refine AWq.zF ?_ | refine AWq.zH ?_ | refine AWq.ret ?_ | refine AWq.zK ?_ | refine AWq.zJ ?_ | (refine Both.mk ?_ ?_ <;> intro hc <;> (first | exact Bool.noConfusion hc | exact absurd (by with_reducible rfl) hc | (exfalso; omega) | skip)) | (intro c hc; (try (simp only [AH.zA] at hc; repeat (have hn := hc.1; replace hc := hc.2))); (first | (have hc2 := Eq.trans hc (by with_reducible assumption); clear hc; subst hc2) | (refine zP hc ?_ ?_ ?_ ; omega; omega; (clear hc; intro hc; subst hc)) | skip)) | (apply Exists.intro; apply And.intro; (first | (focus (repeat (first | (with_reducible assumption))); done))) | (apply Exists.intro; apply And.intro; first | (with_reducible assumption) | ((try simp only [zW, z0z, zZ, zY]); first | (with_reducible assumption) | rfl)) | (apply And.intro; (first | rfl | (with_reducible assumption) | exact zX rfl | omega)))) <;> (try (conv => whnf))
  refine Then.mk ?_
  (repeat' ((conv => whnf); first | left | refine OpsA.zD ?_ | refine OpsA.zE ?_ | refine AWq.zI ?_ | refine AWq.zB ?_ | refine AWq.zG ?_ | refine AWq.zF ?_ | refine AWq.zH ?_ | refine AWq.ret ?_ | refine AWq.zK ?_ | refine AWq.zJ ?_ | (refine Both.mk ?_ ?_ <;> intro hc <;> (first | exact Bool.noConfusion hc | exact absurd (by with_reducible rfl) hc | (exfalso; omega) | skip)) | (intro c hc; (try (simp only [AH.zA] at hc; repeat (have hn := hc.1; replace hc := hc.2))); (first | (have hc2 := Eq.trans hc (by with_reducible assumption); clear hc; subst hc2) | (refine zP hc ?_ ?_ ?_ ; omega; omega; (clear hc; intro hc; subst hc)) | skip)) | (apply Exists.intro; apply And.intro; (first | (focus (repeat (first | (with_reducible assumption))); done))) | (apply Exists.intro; apply And.intro; first | (with_reducible assumption) | ((try simp only [zW, z0z, zZ, zY]); first | (with_reducible assumption) | rfl)) | (apply And.intro; (first | rfl | (with_reducible assumption) | exact zX rfl | omega)))) <;> (try (conv => whnf))
  refine Then.mk ?_
  (repeat' ((conv => whnf); first | left | refine OpsA.zD ?_ | refine OpsA.zE ?_ | refine AWq.zI ?_ | refine AWq.zB ?_ | refine AWq.zG ?_ | refine AWq.zF ?_ | refine AWq.zH ?_ | refine AWq.ret ?_ | refine AWq.zK ?_ | refine AWq.zJ ?_ | (refine Both.mk ?_ ?_ <;> intro hc <;> (first | exact Bool.noConfusion hc | exact absurd (by with_reducible rfl) hc | (exfalso; omega) | skip)) | (intro c hc; (try (simp only [AH.zA] at hc; repeat (have hn := hc.1; replace hc := hc.2))); (first | (have hc2 := Eq.trans hc (by with_reducible assumption); clear hc; subst hc2) | (refine zP hc ?_ ?_ ?_ ; omega; omega; (clear hc; intro hc; subst hc)) | skip)) | (apply Exists.intro; apply And.intro; (first | (focus (repeat (first | (with_reducible assumption))); done))) | (apply Exists.intro; apply And.intro; first | (with_reducible assumption) | ((try simp only [zW, z0z, zZ, zY]); first | (with_reducible assumption) | rfl)) | (apply And.intro; (first | rfl | (with_reducible assumption) | exact zX rfl | omega)))) <;> (try (conv => whnf))
  refine Then.mk ?_
  (repeat' ((conv => whnf); first | left | refine OpsA.zD ?_ | refine OpsA.zE ?_ | refine AWq.zI ?_ | refine AWq.zB ?_ | refine AWq.zG ?_ | refine AWq.zF ?_ | refine AWq.zH ?_ | refine AWq.ret ?_ | refine AWq.zK ?_ | refine AWq.zJ ?_ | (refine Both.mk ?_ ?_ <;> intro hc <;> (first | exact Bool.noConfusion hc | exact absurd (by with_reducible rfl) hc | (exfalso; omega) | skip)) | (intro c hc; (try (simp only [AH.zA] at hc; repeat (have hn := hc.1; replace hc := hc.2))); (first | (have hc2 := Eq.trans hc (by with_reducible assumption); clear hc; subst hc2) | (refine zP hc ?_ ?_ ?_ ; omega; omega; (clear hc; intro hc; subst hc)) | skip)) | (apply Exists.intro; apply And.intro; (first | (focus (repeat (first | (with_reducible assumption))); done))) | (apply Exists.intro; apply And.intro; first | (with_reducible assumption) | ((try simp only [zW, z0z, zZ, zY]); first | (with_reducible assumption) | rfl)) | (apply And.intro; (first | rfl | (with_reducible assumption) | exact zX rfl | omega)))) <;> (try (conv => whnf))
  refine Then.mk (AWq.in ?_)
  refine AWp_nilrow1 7 1 rfl rfl fun q7 hq7 => ?_
  refine AWp.of zU (dok _) rfl ?_
  have n75 : q7 ≠ q5 := fun h => by rw [h, gq] at hq7; cases hq7
  (repeat' ((conv => whnf); first | refine Then.mk ?_ | left | refine OpsA.zD ?_ | refine OpsA.zE ?_ | refine AWq.zI ?_ | refine AWq.zB ?_ | refine AWq.zG ?_ | refine AWq.zF ?_ | refine AWq.zH ?_ | refine AWq.ret ?_ | refine AWq.zK ?_ | refine AWq.zJ ?_ | (refine Both.mk ?_ ?_ <;> intro hc <;> (first | exact Bool.noConfusion hc | exact absurd (by with_reducible rfl) hc | (exfalso; omega) | skip)) | (intro c hc; (try (simp only [AH.zA] at hc; repeat (have hn := hc.1; replace hc := hc.2))); (first | (have hc2 := Eq.trans hc (by with_reducible assumption); clear hc; subst hc2) | (refine zP hc ?_ ?_ ?_ ; omega; omega; (clear hc; intro hc; subst hc)) | skip)) | (apply Exists.intro; apply And.intro; (first | (focus (repeat (first | (with_reducible assumption))); done))) | (apply Exists.intro; apply And.intro; first | (with_reducible assumption) | ((try simp only [zW, z0z, zZ, zY]); first | (with_reducible assumption) | rfl)) | (apply And.intro; (first | rfl | (with_reducible assumption) | exact zX rfl | omega)))) <;> (try (conv => whnf))
  refine zT (σ := Nat) (7 :: 8 :: 23 :: 24 :: 25 :: 26 :: 27 :: 28 :: 29 :: 30 :: 31 :: 32 :: 33 :: 34 :: 35 :: 36 :: 37 :: 38 :: 39 :: []) (fun i => [(23, .int .i64 i), (7, .sl q7 i 1 0 i none)]) (fun i => G.set q7 (.row (iS .i64 ((bandL n P k).take i)) i)) (fun i => i ≤ 256) (fun i => 256 - i) 0 rfl (Nat.zero_le _) ⟨rfl, rfl, trivial⟩ (HLe.refl _) ?_
  intro i hi
  refine AWp.of zU (dok _) rfl ?_
  dsimp only at hi ⊢
  have g7 := AH.zC G q7 (.row (iS .i64 ((bandL n P k).take i)) i)
  have l7 : (iS .i64 ((bandL n P k).take i)).length = i := by rw [iS_length, List.length_take]; omega
  by_cases hit : i < 256
  ·have hin := row_lt (n := n) hit hkt
   have gp : (iS .i64 P)[i * n + k]? = some (.int .i64 (P.getD (i * n + k) 0)) := iS_get (by omega)
   have hbi : (bandL n P k).getD i 0 = P.getD (i * n + k) 0 := getD_fnL _ hit
   rw [← hbi] at gp
   have w1 : IntKind.i64.wrap ((i : Int) * (n : Int)) = ((i * n : Nat) : Int) := by
    rw [← Int.natCast_mul, IntKind.wrap_i64]; omega
   have ht : iS .i64 ((bandL n P k).take (i + 1)) = iS .i64 ((bandL n P k).take i) ++ [.int .i64 ((bandL n P k).getD i 0)] := by
    rw [take_snoc (x := (bandL n P k).getD i 0) (by rw [List.getD_eq_getElem?_getD, List.getElem?_eq_getElem (by omega)]; rfl), ← iS_snoc]
   generalize (bandL n P k).getD i 0 = v at *
   generalize iS .i64 ((bandL n P k).take i) = R7 at *
   generalize i * n = Q at *
   have w2 : IntKind.i64.wrap ((Q : Int) + k) = (Q : Int) + k := by rw [IntKind.wrap_i64]; omega
   have gp : (iS .i64 P)[((Q : Int) + k).toNat]? = some (.int .i64 v) := by rw [show ((Q : Int) + k).toNat = Q + k by omega]; exact gp
   (repeat' ((conv => whnf); first | refine Then.mk ?_ | left | refine OpsA.zD ?_ | refine OpsA.zE ?_ | refine AWq.zI ?_ | refine AWq.zB ?_ | refine AWq.zG ?_ | refine AWq.zF ?_ | refine AWq.zH ?_ | refine AWq.ret ?_ | refine AWq.zK ?_ | refine AWq.zJ ?_ | (refine Both.mk ?_ ?_ <;> intro hc <;> (first | exact Bool.noConfusion hc | exact absurd (by with_reducible rfl) hc | (exfalso; omega) | skip)) | (intro c hc; (try (simp only [AH.zA] at hc; repeat (have hn := hc.1; replace hc := hc.2))); (first | (have hc2 := Eq.trans hc (by with_reducible assumption); clear hc; subst hc2) | (refine zP hc ?_ ?_ ?_ ; omega; omega; (clear hc; intro hc; subst hc)) | skip)) | (apply Exists.intro; apply And.intro; (first | (focus (repeat (first | (with_reducible assumption))); done))) | (apply Exists.intro; apply And.intro; first | (with_reducible assumption) | ((try simp only [zW, z0z, zZ, zY]); first | (with_reducible assumption) | rfl)) | (apply And.intro; (first | rfl | (with_reducible assumption) | exact zX rfl | omega)))) <;> (try (conv => whnf))
   exact ⟨i + 1, hit, by omega, ⟨congrArg (AV.int .i64) (by omega), rfl, trivial⟩, HLe.of_eq (by rw [ht, AH.zS])⟩
  ·have hie : i = 256 := by omega
   subst hie
   rw [show (bandL n P k).take 256 = bandL n P k from List.take_of_length_le (by omega)] at g7 l7 ⊢
   (repeat' ((conv => whnf); first | left | refine OpsA.zD ?_ | refine OpsA.zE ?_ | refine AWq.zI ?_ | refine AWq.zB ?_ | refine AWq.zG ?_ | refine AWq.zF ?_ | refine AWq.zH ?_ | refine AWq.ret ?_ | refine AWq.zK ?_ | refine AWq.zJ ?_ | (refine Both.mk ?_ ?_ <;> intro hc <;> (first | exact Bool.noConfusion hc | exact absurd (by with_reducible rfl) hc | (exfalso; omega) | skip)) | (intro c hc; (try (simp only [AH.zA] at hc; repeat (have hn := hc.1; replace hc := hc.2))); (first | (have hc2 := Eq.trans hc (by with_reducible assumption); clear hc; subst hc2) | (refine zP hc ?_ ?_ ?_ ; omega; omega; (clear hc; intro hc; subst hc)) | skip)) | (apply Exists.intro; apply And.intro; (first | (focus (repeat (first | (with_reducible assumption))); done))) | (apply Exists.intro; apply And.intro; first | (with_reducible assumption) | ((try simp only [zW, z0z, zZ, zY]); first | (with_reducible assumption) | rfl)) | (apply And.intro; (first | rfl | (with_reducible assumption) | exact zX rfl | omega)))) <;> (try (conv => whnf))
   refine Then.mk ?_
   (repeat' ((conv => whnf); first | left | refine OpsA.zD ?_ | refine OpsA.zE ?_ | refine AWq.zI ?_ | refine AWq.zB ?_ | refine AWq.zG ?_ | refine AWq.zF ?_ | refine AWq.zH ?_ | refine AWq.ret ?_ | refine AWq.zK ?_ | refine AWq.zJ ?_ | (refine Both.mk ?_ ?_ <;> intro hc <;> (first | exact Bool.noConfusion hc | exact absurd (by with_reducible rfl) hc | (exfalso; omega) | skip)) | (intro c hc; (try (simp only [AH.zA] at hc; repeat (have hn := hc.1; replace hc := hc.2))); (first | (have hc2 := Eq.trans hc (by with_reducible assumption); clear hc; subst hc2) | (refine zP hc ?_ ?_ ?_ ; omega; omega; (clear hc; intro hc; subst hc)) | skip)) | (apply Exists.intro; apply And.intro; (first | (focus (repeat (first | (with_reducible assumption))); done))) | (apply Exists.intro; apply And.intro; first | (with_reducible assumption) | ((try simp only [zW, z0z, zZ, zY]); first | (with_reducible assumption) | rfl)) | (apply And.intro; (first | rfl | (with_reducible assumption) | exact zX rfl | omega)))) <;> (try (conv => whnf))
   refine Then.mk (AWq.in ?_)
   refine AWp_freeze1 7 rfl rfl g7 (by omega) ?_
   rw [AH.del_set _ _ _ hq7]
   refine AWp.of zU (dok _) rfl ?_
   have hone : ∀ p : List UInt8, one (.cs (u8s p) p.length) = true := fun p => rfl
   (repeat' ((conv => whnf); first | refine Then.mk ?_ | left | refine OpsA.zD ?_ | refine OpsA.zE ?_ | refine AWq.zI ?_ | refine AWq.zB ?_ | refine AWq.zG ?_ | refine AWq.zF ?_ | refine AWq.zH ?_ | refine AWq.ret ?_ | refine AWq.zK ?_ | refine AWq.zJ ?_ | (refine Both.mk ?_ ?_ <;> intro hc <;> (first | exact Bool.noConfusion hc | exact absurd (by with_reducible rfl) hc | (exfalso; omega) | skip)) | (intro c hc; (try (simp only [AH.zA] at hc; repeat (have hn := hc.1; replace hc := hc.2))); (first | (have hc2 := Eq.trans hc (by with_reducible assumption); clear hc; subst hc2) | (refine zP hc ?_ ?_ ?_ ; omega; omega; (clear hc; intro hc; subst hc)) | skip)) | (apply Exists.intro; apply And.intro; (first | (focus (repeat (first | (with_reducible assumption))); done))) | (apply Exists.intro; apply And.intro; first | (with_reducible assumption) | ((try simp only [zW, z0z, zZ, zY]); first | (with_reducible assumption) | rfl)) | (apply And.intro; (first | rfl | (with_reducible assumption) | exact zX rfl | omega)) | (refine ACall.to (bc _) ?_))) <;> (try (conv => whnf))
   exact ⟨k + 1, hkt, by omega, ⟨congrArg (AV.int .i64) (by omega), rfl, trivial⟩, HLe.of_eq (by rw [← hG, AH.zS, hps])⟩
 ·have hke : k = n := by omega
  subst hke
  (repeat' ((conv => whnf); first | left | refine OpsA.zD ?_ | refine OpsA.zE ?_ | refine AWq.zI ?_ | refine AWq.zB ?_ | refine AWq.zG ?_ | refine AWq.zF ?_ | refine AWq.zH ?_ | refine AWq.ret ?_ | refine AWq.zK ?_ | refine AWq.zJ ?_ | (refine Both.mk ?_ ?_ <;> intro hc <;> (first | exact Bool.noConfusion hc | exact absurd (by with_reducible rfl) hc | (exfalso; omega) | skip)) | (intro c hc; (try (simp only [AH.zA] at hc; repeat (have hn := hc.1; replace hc := hc.2))); (first | (have hc2 := Eq.trans hc (by with_reducible assumption); clear hc; subst hc2) | (refine zP hc ?_ ?_ ?_ ; omega; omega; (clear hc; intro hc; subst hc)) | skip)) | (apply Exists.intro; apply And.intro; (first | (focus (repeat (first | (with_reducible assumption))); done))) | (apply Exists.intro; apply And.intro; first | (with_reducible assumption) | ((try simp only [zW, z0z, zZ, zY]); first | (with_reducible assumption) | rfl)) | (apply And.intro; (first | rfl | (with_reducible assumption) | exact zX rfl | omega)))) <;> (try (conv => whnf))
  refine Then.mk ?_
  (repeat' ((conv => whnf); first | left | refine OpsA.zD ?_ | refine OpsA.zE ?_ | refine AWq.zI ?_ | refine AWq.zB ?_ | refine AWq.zG ?_ | refine AWq.zF ?_ | refine AWq.zH ?_ | refine AWq.ret ?_ | refine AWq.zK ?_ | refine AWq.zJ ?_ | (refine Both.mk ?_ ?_ <;> intro hc <;> (first | exact Bool.noConfusion hc | exact absurd (by with_reducible rfl) hc | (exfalso; omega) | skip)) | (intro c hc; (try (simp only [AH.zA] at hc; repeat (have hn := hc.1; replace hc := hc.2))); (first | (have hc2 := Eq.trans hc (by with_reducible assumption); clear hc; subst hc2) | (refine zP hc ?_ ?_ ?_ ; omega; omega; (clear hc; intro hc; subst hc)) | skip)) | (apply Exists.intro; apply And.intro; (first | (focus (repeat (first | (with_reducible assumption))); done))) | (apply Exists.intro; apply And.intro; first | (with_reducible assumption) | ((try simp only [zW, z0z, zZ, zY]); first | (with_reducible assumption) | rfl)) | (apply And.intro; (first | rfl | (with_reducible assumption) | exact zX rfl | omega)))) <;> (try (conv => whnf))
  refine Then.mk (AWq.in ?_)
  refine AWp_freeze1 5 rfl rfl gq (by omega) ?_
  rw [AH.del_set _ _ _ hq5]
  refine AWp.of zU (dok _) rfl ?_
  (repeat' ((conv => whnf); first | refine Then.mk ?_ | left | refine OpsA.zD ?_ | refine OpsA.zE ?_ | refine AWq.zI ?_ | refine AWq.zB ?_ | refine AWq.zG ?_ | refine AWq.zF ?_ | refine AWq.zH ?_ | refine AWq.ret ?_ | refine AWq.zK ?_ | refine AWq.zJ ?_ | (refine Both.mk ?_ ?_ <;> intro hc <;> (first | exact Bool.noConfusion hc | exact absurd (by with_reducible rfl) hc | (exfalso; omega) | skip)) | (intro c hc; (try (simp only [AH.zA] at hc; repeat (have hn := hc.1; replace hc := hc.2))); (first | (have hc2 := Eq.trans hc (by with_reducible assumption); clear hc; subst hc2) | (refine zP hc ?_ ?_ ?_ ; omega; omega; (clear hc; intro hc; subst hc)) | skip)) | (apply Exists.intro; apply And.intro; (first | (focus (repeat (first | (with_reducible assumption))); done))) | (apply Exists.intro; apply And.intro; first | (with_reducible assumption) | ((try simp only [zW, z0z, zZ, zY]); first | (with_reducible assumption) | rfl)) | (apply And.intro; (first | rfl | (with_reducible assumption) | exact zX rfl | omega)) | (refine ACall.to (jc _) ?_))) <;> (try (conv => whnf))
  exact HLe.refl _
open Go.Fw Go
theorem joinP_len {ps : List (List UInt8)} (h2 : ps.length ≤ 9) (hp : ∀ p ∈ ps, p.length ≤ 90000) : (joinP ps).length ≤ 820000 := by
 have hn10 := encI_len (n := (ps.length : Int) - 1) (by unfold I64; omega)
 have h3 := encRs_len (m := 90000) hp (by decide)
 have h4 := Nat.le_trans h3 (Nat.mul_le_mul_right (90000 + 10) h2)
 unfold joinP
 rw [List.length_append]
 have : 9 * (90000 + 10) = 810090 := rfl
 omega
theorem encRs_drop {ps : List (List UInt8)} {i : Nat} {p : List UInt8} (h : ps[i]? = some p) : encRs (ps.drop i) = encR p ++ encRs (ps.drop (i + 1)) := by
 have hi : i < ps.length := by
  by_cases hi : i < ps.length
  ·exact hi
  ·rw [List.getElem?_eq_none (by omega)] at h; cases h
 rw [List.drop_eq_getElem_cons hi]
 rw [List.getElem?_eq_getElem hi] at h
 rw [Option.some.inj h]; rfl
set_option maxRecDepth 8000 in
set_option maxHeartbeats 4000000 in
theorem split_ok (ps : List (List UInt8)) (h1 : 2 ≤ ps.length) (h2 : ps.length ≤ 5) (hp : ∀ p ∈ ps, p.length ≤ 90000) (H : AH) :
  ACall Try.prog 49 [.cs (u8s (joinP ps)) (joinP ps).length] H (fun y H' => y = .tup [.cs (pvL ps) ps.length, .int .i64 0] ∧ H' = H) := by
 have jc := fun H => join_c ps (by omega) (by omega) hp H
 have hjl := joinP_len (by omega) hp
 have hbl : (u8s (joinP ps)).length = (joinP ps).length := by simp
 have hpl := pvL_len ps
 have rI := rdI_enc (n := (ps.length : Int) - 1) (by unfold I64; omega) (encRs ps)
 have hJ : joinP ps = encI ((ps.length : Int) - 1) ++ encRs ps := rfl
 have hlr : (encRs ps).length ≤ 820000 := by rw [hJ, List.length_append] at hjl; omega
 rw [← hJ] at rI
 refine ACall.back ?_
 refine zQ zU (dok _) Try.func49 rfl (by decide) rfl ?_
 (repeat' ((conv => whnf); first | left | refine OpsA.zD ?_ | refine OpsA.zE ?_ | refine AWq.zI ?_ | refine AWq.zB ?_ | refine AWq.zG ?_ | refine AWq.zF ?_ | refine AWq.zH ?_ | refine AWq.ret ?_ | refine AWq.zK ?_ | refine AWq.zJ ?_ | refine DrawA.zM ?_ | refine DrawA.zN ?_ | refine AWq.zO (by decide +kernel) ?_ | (refine Both.mk ?_ ?_ <;> intro hc <;> (first | exact Bool.noConfusion hc | exact absurd (by with_reducible rfl) hc | (exfalso; omega) | skip)) | (intro c hc; (try (simp only [AH.zA] at hc; repeat (have hn := hc.1; replace hc := hc.2))); (first | (refine zP hc ?_ ?_ ?_ ; omega; omega; (clear hc; intro hc; subst hc)) | skip)) | (apply Exists.intro; apply And.intro; (first | (focus (repeat (first | (with_reducible assumption))); done))) | (apply Exists.intro; apply And.intro; first | (with_reducible assumption) | ((try simp only [zW, z0z, zZ, zY]); first | (with_reducible assumption) | rfl)) | (apply And.intro; (first | rfl | (with_reducible assumption) | omega)))) <;> (try (conv => whnf))
 refine Then.mk ?_
 (repeat' ((conv => whnf); first | left | refine OpsA.zD ?_ | refine OpsA.zE ?_ | refine AWq.zI ?_ | refine AWq.zB ?_ | refine AWq.zG ?_ | refine AWq.zF ?_ | refine AWq.zH ?_ | refine AWq.ret ?_ | refine AWq.zK ?_ | refine AWq.zJ ?_ | refine DrawA.zM ?_ | refine DrawA.zN ?_ | refine AWq.zO (by decide +kernel) ?_ | (refine Both.mk ?_ ?_ <;> intro hc <;> (first | exact Bool.noConfusion hc | exact absurd (by with_reducible rfl) hc | (exfalso; omega) | skip)) | (intro c hc; (try (simp only [AH.zA] at hc; repeat (have hn := hc.1; replace hc := hc.2))); (first | (refine zP hc ?_ ?_ ?_ ; omega; omega; (clear hc; intro hc; subst hc)) | skip)) | (apply Exists.intro; apply And.intro; (first | (focus (repeat (first | (with_reducible assumption))); done))) | (apply Exists.intro; apply And.intro; first | (with_reducible assumption) | ((try simp only [zW, z0z, zZ, zY]); first | (with_reducible assumption) | rfl)) | (apply And.intro; (first | rfl | (with_reducible assumption) | omega)))) <;> (try (conv => whnf))
 refine (Read_c (joinP ps) (by omega) H).mono ?_
 rintro y H' ⟨p, hpn, rfl, rfl⟩
 have ri := rInt_ok p (by omega) rI H
 have hle : ∀ b, HLe H (RdH H p 0 b) := fun b => HLe.set_of _ _ (HLe.refl _) hpn
 generalize hG0 : RdH H p 0 (joinP ps) = G0 at *
 generalize hG1 : RdH H p 0 (encRs ps) = G1 at *
 iterate 4 ((repeat' ((conv => whnf); first | left | refine OpsA.zD ?_ | refine OpsA.zE ?_ | refine AWq.zI ?_ | refine AWq.zB ?_ | refine AWq.zG ?_ | refine AWq.zF ?_ | refine AWq.zH ?_ | refine AWq.ret ?_ | refine AWq.zK ?_ | refine AWq.zJ ?_ | refine DrawA.zM ?_ | refine DrawA.zN ?_ | refine AWq.zO (by decide +kernel) ?_ | (refine Both.mk ?_ ?_ <;> intro hc <;> (first | exact Bool.noConfusion hc | exact absurd (by with_reducible rfl) hc | (exfalso; omega) | skip)) | (intro c hc; (try (simp only [AH.zA] at hc; repeat (have hn := hc.1; replace hc := hc.2))); (first | (refine zP hc ?_ ?_ ?_ ; omega; omega; (clear hc; intro hc; subst hc)) | skip)) | (apply Exists.intro; apply And.intro; (first | (focus (repeat (first | (with_reducible assumption))); done))) | (apply Exists.intro; apply And.intro; first | (with_reducible assumption) | ((try simp only [zW, z0z, zZ, zY]); first | (with_reducible assumption) | rfl)) | (apply And.intro; (first | rfl | (with_reducible assumption) | omega)) | (refine ACall.to (ri) ?_))) <;> (try (conv => whnf)); refine Then.mk ?_)
 (repeat' ((conv => whnf); first | left | refine OpsA.zD ?_ | refine OpsA.zE ?_ | refine AWq.zI ?_ | refine AWq.zB ?_ | refine AWq.zG ?_ | refine AWq.zF ?_ | refine AWq.zH ?_ | refine AWq.ret ?_ | refine AWq.zK ?_ | refine AWq.zJ ?_ | refine DrawA.zM ?_ | refine DrawA.zN ?_ | refine AWq.zO (by decide +kernel) ?_ | (refine Both.mk ?_ ?_ <;> intro hc <;> (first | exact Bool.noConfusion hc | exact absurd (by with_reducible rfl) hc | (exfalso; omega) | skip)) | (intro c hc; (try (simp only [AH.zA] at hc; repeat (have hn := hc.1; replace hc := hc.2))); (first | (refine zP hc ?_ ?_ ?_ ; omega; omega; (clear hc; intro hc; subst hc)) | skip)) | (apply Exists.intro; apply And.intro; (first | (focus (repeat (first | (with_reducible assumption))); done))) | (apply Exists.intro; apply And.intro; first | (with_reducible assumption) | ((try simp only [zW, z0z, zZ, zY]); first | (with_reducible assumption) | rfl)) | (apply And.intro; (first | rfl | (with_reducible assumption) | omega)))) <;> (try (conv => whnf))
 refine Then.mk (AWq.in ?_)
 refine AWp_nilrow1 6 1 rfl rfl fun q hq => ?_
 have hqp : q ≠ p := fun h => by rw [h, ← hG1] at hq; unfold RdH at hq; rw [AH.zC] at hq; cases hq
 have hqn : H q = none := by rw [← hG1] at hq; unfold RdH at hq; rw [AH.zR _ _ hqp] at hq; exact hq
 refine AWp.of zU (dok _) rfl ?_
 (repeat' ((conv => whnf); first | refine Then.mk ?_ | left | refine OpsA.zD ?_ | refine OpsA.zE ?_ | refine AWq.zI ?_ | refine AWq.zB ?_ | refine AWq.zG ?_ | refine AWq.zF ?_ | refine AWq.zH ?_ | refine AWq.ret ?_ | refine AWq.zK ?_ | refine AWq.zJ ?_ | refine DrawA.zM ?_ | refine DrawA.zN ?_ | refine AWq.zO (by decide +kernel) ?_ | (refine Both.mk ?_ ?_ <;> intro hc <;> (first | exact Bool.noConfusion hc | exact absurd (by with_reducible rfl) hc | (exfalso; omega) | skip)) | (intro c hc; (try (simp only [AH.zA] at hc; repeat (have hn := hc.1; replace hc := hc.2))); (first | (refine zP hc ?_ ?_ ?_ ; omega; omega; (clear hc; intro hc; subst hc)) | skip)) | (apply Exists.intro; apply And.intro; (first | (focus (repeat (first | (with_reducible assumption))); done))) | (apply Exists.intro; apply And.intro; first | (with_reducible assumption) | ((try simp only [zW, z0z, zZ, zY]); first | (with_reducible assumption) | rfl)) | (apply And.intro; (first | rfl | (with_reducible assumption) | omega)))) <;> (try (conv => whnf))
 obtain ⟨N, hN⟩ : ∃ N, N = ps.length := ⟨_, rfl⟩
 obtain ⟨Hk, hHk⟩ : ∃ Hk : Nat → AH, ∀ i, Hk i = RdH (H.set q (.row (pvL (ps.take i)) i)) p 0 (encRs (ps.drop i)) := ⟨_, fun _ => rfl⟩
 have hH0 : Hk 0 = G1.set q (.row [] 0) := by
  rw [hHk, ← hG1]
  unfold RdH
  rw [AH.set_comm _ _ _ hqp]; rfl
 refine zT (σ := Nat) (6 :: 19 :: 20 :: 21 :: 22 :: 23 :: 24 :: 25 :: 26 :: []) (fun i => [(19, .int .i64 i), (6, .sl q i 1 0 i none)]) Hk (fun i => i ≤ ps.length) (fun i => ps.length - i) 0 rfl (Nat.zero_le _) ⟨rfl, rfl, trivial⟩ (HLe.of_eq hH0) ?_
 clear hH0 hG1 hG0 ri hq
 intro i hi
 refine AWp.of zU (dok _) rfl ?_
 dsimp only at hi ⊢
 have gq : Hk i q = some (.row (pvL (ps.take i)) i) := by rw [hHk]; unfold RdH; rw [AH.zR _ _ hqp, AH.zC]
 have lq : (pvL (ps.take i)).length = i := by rw [pvL_len, List.length_take]; omega
 by_cases hit : i < ps.length
 ·obtain ⟨x, hx⟩ : ∃ x, ps[i]? = some x := ⟨_, List.getElem?_eq_getElem hit⟩
  have hxl := hp x (List.mem_of_getElem? hx)
  have hdr := encRs_drop hx
  have hdl : (encRs (ps.drop i)).length ≤ 820000 := by
   have : encRs ps = encRs (ps.take i) ++ encRs (ps.drop i) := by unfold encRs; rw [← List.flatMap_append, List.take_append_drop]
   rw [this, List.length_append] at hlr; omega
  have rR := rdRaw_enc (b := x) (by omega) (encRs (ps.drop (i + 1)))
  rw [← hdr] at rR
  have rw1 := rRaw_ok p (by omega) rR (H.set q (.row (pvL (ps.take i)) i))
  rw [← hHk] at rw1
  have ht : pvL (ps.take (i + 1)) = pvL (ps.take i) ++ [.cs (u8s x) x.length] := by rw [take_snoc hx, pvL_snoc]
  have hst : Hk (i + 1) = (RdH (H.set q (.row (pvL (ps.take i)) i)) p 0 (encRs (ps.drop (i + 1)))).set q (.row (pvL (ps.take i) ++ [.cs (u8s x) x.length]) (i + 1)) := by
   rw [hHk, ← ht]
   unfold RdH
   rw [AH.set_comm _ _ _ (Ne.symm hqp), AH.zS]
  have gq2 : RdH (H.set q (.row (pvL (ps.take i)) i)) p 0 (encRs (ps.drop (i + 1))) q = some (.row (pvL (ps.take i)) i) := by unfold RdH; rw [AH.zR _ _ hqp, AH.zC]
  generalize RdH (H.set q (.row (pvL (ps.take i)) i)) p 0 (encRs (ps.drop (i + 1))) = G2 at *
  generalize pvL (ps.take i) = R at *
  generalize hGi : Hk i = Gi at *
  (repeat' ((conv => whnf); first | refine Then.mk ?_ | left | refine OpsA.zD ?_ | refine OpsA.zE ?_ | refine AWq.zI ?_ | refine AWq.zB ?_ | refine AWq.zG ?_ | refine AWq.zF ?_ | refine AWq.zH ?_ | refine AWq.ret ?_ | refine AWq.zK ?_ | refine AWq.zJ ?_ | refine DrawA.zM ?_ | refine DrawA.zN ?_ | refine AWq.zO (by decide +kernel) ?_ | (refine Both.mk ?_ ?_ <;> intro hc <;> (first | exact Bool.noConfusion hc | exact absurd (by with_reducible rfl) hc | (exfalso; omega) | skip)) | (intro c hc; (try (simp only [AH.zA] at hc; repeat (have hn := hc.1; replace hc := hc.2))); (first | (refine zP hc ?_ ?_ ?_ ; omega; omega; (clear hc; intro hc; subst hc)) | skip)) | (apply Exists.intro; apply And.intro; (first | (focus (repeat (first | (with_reducible assumption))); done))) | (apply Exists.intro; apply And.intro; first | (with_reducible assumption) | ((try simp only [zW, z0z, zZ, zY]); first | (with_reducible assumption) | rfl)) | (apply And.intro; (first | rfl | (with_reducible assumption) | omega)) | (refine ACall.to (rw1) ?_))) <;> (try (conv => whnf))
  exact ⟨i + 1, hit, by omega, ⟨congrArg (AV.int .i64) (by omega), rfl, trivial⟩, HLe.of_eq hst⟩
 ·have hie : i = ps.length := by omega
  subst hie
  rw [List.take_length] at *
  have hdel : (Hk ps.length).del q = RdH H p 0 [] := by
   rw [hHk, List.take_length, List.drop_length]
   unfold RdH
   rw [AH.set_comm _ _ _ hqp, AH.del_set _ _ _ (by rw [AH.zR _ _ hqp]; exact hqn)]; rfl
  have hen : ∀ H, ACall Try.prog 75 [.ptr p 0 0] (RdH H p 0 []) (fun y H' => y = .int .i64 0 ∧ H' = RdH H p 0 []) := fun H => rEnd_c p 0 [] H
  have hen := hen H
  have hle := hle []
  (repeat' ((conv => whnf); first | left | refine OpsA.zD ?_ | refine OpsA.zE ?_ | refine AWq.zI ?_ | refine AWq.zB ?_ | refine AWq.zG ?_ | refine AWq.zF ?_ | refine AWq.zH ?_ | refine AWq.ret ?_ | refine AWq.zK ?_ | refine AWq.zJ ?_ | refine DrawA.zM ?_ | refine DrawA.zN ?_ | refine AWq.zO (by decide +kernel) ?_ | (refine Both.mk ?_ ?_ <;> intro hc <;> (first | exact Bool.noConfusion hc | exact absurd (by with_reducible rfl) hc | (exfalso; omega) | skip)) | (intro c hc; (try (simp only [AH.zA] at hc; repeat (have hn := hc.1; replace hc := hc.2))); (first | (refine zP hc ?_ ?_ ?_ ; omega; omega; (clear hc; intro hc; subst hc)) | skip)) | (apply Exists.intro; apply And.intro; (first | (focus (repeat (first | (with_reducible assumption))); done))) | (apply Exists.intro; apply And.intro; first | (with_reducible assumption) | ((try simp only [zW, z0z, zZ, zY]); first | (with_reducible assumption) | rfl)) | (apply And.intro; (first | rfl | (with_reducible assumption) | omega)))) <;> (try (conv => whnf))
  refine Then.mk ?_
  (repeat' ((conv => whnf); first | left | refine OpsA.zD ?_ | refine OpsA.zE ?_ | refine AWq.zI ?_ | refine AWq.zB ?_ | refine AWq.zG ?_ | refine AWq.zF ?_ | refine AWq.zH ?_ | refine AWq.ret ?_ | refine AWq.zK ?_ | refine AWq.zJ ?_ | refine DrawA.zM ?_ | refine DrawA.zN ?_ | refine AWq.zO (by decide +kernel) ?_ | (refine Both.mk ?_ ?_ <;> intro hc <;> (first | exact Bool.noConfusion hc | exact absurd (by with_reducible rfl) hc | (exfalso; omega) | skip)) | (intro c hc; (try (simp only [AH.zA] at hc; repeat (have hn := hc.1; replace hc := hc.2))); (first | (refine zP hc ?_ ?_ ?_ ; omega; omega; (clear hc; intro hc; subst hc)) | skip)) | (apply Exists.intro; apply And.intro; (first | (focus (repeat (first | (with_reducible assumption))); done))) | (apply Exists.intro; apply And.intro; first | (with_reducible assumption) | ((try simp only [zW, z0z, zZ, zY]); first | (with_reducible assumption) | rfl)) | (apply And.intro; (first | rfl | (with_reducible assumption) | omega)))) <;> (try (conv => whnf))
  refine Then.mk (AWq.in ?_)
  refine AWp_freeze1 6 rfl rfl gq (by omega) ?_
  rw [hdel]
  refine AWp.of zU (dok _) rfl ?_
  generalize hGE : RdH H p 0 [] = GE at *
  (repeat' ((conv => whnf); first | refine Then.mk ?_ | left | refine OpsA.zD ?_ | refine OpsA.zE ?_ | refine AWq.zI ?_ | refine AWq.zB ?_ | refine AWq.zG ?_ | refine AWq.zF ?_ | refine AWq.zH ?_ | refine AWq.ret ?_ | refine AWq.zK ?_ | refine AWq.zJ ?_ | refine DrawA.zM ?_ | refine DrawA.zN ?_ | refine AWq.zO (by decide +kernel) ?_ | (apply Exists.intro; apply And.intro; exact hen) | (apply Exists.intro; apply And.intro; exact jc _) | (refine Both.mk ?_ ?_ <;> intro hc <;> (first | exact Bool.noConfusion hc | exact absurd (by with_reducible rfl) hc | (exfalso; omega) | skip)) | (intro c hc; (try (simp only [AH.zA] at hc; repeat (have hn := hc.1; replace hc := hc.2))); (first | (refine zP hc ?_ ?_ ?_ ; omega; omega; (clear hc; intro hc; subst hc)) | skip)) | (apply Exists.intro; apply And.intro; (first | (focus (repeat (first | (with_reducible assumption))); done))) | (apply Exists.intro; apply And.intro; first | (with_reducible assumption) | ((try simp only [zW, z0z, zZ, zY]); first | (with_reducible assumption) | rfl)) | (apply And.intro; (first | rfl | (with_reducible assumption) | omega)))) <;> (try (conv => whnf))
  exact hle
end Go.Proofs.Ytgpfmojlgejnhaa
