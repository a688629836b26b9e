/- Plain law: what a reader does on a part of an encoding; what it reads is what was written. -/
import Derived.Test.YtlelhddchgipeaaWireG
namespace Go.Proofs.Ytlelhddchgipeaa
open Go.Fw Go
set_option linter.unusedVariables false
set_option linter.unusedSimpArgs false

theorem split_pre {p q A B : List UInt8} (h : p ++ q = A ++ B) : (∃ q', p ++ q' = A ∧ q' ≠ []) ∨ ∃ p', p = A ++ p' ∧ p' ++ q = B := by
  rcases List.append_eq_append_iff.1 h with ⟨a, h1, h2⟩ | ⟨a, h1, h2⟩
  · by_cases ha : a = []
    · subst ha
      exact .inr ⟨[], by simpa using h1.symm, by simpa using h2⟩
    · exact .inl ⟨a, h1.symm, ha⟩
  · exact .inr ⟨a, h1, h2.symm⟩

theorem rdN_pre : ∀ (n i acc : Nat) (p q : List UInt8), i ≤ 9 → n * 128 ^ i < 2 ^ 64 → (0 < i → 0 < n) → p ++ q = encN n → q ≠ [] → rdN i acc p = .error 3 := by
  intro n
  induction n using Nat.strongRecOn with
  | ind n ih =>
    intro i acc p q hi hn h0 hpq hq
    cases p with
    | nil => rfl
    | cons c p =>
      have h9 : i = 9 → n ≤ 1 := by
        intro e; subst e
        rcases Nat.lt_or_ge 1 n with h | h
        · have : 2 * 128 ^ 9 ≤ n * 128 ^ 9 := Nat.mul_le_mul_right _ h
          have : (2 : Nat) * 128 ^ 9 = 2 ^ 64 := by decide
          omega
        · exact h
      by_cases h : n < 128
      · rw [encN_lt h] at hpq
        simp at hpq
        exact absurd hpq.2.2 hq
      · have h8 : i ≠ 9 := fun e => by have := h9 e; omega
        rw [encN_ge h, List.cons_append] at hpq
        obtain ⟨rfl, hpq2⟩ := List.cons.inj hpq
        rw [rdN, u8_ofNat (by omega), if_neg (by omega), if_neg (by omega)]
        have hm : n / 128 * 128 ^ (i + 1) ≤ n * 128 ^ i := by
          rw [Nat.pow_succ, Nat.mul_comm (128 ^ i) 128, ← Nat.mul_assoc]
          exact Nat.mul_le_mul_right _ (Nat.div_mul_le_self n 128)
        exact ih (n / 128) (by omega) (i + 1) _ p q (by omega) (by omega) (by omega) hpq2 hq

theorem rdU_pre {n : Nat} {p q : List UInt8} (hn : n < 2 ^ 64) (h : p ++ q = encN n) (hq : q ≠ []) : rdU (0, p) = (0, (3, [])) := by
  have := rdN_pre n 0 0 p q (by omega) (by omega) (by omega) h hq
  unfold rdU
  simp [this]
theorem rdI_pre {n : Int} {p q : List UInt8} (hn : I64 n) (h : p ++ q = encI n) (hq : q ≠ []) : rdI (0, p) = (0, (3, [])) := by
  unfold rdI; rw [rdU_pre (zz_lt hn.1 hn.2) h hq]; rfl
theorem rdRaw_pre {b p q : List UInt8} (hb : b.length < 2 ^ 40) (h : p ++ q = encR b) (hq : q ≠ []) : rdRaw (0, p) = ([], (3, [])) := by
  rcases split_pre h with ⟨q', h1, h2⟩ | ⟨p', rfl, h2⟩
  · have := rdU_pre (by omega) h1 h2
    have hb := rdRaw_bad (s := (0, p)) (by rw [this]; decide)
    rw [hb, this]
  · have := rdU_enc (n := b.length) (by omega) p'
    have hl := congrArg List.length h2
    have := List.length_pos_iff.2 hq
    rw [List.length_append] at hl
    exact rdRaw_more (by rw [rdU_enc (by omega)]) (by rw [rdU_enc (by omega)]; show p'.length < b.length; omega)

theorem rdU_e {e : Int} {b : List UInt8} (h : e ≠ 0) : rdU (e, b) = (0, (e, [])) := by unfold rdU; rw [if_pos h]
theorem rdI_e {e : Int} {b : List UInt8} (h : e ≠ 0) : rdI (e, b) = (0, (e, [])) := by unfold rdI; rw [rdU_e h]; exact Prod.ext (show unzz 0 = 0 by decide) rfl
theorem rdL_e {e : Int} (h : e ≠ 0) : ∀ k, rdL k (e, []) = ([], (e, []))
  | 0 => rfl
  | k + 1 => by rw [rdL, if_pos h]

theorem rdL_pre : ∀ (l : List Int) (p q : List UInt8), (∀ x ∈ l, I64 x) → p ++ q = encIs l → q ≠ [] → (rdL l.length (0, p)).2 = (3, [])
  | [], p, q, _, h, hq => by
    simp [encIs] at h
    exact absurd h.2 hq
  | x :: l, p, q, hl, h, hq => by
    have e : encIs (x :: l) = encI x ++ encIs l := by simp [encIs]
    rw [e] at h
    rw [List.length_cons, rdL, if_neg (by simp)]
    rcases split_pre h with ⟨q', h1, h2⟩ | ⟨p', rfl, h2⟩
    · rw [rdI_pre (hl x (by simp)) h1 h2, rdL_e (by decide)]
    · rw [rdI_enc (hl x (by simp))]
      exact rdL_pre l p' q (fun y hy => hl y (by simp [hy])) h2 hq

theorem rdInts_pre {l : List Int} {p q : List UInt8} (hl : ∀ x ∈ l, I64 x) (hll : l.length < 2 ^ 40) (h : p ++ q = encL l) (hq : q ≠ []) : rdInts (0, p) = ([], (3, [])) := by
  rcases split_pre h with ⟨q', h1, h2⟩ | ⟨p', rfl, h2⟩
  · have := rdU_pre (by omega) h1 h2
    have hb := rdInts_bad (s := (0, p)) (by rw [this]; decide)
    rw [hb, this]
  · have hu := rdU_enc (n := l.length) (by omega) p'
    by_cases hlen : p'.length < l.length
    · exact rdInts_more (by rw [hu]) (by rw [hu]; exact hlen)
    · have := rdInts_ok (s := (0, encN l.length ++ p')) (by rw [hu]; exact hlen)
      rw [this, hu]
      dsimp only
      rw [rdL_pre l p' q hl h2 hq, if_pos (by decide)]

theorem rdV_pre {v : V} (hv : VOk v) {p q : List UInt8} (h : p ++ q = encV v) (hq : q ≠ []) : (rdV v.kind (0, p)).2 = (3, []) := by
  have hk := hv.k
  unfold encV at h
  unfold rdV
  by_cases k0 : v.kind = 0
  · rw [if_pos k0] at h ⊢; rw [rdU_pre hv.u h hq]
  rw [if_neg k0] at h ⊢
  by_cases k1 : v.kind = 1
  · rw [if_pos k1] at h ⊢; rw [rdI_pre hv.n h hq]
  rw [if_neg k1] at h ⊢
  by_cases k2 : v.kind = 2
  · rw [if_pos k2] at h ⊢
    have hp : p = [] := by
      have hl := congrArg List.length h
      have h1 : (encB (decide (v.n = 1))).length = 1 := by unfold encB; split <;> rfl
      have := List.length_pos_iff.2 hq
      rw [List.length_append, h1] at hl
      exact List.eq_nil_of_length_eq_zero (by omega)
    rw [hp]; rfl
  rw [if_neg k2] at h ⊢
  by_cases k3 : v.kind = 3 ∨ v.kind = 4
  · rw [if_pos k3] at h ⊢; rw [rdRaw_pre hv.b h hq]
  rw [if_neg k3] at h ⊢
  rw [rdInts_pre hv.l hv.ll h hq]

theorem rdV_e {e : Int} (h : e ≠ 0) (k : Nat) : rdV k (e, []) = (⟨k, 0, 0, [], []⟩, (e, [])) := by
  have hu : rdU (e, []) = (0, (e, [])) := rdU_e h
  have h1 : rdRaw (e, []) = ([], (e, [])) := by rw [rdRaw_bad (by rw [hu]; exact h), hu]
  have h2 : rdInts (e, []) = ([], (e, [])) := by rw [rdInts_bad (by rw [hu]; exact h), hu]
  have h3 : rdB (e, []) = (false, (e, [])) := by unfold rdB; rw [if_pos h]
  unfold rdV
  rw [hu, rdI_e h, h1, h2, h3]
  repeat' split
  all_goals first | rfl | simp_all

/-- What is left when values of kinds have been read. -/
def stV (ks : List Nat) (s : RS) : RS := ks.foldl (fun s k => (rdV k s).2) s
theorem stV_e {e : Int} (h : e ≠ 0) : ∀ ks, stV ks (e, []) = (e, [])
  | [] => rfl
  | k :: ks => by
    show stV ks (rdV k (e, [])).2 = _
    rw [rdV_e h]; exact stV_e h ks
theorem stV_pre : ∀ (vs : List V) (p q : List UInt8), (∀ v ∈ vs, VOk v) → p ++ q = encVs vs → q ≠ [] → stV (vs.map (·.kind)) (0, p) = (3, [])
  | [], p, q, _, h, hq => by
    simp [encVs] at h
    exact absurd h.2 hq
  | v :: vs, p, q, hv, h, hq => by
    have e : encVs (v :: vs) = encV v ++ encVs vs := by simp [encVs]
    rw [e] at h
    show stV (vs.map (·.kind)) (rdV v.kind (0, p)).2 = _
    rcases split_pre h with ⟨q', h1, h2⟩ | ⟨p', rfl, h2⟩
    · rw [rdV_pre (hv v (by simp)) h1 h2, stV_e (by decide)]
    · rw [rdV_enc (hv v (by simp))]
      exact stV_pre vs p' q (fun y hy => hv y (by simp [hy])) h2 hq

theorem stV_take {ks : List Nat} {i : Nat} (h : i < ks.length) (s : RS) : stV (ks.take (i + 1)) s = (rdV (ks.getD i 0) (stV (ks.take i) s)).2 := by
  unfold stV
  rw [List.take_add_one, List.foldl_append]; simp [h]

theorem fdiv_I64 {x : Int} (h : I64 x) (n : Nat) : I64 (x.fdiv (2 ^ n)) := by
  have hp : (0 : Int) < 2 ^ n := Int.pow_pos (by omega)
  rw [Int.fdiv_eq_ediv_of_nonneg _ (Int.le_of_lt hp)]
  generalize (2 : Int) ^ n = d at hp
  obtain ⟨h1, h2⟩ := h
  have a1 := Int.ediv_mul_le x (b := d) (by omega)
  have a2 := Int.lt_ediv_add_one_mul_self x hp
  constructor
  · rcases Int.lt_or_le (x / d) (-9223372036854775808) with h | h
    · have : (x / d + 1) * d ≤ (-9223372036854775808) * 1 := by
        have : (x / d + 1) * d ≤ (x / d + 1) * 1 := Int.mul_le_mul_of_nonpos_left (by omega) (by omega)
        omega
      omega
    · exact h
  · rcases Int.lt_or_le 9223372036854775807 (x / d) with h | h
    · have : (x / d) * 1 ≤ (x / d) * d := Int.mul_le_mul_of_nonneg_left (by omega) (by omega)
      omega
    · exact h

theorem valOf_ok {x : Int} (h : I64 x) : VOk (valOf x) ∧ (valOf x).b.length ≤ 9 ∧ (valOf x).l.length ≤ 4 := by
  have hk := aro_lt (n := x) (m := 6) (by omega)
  unfold valOf
  repeat' split
  · refine ⟨⟨by dsimp only; omega, ?_, by simp, by unfold I64; dsimp only; omega, by simp, by simp, by simp, by simp, by simp, by simp, by simp⟩, by simp, by simp⟩
    show (x % 18446744073709551616).toNat / 2 ^ _ < 2 ^ 64
    have := Nat.div_le_self (x % 18446744073709551616).toNat (2 ^ aro (x.tdiv 6) 63)
    omega
  · exact ⟨⟨by dsimp only; omega, by dsimp only; decide, by simp, fdiv_I64 h _, by simp, by simp, by simp, by simp, by simp, by simp, by simp⟩, by simp, by simp⟩
  · refine ⟨⟨by dsimp only; omega, by dsimp only; decide, by simp, ?_, by simp, fun _ => ?_, by simp, by simp, by simp, by simp, by simp⟩, by simp, by simp⟩
    · unfold I64; dsimp only; omega
    · dsimp only; omega
  · refine ⟨⟨by dsimp only; omega, by dsimp only; decide, by simp, by unfold I64; dsimp only; omega, by simp, by simp, ?_, by simp, by simp, by simp, by simp⟩, ?_, by simp⟩
    · dsimp only; rw [bytesOf_len]; omega
    · dsimp only; rw [bytesOf_len]; omega
  · refine ⟨⟨by dsimp only; omega, by dsimp only; decide, by simp, by unfold I64; dsimp only; omega, by simp, by simp, ?_, by simp, by simp, by simp, by simp⟩, ?_, by simp⟩
    · dsimp only; rw [bytesOf_len]; omega
    · dsimp only; rw [bytesOf_len]; omega
  · refine ⟨⟨by dsimp only; omega, by dsimp only; decide, by simp, by unfold I64; dsimp only; omega, by simp, by simp, by simp, by simp, ?_, ?_, by simp⟩, by simp, ?_⟩
    · intro y hy
      simp only [intsOf, List.mem_map] at hy
      obtain ⟨j, _, rfl⟩ := hy
      exact fdiv_I64 h _
    · dsimp only; rw [intsOf_len]; omega
    · dsimp only; rw [intsOf_len]; omega
end Go.Proofs.Ytlelhddchgipeaa
