/- Plain law: what is read has one encoding. -/
import Derived.Test.YtlelhddchgipeaaWireX
namespace Go.Proofs.Ytlelhddchgipeaa
open Go.Fw Go
set_option linter.unusedVariables false
set_option linter.unusedSimpArgs false

theorem rdN_err : ∀ (bs : List UInt8) (i acc : Nat) (e : Int), rdN i acc bs = .error e → e = 2 ∨ e = 3
  | [], i, acc, e, h => by simp [rdN] at h; omega
  | c :: t, i, acc, e, h => by
    rw [rdN] at h
    split at h
    · cases h; exact .inl rfl
    · split at h
      · cases h
      · exact rdN_err t _ _ e h

theorem rdU_uniq {b r : List UInt8} {n : Nat} (h : rdU (0, b) = (n, (0, r))) : b = encN n ++ r ∧ n < 2 ^ 64 := by
  rw [← canon_ok, rdU_ok] at h
  cases hr : rdN 0 0 b with
  | error e =>
    rw [hr] at h
    have he : e = 0 := congrArg (fun x => x.2.1) h
    rcases rdN_err b 0 0 e hr with h' | h' <;> omega
  | ok x =>
    rw [hr] at h
    obtain ⟨m, r'⟩ := x
    cases h
    obtain ⟨n', h1, h2, h3, _⟩ := rdN_uniq b 0 0 n r (by omega) hr
    have : n = n' := by omega
    subst this
    exact ⟨h2, by omega⟩

theorem rdI_uniq {b r : List UInt8} {n : Int} (h : rdI (0, b) = (n, (0, r))) : b = encI n ++ r ∧ I64 n := by
  unfold rdI at h
  have h1 : unzz (rdU (0, b)).1 = n := congrArg Prod.fst h
  have h2 : (rdU (0, b)).2 = (0, r) := congrArg Prod.snd h
  obtain ⟨h3, h4⟩ := rdU_uniq (b := b) (r := r) (n := (rdU (0, b)).1) (Prod.ext rfl h2)
  rw [← h1]
  unfold encI
  rw [zz_unzz]
  exact ⟨h3, unzz_range h4⟩

theorem rdB_uniq {b r : List UInt8} {t : Bool} (h : rdB (0, b) = (t, (0, r))) : b = encB t ++ r := by
  unfold rdB at h
  rw [if_neg (by simp)] at h
  cases b with
  | nil => exact absurd (show (3 : Int) = 0 from congrArg (fun x => x.2.1) h) (by decide)
  | cons c b =>
    dsimp only at h
    split at h
    · exact absurd (show (2 : Int) = 0 from congrArg (fun x => x.2.1) h) (by decide)
    · rename_i hc
      cases h
      by_cases h1 : c.toNat = 1
      · have : c = 1 := UInt8.toNat_inj.1 h1
        subst this; rfl
      · have : c = 0 := UInt8.toNat_inj.1 (show c.toNat = 0 by omega)
        subst this; rfl

theorem rdRaw_uniq {b r x : List UInt8} (h : rdRaw (0, b) = (x, (0, r))) : b = encR x ++ r := by
  by_cases h0 : (rdU (0, b)).2.1 = 0
  · by_cases hl : (rdU (0, b)).2.2.length < (rdU (0, b)).1
    · rw [rdRaw_more h0 hl] at h
      exact absurd (show (3 : Int) = 0 from congrArg (fun x => x.2.1) h) (by decide)
    · rw [rdRaw_ok h0 hl] at h
      obtain ⟨h3, _⟩ := rdU_uniq (b := b) (r := (rdU (0, b)).2.2) (n := (rdU (0, b)).1) (Prod.ext rfl (Prod.ext h0 rfl))
      generalize rdU (0, b) = R at *
      obtain ⟨n, e, d⟩ := R
      dsimp only at *
      have h1 : d.take n = x := congrArg Prod.fst h
      have h2 : d.drop n = r := congrArg (fun x => x.2.2) h
      have hx : x.length = n := by rw [← h1, List.length_take]; omega
      unfold encR
      rw [h3, hx, ← h1, ← h2, List.append_assoc, List.take_append_drop]
  · rw [rdRaw_bad h0] at h
    exact absurd (congrArg (fun x => x.2.1) h) h0

theorem rdL_uniq : ∀ (k : Nat) (b : List UInt8) (xs : List Int) (r : List UInt8), rdL k (0, b) = (xs, (0, r)) → xs.length = k ∧ b = encIs xs ++ r ∧ ∀ x ∈ xs, I64 x
  | 0, b, xs, r, h => by
    cases h
    exact ⟨rfl, rfl, by simp⟩
  | k + 1, b, xs, r, h => by
    rw [rdL, if_neg (by simp)] at h
    have h1 : (rdI (0, b)).1 :: (rdL k (rdI (0, b)).2).1 = xs := congrArg Prod.fst h
    have h2 : (rdL k (rdI (0, b)).2).2 = (0, r) := congrArg Prod.snd h
    by_cases h0 : (rdI (0, b)).2.1 = 0
    · obtain ⟨h3, h4⟩ := rdI_uniq (b := b) (r := (rdI (0, b)).2.2) (n := (rdI (0, b)).1) (Prod.ext rfl (Prod.ext h0 rfl))
      have he : (rdI (0, b)).2 = (0, (rdI (0, b)).2.2) := Prod.ext h0 rfl
      rw [he] at h1 h2
      obtain ⟨h5, h6, h7⟩ := rdL_uniq k (rdI (0, b)).2.2 _ r (Prod.ext rfl h2)
      rw [← h1]
      refine ⟨by rw [List.length_cons, h5], ?_, ?_⟩
      · have : encIs ((rdI (0, b)).1 :: (rdL k (0, (rdI (0, b)).2.2)).1) = encI (rdI (0, b)).1 ++ encIs (rdL k (0, (rdI (0, b)).2.2)).1 := by simp [encIs]
        rw [this, List.append_assoc, ← h6]; exact h3
      · intro x hx
        rcases List.mem_cons.1 hx with rfl | hx
        · exact h4
        · exact h7 x hx
    · exfalso
      have : (rdL k (rdI (0, b)).2).2 = (rdI (0, b)).2 := by
        cases k with
        | zero => rfl
        | succ k => rw [rdL, if_pos h0]
      rw [this] at h2
      exact h0 (congrArg Prod.fst h2)

theorem rdInts_uniq {b r : List UInt8} {x : List Int} (h : rdInts (0, b) = (x, (0, r))) : b = encL x ++ r ∧ ∀ y ∈ x, I64 y := by
  by_cases h0 : (rdU (0, b)).2.1 = 0
  · by_cases hl : (rdU (0, b)).2.2.length < (rdU (0, b)).1
    · rw [rdInts_more h0 hl] at h
      exact absurd (show (3 : Int) = 0 from congrArg (fun x => x.2.1) h) (by decide)
    · rw [rdInts_ok hl] at h
      obtain ⟨h3, _⟩ := rdU_uniq (b := b) (r := (rdU (0, b)).2.2) (n := (rdU (0, b)).1) (Prod.ext rfl (Prod.ext h0 rfl))
      have he : (rdU (0, b)).2 = (0, (rdU (0, b)).2.2) := Prod.ext h0 rfl
      split at h
      · rename_i hn
        exact absurd (congrArg (fun x => x.2.1) h) hn
      · rw [he] at h
        obtain ⟨h5, h6, h7⟩ := rdL_uniq _ _ _ _ h
        refine ⟨?_, h7⟩
        unfold encL
        rw [h5, List.append_assoc, ← h6]; exact h3
  · rw [rdInts_bad h0] at h
    exact absurd (congrArg (fun x => x.2.1) h) h0

/-- A value that may be written. -/
structure VW (v : V) (N : Nat) : Prop where
  u : v.u < 2 ^ 64
  n : I64 v.n
  b : v.b.length ≤ N
  l : v.l.length ≤ N
  li : ∀ x ∈ v.l, I64 x

theorem rdV_uniq {k : Nat} (hk : k ≤ 5) {b r : List UInt8} {v : V} (h : rdV k (0, b) = (v, (0, r))) : b = encV v ++ r ∧ VW v b.length := by
  have i0 : I64 0 := by unfold I64; omega
  have hd : ∀ {α : Type} {f : V × RS} {x : α × RS} {mk : α → V}, f = (mk x.1, x.2) → f = (v, (0, r)) → mk x.1 = v ∧ x = (x.1, (0, r)) := by
    intro α f x mk h1 h2
    rw [h1] at h2
    exact ⟨congrArg Prod.fst h2, Prod.ext rfl (show x.2 = (0, r) from congrArg Prod.snd h2)⟩
  by_cases k0 : k = 0
  · subst k0
    obtain ⟨h1, h2⟩ := hd (mk := fun n => (⟨0, n, 0, [], []⟩ : V)) (rdV_0 (0, b)) h
    obtain ⟨h3, h4⟩ := rdU_uniq h2
    rw [← h1]
    exact ⟨by unfold encV; rw [if_pos rfl]; exact h3, ⟨h4, i0, by simp, by simp, by simp⟩⟩
  by_cases k1 : k = 1
  · subst k1
    obtain ⟨h1, h2⟩ := hd (mk := fun n => (⟨1, 0, n, [], []⟩ : V)) (rdV_1 (0, b)) h
    obtain ⟨h3, h4⟩ := rdI_uniq h2
    rw [← h1]
    exact ⟨by unfold encV; rw [if_neg (by simp), if_pos rfl]; exact h3, ⟨show 0 < 2 ^ 64 by decide, h4, by simp, by simp, by simp⟩⟩
  by_cases k2 : k = 2
  · subst k2
    obtain ⟨h1, h2⟩ := hd (mk := fun t : Bool => (⟨2, 0, if t then 1 else 0, [], []⟩ : V)) (rdV_2 (0, b)) h
    have h3 := rdB_uniq h2
    generalize (rdB (0, b)).1 = t at h1 h3
    rw [← h1]
    refine ⟨?_, ⟨show 0 < 2 ^ 64 by decide, by unfold I64; cases t <;> simp, by simp, by simp, by simp⟩⟩
    rw [h3]
    cases t <;> rfl
  by_cases k3 : k = 3
  · subst k3
    obtain ⟨h1, h2⟩ := hd (mk := fun x => (⟨3, 0, 0, x, []⟩ : V)) (rdV_3 (0, b)) h
    have h3 := rdRaw_uniq h2
    generalize (rdRaw (0, b)).1 = x at h1 h3
    rw [← h1]
    refine ⟨h3, ⟨show 0 < 2 ^ 64 by decide, i0, ?_, by simp, by simp⟩⟩
    have := congrArg List.length h3
    unfold encR at this
    simp only [List.length_append] at this
    show x.length ≤ _
    omega
  by_cases k4 : k = 4
  · subst k4
    obtain ⟨h1, h2⟩ := hd (mk := fun x => (⟨4, 0, 0, x, []⟩ : V)) (rdV_4 (0, b)) h
    have h3 := rdRaw_uniq h2
    generalize (rdRaw (0, b)).1 = x at h1 h3
    rw [← h1]
    refine ⟨h3, ⟨show 0 < 2 ^ 64 by decide, i0, ?_, by simp, by simp⟩⟩
    have := congrArg List.length h3
    unfold encR at this
    simp only [List.length_append] at this
    show x.length ≤ _
    omega
  · obtain rfl : k = 5 := by omega
    obtain ⟨h1, h2⟩ := hd (mk := fun x => (⟨5, 0, 0, [], x⟩ : V)) (rdV_5 (0, b)) h
    obtain ⟨h3, h4⟩ := rdInts_uniq h2
    generalize (rdInts (0, b)).1 = x at h1 h3 h4
    rw [← h1]
    refine ⟨h3, ⟨show 0 < 2 ^ 64 by decide, i0, by simp, ?_, h4⟩⟩
    have := congrArg List.length h3
    have := encIs_len x
    unfold encL at *
    simp only [List.length_append] at *
    show x.length ≤ _
    omega
end Go.Proofs.Ytlelhddchgipeaa
