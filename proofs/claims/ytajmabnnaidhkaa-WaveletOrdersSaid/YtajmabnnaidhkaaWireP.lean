/- Plain law: what a reader reads, and the way back. -/
import Derived.Test.YtajmabnnaidhkaaWireL
namespace Go.Proofs.Ytajmabnnaidhkaa
open Go.Fw Go
set_option linter.unusedVariables false
set_option linter.unusedSimpArgs false

/-- A reader: its error, and the bytes that are left as long as there is none. -/
abbrev RS := Int × List UInt8
def canon (e : Int) (b : List UInt8) : RS := (e, if e = 0 then b else [])

def rdU (s : RS) : Nat × RS := if s.1 ≠ 0 then (0, (s.1, [])) else match rdN 0 0 s.2 with
  | .ok (n, r) => (n, (0, r))
  | .error e => (0, (e, []))
def rdI (s : RS) : Int × RS := (unzz (rdU s).1, (rdU s).2)
def rdB (s : RS) : Bool × RS := if s.1 ≠ 0 then (false, (s.1, [])) else match s.2 with
  | [] => (false, (3, []))
  | c :: r => if 1 < c.toNat then (false, (2, [])) else (decide (c.toNat = 1), (0, r))
def rdLen (s : RS) : Nat × RS := if (rdU s).2.1 = 0 ∧ (rdU s).2.2.length < (rdU s).1 then (0, (3, [])) else rdU s
def rdRaw (s : RS) : List UInt8 × RS := if (rdLen s).2.1 ≠ 0 then ([], (rdLen s).2) else ((rdLen s).2.2.take (rdLen s).1, (0, (rdLen s).2.2.drop (rdLen s).1))
def rdL : Nat → RS → List Int × RS
  | 0, s => ([], s)
  | k + 1, s => if s.1 ≠ 0 then ([], s) else ((rdI s).1 :: (rdL k (rdI s).2).1, (rdL k (rdI s).2).2)
def rdInts (s : RS) : List Int × RS := if (rdL (rdLen s).1 (rdLen s).2).2.1 ≠ 0 then ([], (rdL (rdLen s).1 (rdLen s).2).2) else rdL (rdLen s).1 (rdLen s).2
def endE (s : RS) : Int := if s.1 = 0 ∧ s.2 ≠ [] then 2 else s.1

theorem canon_snd {e : Int} {b : List UInt8} (h : e ≠ 0) : (canon e b).2 = [] := by unfold canon; simp [h]
theorem canon_ok (b : List UInt8) : canon 0 b = (0, b) := by unfold canon; simp
theorem canon_err {e : Int} (b : List UInt8) (h : e ≠ 0) : canon e b = (e, []) := by unfold canon; simp [h]

/-- A value, of a kind. -/
structure V where
  kind : Nat
  u : Nat
  n : Int
  b : List UInt8
  l : List Int

def encI (n : Int) : List UInt8 := encN (zz n)
def encR (b : List UInt8) : List UInt8 := encN b.length ++ b
def encIs (l : List Int) : List UInt8 := l.flatMap encI
def encL (l : List Int) : List UInt8 := encN l.length ++ encIs l
def encB (b : Bool) : List UInt8 := if b then [1] else [0]
def encV (v : V) : List UInt8 :=
  if v.kind = 0 then encN v.u else if v.kind = 1 then encI v.n else if v.kind = 2 then encB (decide (v.n = 1)) else if v.kind = 3 ∨ v.kind = 4 then encR v.b else encL v.l
def encVs (l : List V) : List UInt8 := l.flatMap encV

def rdV (k : Nat) (s : RS) : V × RS :=
  if k = 0 then (⟨k, (rdU s).1, 0, [], []⟩, (rdU s).2) else if k = 1 then (⟨k, 0, (rdI s).1, [], []⟩, (rdI s).2)
  else if k = 2 then (⟨k, 0, if (rdB s).1 then 1 else 0, [], []⟩, (rdB s).2) else if k = 3 ∨ k = 4 then (⟨k, 0, 0, (rdRaw s).1, []⟩, (rdRaw s).2)
  else (⟨k, 0, 0, [], (rdInts s).1⟩, (rdInts s).2)

def I64 (n : Int) : Prop := -9223372036854775808 ≤ n ∧ n ≤ 9223372036854775807

/-- A value that a reader may hand back. -/
structure VOk (v : V) : Prop where
  k : v.kind ≤ 5
  u : v.u < 2 ^ 64
  u0 : v.kind ≠ 0 → v.u = 0
  n : I64 v.n
  n0 : v.kind ≠ 1 → v.kind ≠ 2 → v.n = 0
  n2 : v.kind = 2 → v.n = 0 ∨ v.n = 1
  b : v.b.length < 2 ^ 40
  b0 : v.kind ≠ 3 → v.kind ≠ 4 → v.b = []
  l : ∀ x ∈ v.l, I64 x
  ll : v.l.length < 2 ^ 40
  l0 : v.kind ≠ 5 → v.l = []

theorem rdU_enc {n : Nat} (h : n < 2 ^ 64) (r : List UInt8) : rdU (0, encN n ++ r) = (n, (0, r)) := by
  unfold rdU
  have := rdN_enc n 0 0 r (by omega) (by omega) (by omega)
  simp [this]

theorem rdI_enc {n : Int} (h : I64 n) (r : List UInt8) : rdI (0, encI n ++ r) = (n, (0, r)) := by
  unfold rdI encI
  rw [rdU_enc (zz_lt h.1 h.2), unzz_zz]

theorem rdB_enc (b : Bool) (r : List UInt8) : rdB (0, encB b ++ r) = (b, (0, r)) := by
  cases b <;> simp [rdB, encB]

theorem rdRaw_enc {b : List UInt8} (h : b.length < 2 ^ 40) (r : List UInt8) : rdRaw (0, encR b ++ r) = (b, (0, r)) := by
  have e : rdLen (0, encR b ++ r) = (b.length, (0, b ++ r)) := by
    unfold rdLen encR
    rw [List.append_assoc, rdU_enc (by omega), if_neg (by simp)]
  unfold rdRaw
  rw [e]
  simp

theorem encI_pos (n : Int) : 1 ≤ (encI n).length := encN_pos _
theorem encIs_len : ∀ l : List Int, l.length ≤ (encIs l).length
  | [] => Nat.zero_le _
  | x :: l => by
    have := encIs_len l
    have := encI_pos x
    simp only [encIs, List.flatMap_cons, List.length_append, List.length_cons] at *
    omega

theorem rdL_enc : ∀ (l : List Int) (r : List UInt8), (∀ x ∈ l, I64 x) → rdL l.length (0, encIs l ++ r) = (l, (0, r))
  | [], r, _ => rfl
  | x :: l, r, h => by
    have e : encIs (x :: l) ++ r = encI x ++ (encIs l ++ r) := by simp [encIs]
    have e2 := rdI_enc (h x (by simp)) (encIs l ++ r)
    rw [List.length_cons, rdL, if_neg (by simp), e, e2, rdL_enc l r (fun y hy => h y (by simp [hy]))]

theorem rdInts_enc {l : List Int} (h : ∀ x ∈ l, I64 x) (hl : l.length < 2 ^ 40) (r : List UInt8) : rdInts (0, encL l ++ r) = (l, (0, r)) := by
  have e : rdLen (0, encL l ++ r) = (l.length, (0, encIs l ++ r)) := by
    unfold rdLen encL
    have := encIs_len l
    rw [List.append_assoc, rdU_enc (by omega), if_neg (by simp; omega)]
  unfold rdInts
  rw [e]
  simp only [rdL_enc l r h]
  simp

theorem rdV_enc {v : V} (h : VOk v) (r : List UInt8) : rdV v.kind (0, encV v ++ r) = (v, (0, r)) := by
  obtain ⟨k, u, n, b, l⟩ := v
  have hk := h.k
  have hu0 := h.u0; have hn0 := h.n0; have hb0 := h.b0; have hl0 := h.l0; have hn2 := h.n2
  simp only at hk hu0 hn0 hb0 hl0 hn2
  unfold rdV encV
  simp only
  by_cases k0 : k = 0
  · subst k0
    rw [if_pos rfl, if_pos rfl, rdU_enc h.u, hn0 (by omega) (by omega), hb0 (by omega) (by omega), hl0 (by omega)]
  rw [if_neg k0, if_neg k0]
  by_cases k1 : k = 1
  · subst k1
    rw [if_pos rfl, if_pos rfl, rdI_enc h.n, hu0 (by omega), hb0 (by omega) (by omega), hl0 (by omega)]
  rw [if_neg k1, if_neg k1]
  by_cases k2 : k = 2
  · subst k2
    rw [if_pos rfl, if_pos rfl, rdB_enc, hu0 (by omega), hb0 (by omega) (by omega), hl0 (by omega)]
    rcases hn2 rfl with rfl | rfl <;> simp
  rw [if_neg k2, if_neg k2]
  by_cases k3 : k = 3 ∨ k = 4
  · rw [if_pos k3, if_pos k3, rdRaw_enc h.b, hu0 (by omega), hn0 (by omega) (by omega), hl0 (by omega)]
  rw [if_neg k3, if_neg k3, rdInts_enc h.l h.ll, hu0 (by omega), hn0 (by omega) (by omega), hb0 (by omega) (by omega)]

/-- Values read one after the other. -/
def rdVs : List Nat → RS → List V × RS
  | [], s => ([], s)
  | k :: ks, s => ((rdV k s).1 :: (rdVs ks (rdV k s).2).1, (rdVs ks (rdV k s).2).2)

theorem rdVs_enc : ∀ (l : List V) (r : List UInt8), (∀ v ∈ l, VOk v) → rdVs (l.map (·.kind)) (0, encVs l ++ r) = (l, (0, r))
  | [], r, _ => rfl
  | v :: l, r, h => by
    have e : encVs (v :: l) ++ r = encV v ++ (encVs l ++ r) := by simp [encVs]
    rw [List.map_cons, rdVs, e, rdV_enc (h v (by simp)), rdVs_enc l r (fun y hy => h y (by simp [hy]))]
end Go.Proofs.Ytajmabnnaidhkaa
