/- The plain law of the coder: counts, ranges, digits. -/
import Derived.Test.YtgmooalikccbiaaFw30
import Derived.Test.YtgmooalikccbiaaTT
namespace Go.Proofs.Ytgmooalikccbiaa
open Go.Fw Go
set_option linter.unusedVariables false
set_option linter.unusedSimpArgs false

/-- The sum of the counts below a symbol. -/
def plc (c : Nat → Nat) : Nat → Nat
  | 0 => 0
  | k + 1 => plc c k + c k

theorem plc_congr {c d : Nat → Nat} : ∀ {n : Nat}, (∀ k, k < n → c k = d k) → plc c n = plc d n
  | 0, _ => rfl
  | n + 1, h => by
    unfold plc
    rw [plc_congr (n := n) (fun k hk => h k (by omega)), h n (by omega)]
theorem plc_le {c : Nat → Nat} {a b : Nat} (h : a ≤ b) : plc c a ≤ plc c b := by
  induction b with
  | zero => rw [Nat.le_zero.1 h]; exact Nat.le_refl _
  | succ b ih =>
    by_cases e : a = b + 1
    · rw [e]; exact Nat.le_refl _
    · have := ih (by omega)
      show plc c a ≤ plc c b + c b
      omega
theorem plc_one {c : Nat → Nat} {s n : Nat} (h : s < n) : plc c s + c s ≤ plc c n := plc_le (c := c) (a := s + 1) h
theorem plc_add {c : Nat → Nat} {s a : Nat} : ∀ {n : Nat}, plc (fun k => if k = s then c k + a else c k) n = plc c n + (if s < n then a else 0)
  | 0 => by simp [plc]
  | n + 1 => by
    unfold plc
    rw [plc_add (n := n)]
    by_cases h1 : n = s
    · subst h1; simp; omega
    · by_cases h2 : s < n
      · rw [if_pos h2, if_neg h1, if_pos (show s < n + 1 by omega)]; omega
      · rw [if_neg h2, if_neg h1, if_neg (show ¬ s < n + 1 by omega)]; omega
theorem plc_half {c : Nat → Nat} : ∀ {n : Nat}, 2 * plc (fun k => (c k + 1) / 2) n ≤ plc c n + n
  | 0 => by simp [plc]
  | n + 1 => by
    unfold plc
    have := plc_half (c := c) (n := n)
    omega

/-- What See makes of counts. -/
def upM (c : Nat → Nat) (s : Nat) : Nat → Nat := fun k => if k = s then c k + 32 else c k
def seeM (n : Nat) (c : Nat → Nat) (s : Nat) : Nat → Nat := if 32768 < plc (upM c s) n then fun k => (upM c s k + 1) / 2 else upM c s

structure MdOk (n : Nat) (c : Nat → Nat) : Prop where
  hn : n ≤ 1024
  pos : ∀ k, k < n → 1 ≤ c k
  sum : plc c n ≤ 32768
theorem MdOk.le {n : Nat} {c : Nat → Nat} (h : MdOk n c) {k : Nat} (hk : k < n) : c k ≤ 32768 := by
  have := plc_one (c := c) hk; have := h.sum; omega
theorem MdOk.tot {n : Nat} {c : Nat → Nat} (h : MdOk n c) {s : Nat} (hs : s < n) : 1 ≤ plc c n := by
  have := plc_one (c := c) hs; have := h.pos s hs; omega
theorem plc_ones : ∀ n, plc (fun _ => 1) n = n
  | 0 => rfl
  | n + 1 => by unfold plc; rw [plc_ones n]
theorem MdOk.new {n : Nat} (h : n ≤ 1024) : MdOk n fun _ => 1 := ⟨h, fun _ _ => Nat.le_refl _, by rw [plc_ones]; omega⟩
theorem MdOk.see {n : Nat} {c : Nat → Nat} (h : MdOk n c) {s : Nat} (hs : s < n) : MdOk n (seeM n c s) := by
  have hu : plc (upM c s) n = plc c n + 32 := by
    have := plc_add (c := c) (s := s) (a := 32) (n := n)
    rw [if_pos hs] at this
    exact this
  have hp : ∀ k, k < n → 1 ≤ upM c s k := fun k hk => by
    have := h.pos k hk
    unfold upM; split <;> omega
  have := h.sum; have := h.hn
  unfold seeM
  split
  · refine ⟨h.hn, fun k hk => ?_, ?_⟩
    · have := hp k hk
      show 1 ≤ (upM c s k + 1) / 2
      omega
    · have := plc_half (c := upM c s) (n := n)
      omega
  · exact ⟨h.hn, hp, by omega⟩

/-- A coder: the code as a number, the range, the bytes that are done. -/
structure Cs where
  V : Nat
  W : Nat
  L : Nat
structure CsOk (σ : Cs) : Prop where
  lo : 16777216 ≤ σ.W
  hi : σ.W ≤ 4294967296
  room : σ.V + σ.W ≤ 4294967296 * 256 ^ σ.L

def nrw (σ : Cs) (p c t : Nat) : Cs := ⟨σ.V + σ.W / t * p, σ.W / t * c, σ.L⟩
def shf : Nat → Cs → Cs
  | 0, σ => σ
  | f + 1, σ => if σ.W < 16777216 then shf f ⟨σ.V * 256, σ.W * 256, σ.L + 1⟩ else σ
def stp (σ : Cs) (p c t : Nat) : Cs := shf 3 (nrw σ p c t)
def cs0 : Cs := ⟨0, 4294967296, 0⟩
theorem cs0_ok : CsOk cs0 := ⟨by decide, by decide, by decide⟩

theorem shf_done {σ : Cs} (h : 16777216 ≤ σ.W) : ∀ f, shf f σ = σ
  | 0 => rfl
  | f + 1 => by unfold shf; rw [if_neg (by omega)]
theorem shf_ex : ∀ (f : Nat) (σ : Cs), 16777216 ≤ σ.W * 256 ^ f → σ.W ≤ 4294967296 → ∃ d, d ≤ f ∧ shf f σ = ⟨σ.V * 256 ^ d, σ.W * 256 ^ d, σ.L + d⟩ ∧ 16777216 ≤ σ.W * 256 ^ d ∧ σ.W * 256 ^ d ≤ 4294967296
  | 0, σ, h, h2 => ⟨0, Nat.le_refl _, by simp [shf], by simpa using h, by simpa using h2⟩
  | f + 1, σ, h, h2 => by
    unfold shf
    by_cases hw : σ.W < 16777216
    · rw [if_pos hw]
      obtain ⟨d, hd, he, h3, h4⟩ := shf_ex f ⟨σ.V * 256, σ.W * 256, σ.L + 1⟩ (by show _ ≤ σ.W * 256 * 256 ^ f; rw [Nat.mul_assoc, Nat.mul_comm 256, ← Nat.pow_succ]; exact h) (by show σ.W * 256 ≤ _; omega)
      have e : ∀ x : Nat, x * 256 * 256 ^ d = x * 256 ^ (d + 1) := fun x => by rw [Nat.mul_assoc, Nat.mul_comm 256, ← Nat.pow_succ]
      refine ⟨d + 1, by omega, ?_, ?_, ?_⟩
      · rw [he]
        show Cs.mk (σ.V * 256 * 256 ^ d) (σ.W * 256 * 256 ^ d) (σ.L + 1 + d) = _
        rw [e, e, show σ.L + 1 + d = σ.L + (d + 1) by omega]
      · rw [← e]; exact h3
      · rw [← e]; exact h4
    · rw [if_neg hw]
      exact ⟨0, by omega, by simp, by simp; omega, by simpa using h2⟩

/-- What holds of a step. -/
structure StOk (p c t : Nat) : Prop where
  c1 : 1 ≤ c
  pc : p + c ≤ t
  t1 : t ≤ 32768

theorem nrw_r {σ : Cs} (h : CsOk σ) {t : Nat} (h1 : 1 ≤ t) (h2 : t ≤ 32768) : 512 ≤ σ.W / t ∧ σ.W / t * t ≤ σ.W ∧ σ.W / t ≤ 4294967296 := by
  refine ⟨?_, Nat.div_mul_le_self _ _, Nat.le_trans (Nat.div_le_self _ _) h.hi⟩
  rw [Nat.le_div_iff_mul_le (by omega)]
  have := h.lo; omega
theorem nrw_ok {σ : Cs} (h : CsOk σ) {p c t : Nat} (hs : StOk p c t) : 512 ≤ (nrw σ p c t).W ∧ (nrw σ p c t).W ≤ σ.W ∧ (nrw σ p c t).V + (nrw σ p c t).W ≤ σ.V + σ.W ∧ σ.W / t * p ≤ σ.W := by
  obtain ⟨h1, h2, h3⟩ := nrw_r h (t := t) (by have := hs.c1; have := hs.pc; omega) hs.t1
  have a1 : σ.W / t * p + σ.W / t * c ≤ σ.W / t * t := by rw [← Nat.mul_add]; exact Nat.mul_le_mul_left _ hs.pc
  have a2 : σ.W / t ≤ σ.W / t * c := Nat.le_mul_of_pos_right _ hs.c1
  show 512 ≤ σ.W / t * c ∧ σ.W / t * c ≤ σ.W ∧ σ.V + σ.W / t * p + σ.W / t * c ≤ _ ∧ _
  omega
theorem stp_ex {σ : Cs} (h : CsOk σ) {p c t : Nat} (hs : StOk p c t) : ∃ d, d ≤ 2 ∧ stp σ p c t = ⟨(σ.V + σ.W / t * p) * 256 ^ d, σ.W / t * c * 256 ^ d, σ.L + d⟩ ∧ CsOk (stp σ p c t) := by
  obtain ⟨h1, h2, h3, h4⟩ := nrw_ok h hs
  obtain ⟨d, hd, he, h5, h6⟩ := shf_ex 3 (nrw σ p c t) (by have : (256 : Nat) ^ 3 = 16777216 := by decide
                                                           rw [this]; omega) (by have := h.hi; omega)
  have hr := h.room
  have hd2 : d ≤ 2 := by
    by_cases e : d = 3
    · subst e
      have : (256 : Nat) ^ 3 = 16777216 := by decide
      rw [this] at h6
      omega
    · omega
  refine ⟨d, hd2, he, ?_⟩
  unfold stp
  rw [he]
  refine ⟨h5, h6, ?_⟩
  show (nrw σ p c t).V * 256 ^ d + (nrw σ p c t).W * 256 ^ d ≤ 4294967296 * 256 ^ (σ.L + d)
  rw [← Nat.add_mul, Nat.pow_add, ← Nat.mul_assoc]
  exact Nat.mul_le_mul_right _ (by omega)
theorem stp_ok {σ : Cs} (h : CsOk σ) {p c t : Nat} (hs : StOk p c t) : CsOk (stp σ p c t) := let ⟨_, _, _, h⟩ := stp_ex h hs; h

/-- Digits of 256, the most significant one first. -/
def dig : Nat → Nat → List UInt8
  | 0, _ => []
  | L + 1, x => dig L (x / 256) ++ [UInt8.ofNat (x % 256)]
@[simp] theorem dig_len : ∀ (L x : Nat), (dig L x).length = L
  | 0, _ => rfl
  | L + 1, x => by simp [dig, dig_len L]
theorem dig_snoc (L x b : Nat) (h : b < 256) : dig (L + 1) (x * 256 + b) = dig L x ++ [UInt8.ofNat b] := by
  show dig L ((x * 256 + b) / 256) ++ [UInt8.ofNat ((x * 256 + b) % 256)] = _
  rw [show (x * 256 + b) / 256 = x by omega, show (x * 256 + b) % 256 = b by omega]
theorem dig_snoc0 (L x : Nat) : dig (L + 1) (x * 256) = dig L x ++ [0] := by
  show dig L (x * 256 / 256) ++ [UInt8.ofNat (x * 256 % 256)] = _
  rw [Nat.mul_div_cancel _ (by decide), Nat.mul_mod_left]
  rfl
theorem dig_zeros (L x : Nat) : ∀ k, dig (L + k) (x * 256 ^ k) = dig L x ++ List.replicate k 0
  | 0 => by simp
  | k + 1 => by
    rw [← Nat.add_assoc, Nat.pow_succ, ← Nat.mul_assoc]
    rw [dig_snoc0, dig_zeros L x k, List.append_assoc, List.replicate_succ']
theorem dig_getD : ∀ (L x j : Nat), j < L → (dig L x).getD j 0 = UInt8.ofNat (x / 256 ^ (L - 1 - j) % 256)
  | 0, _, _, h => by omega
  | L + 1, x, j, h => by
    unfold dig
    by_cases e : j = L
    · subst e
      rw [List.getD_eq_getElem?_getD, List.getElem?_append_right (by simp)]
      simp
    · rw [List.getD_eq_getElem?_getD, List.getElem?_append_left (by simp; omega), ← List.getD_eq_getElem?_getD, dig_getD L (x / 256) j (by omega), Nat.div_div_eq_div_mul, ← Nat.pow_succ', show L + 1 - 1 - j = (L - 1 - j) + 1 by omega]

/-- The first bytes as a number; behind the bytes are zeros. -/
def bv (b : List UInt8) : Nat → Nat
  | 0 => 0
  | j + 1 => bv b j * 256 + (b.getD j 0).toNat
theorem bv_dig {L x : Nat} (h : x < 256 ^ L) : ∀ j, j ≤ L → bv (dig L x) j = x / 256 ^ (L - j)
  | 0, _ => by rw [Nat.sub_zero, Nat.div_eq_of_lt h]; rfl
  | j + 1, hj => by
    unfold bv
    rw [bv_dig h j (by omega), dig_getD L x j (by omega)]
    have e : L - j = (L - (j + 1)) + 1 := by omega
    rw [e, Nat.pow_succ, ← Nat.div_div_eq_div_mul, show L - 1 - j = L - (j + 1) by omega]
    generalize x / 256 ^ (L - (j + 1)) = y
    have : (UInt8.ofNat (y % 256)).toNat = y % 256 := by simp
    rw [this]; omega
theorem bv_lt (b : List UInt8) : ∀ j, bv b j < 256 ^ j
  | 0 => Nat.one_pos
  | j + 1 => by
    unfold bv
    have := bv_lt b j
    have h2 : (b.getD j 0).toNat < 256 := (b.getD j 0).toNat_lt
    rw [Nat.pow_succ]; omega
theorem bv_congr {a b : List UInt8} : ∀ j, (∀ i, i < j → a.getD i 0 = b.getD i 0) → bv a j = bv b j
  | 0, _ => rfl
  | j + 1, h => by unfold bv; rw [bv_congr j (fun i hi => h i (by omega)), h j (by omega)]

/-- How many bytes are left without the zeros at the end. -/
def trimN (bs : List UInt8) : Nat → Nat
  | 0 => 0
  | n + 1 => if bs.getD n 0 = 0 then trimN bs n else n + 1
theorem trimN_le (bs : List UInt8) : ∀ n, trimN bs n ≤ n
  | 0 => Nat.le_refl _
  | n + 1 => by
    unfold trimN
    split
    · have := trimN_le bs n; omega
    · exact Nat.le_refl _
theorem trimN_zero (bs : List UInt8) : ∀ n i, trimN bs n ≤ i → i < n → bs.getD i 0 = 0
  | 0, _, _, h => by omega
  | n + 1, i, h1, h2 => by
    unfold trimN at h1
    split at h1
    · rename_i h
      by_cases e : i = n
      · rw [e]; exact h
      · exact trimN_zero bs n i h1 (by omega)
    · omega
theorem trimN_last (bs : List UInt8) : ∀ n, 0 < trimN bs n → bs.getD (trimN bs n - 1) 0 ≠ 0
  | 0, h => by cases h
  | n + 1, h => by
    unfold trimN at h ⊢
    split
    · rename_i e
      rw [if_pos e] at h
      exact trimN_last bs n h
    · rename_i e
      simpa using e

def trim (bs : List UInt8) : List UInt8 := bs.take (trimN bs bs.length)
theorem trim_getD (bs : List UInt8) (i : Nat) : (trim bs).getD i 0 = bs.getD i 0 := by
  unfold trim
  rw [List.getD_eq_getElem?_getD, List.getElem?_take]
  by_cases h : i < trimN bs bs.length
  · rw [if_pos h, ← List.getD_eq_getElem?_getD]
  · rw [if_neg h]
    by_cases h2 : i < bs.length
    · exact (trimN_zero bs bs.length i (by omega) h2).symm
    · rw [List.getD_eq_getElem?_getD, List.getElem?_eq_none (by omega)]
def codeS (σ : Cs) : List UInt8 := trim (dig (σ.L + 4) σ.V)
theorem bv_code {σ : Cs} (h : CsOk σ) {j : Nat} (hj : j ≤ σ.L + 4) : bv (codeS σ) j = σ.V / 256 ^ (σ.L + 4 - j) := by
  have hr := h.room; have hl := h.lo
  rw [← bv_dig (L := σ.L + 4) (x := σ.V) (by rw [Nat.pow_add, show (256 : Nat) ^ 4 = 4294967296 by decide]; omega) j hj]
  exact bv_congr j fun i _ => trim_getD _ _

/-- Models and a coder. -/
structure Es where
  M : Nat → Nat → Nat
  σ : Cs
def es0 : Es := ⟨fun _ _ => 1, cs0⟩
structure EsOk (n : Nat) (E : Es) : Prop where
  md : ∀ k, MdOk n (E.M k)
  cs : CsOk E.σ
theorem es0_ok {n : Nat} (h : n ≤ 1024) : EsOk n es0 := ⟨fun _ => MdOk.new h, cs0_ok⟩
def symE (n : Nat) (E : Es) (k s : Nat) : Es := ⟨fun j => if j = k then seeM n (E.M k) s else E.M j, stp E.σ (plc (E.M k) s) (E.M k s) (plc (E.M k) n)⟩
theorem EsOk.st {n : Nat} {E : Es} (h : EsOk n E) (k : Nat) {s : Nat} (hs : s < n) : StOk (plc (E.M k) s) (E.M k s) (plc (E.M k) n) :=
  ⟨(h.md k).pos s hs, plc_one hs, (h.md k).sum⟩
theorem EsOk.sym {n : Nat} {E : Es} (h : EsOk n E) (k : Nat) {s : Nat} (hs : s < n) : EsOk n (symE n E k s) := by
  refine ⟨fun j => ?_, stp_ok h.cs (h.st k hs)⟩
  show MdOk n (if j = k then seeM n (E.M k) s else E.M j)
  split
  · exact (h.md k).see hs
  · exact h.md j

/-- The code with which a coder ends lies in the range of an earlier one. -/
structure Lies (σ τ : Cs) : Prop where
  len : σ.L ≤ τ.L
  lo : σ.V * 256 ^ (τ.L - σ.L) ≤ τ.V
  hi : τ.V < (σ.V + σ.W) * 256 ^ (τ.L - σ.L)
theorem Lies.refl {σ : Cs} (h : CsOk σ) : Lies σ σ := ⟨Nat.le_refl _, by simp, by have := h.lo; simp; omega⟩
theorem Lies.step {σ τ : Cs} (h : CsOk σ) {p c t : Nat} (hs : StOk p c t) (hl : Lies (stp σ p c t) τ) :
    Lies σ τ ∧ (σ.V + σ.W / t * p) * 256 ^ (τ.L - σ.L) ≤ τ.V ∧ τ.V < (σ.V + σ.W / t * p + σ.W / t * c) * 256 ^ (τ.L - σ.L) := by
  obtain ⟨d, hd, he, _⟩ := stp_ex h hs
  obtain ⟨_, _, h3, _⟩ := nrw_ok h hs
  have h3 : σ.V + σ.W / t * p + σ.W / t * c ≤ σ.V + σ.W := h3
  obtain ⟨l1, l2, l3⟩ := hl
  rw [he] at l1 l2 l3
  have l1 : σ.L + d ≤ τ.L := l1
  have l2 : (σ.V + σ.W / t * p) * 256 ^ d * 256 ^ (τ.L - (σ.L + d)) ≤ τ.V := l2
  have l3 : τ.V < ((σ.V + σ.W / t * p) * 256 ^ d + σ.W / t * c * 256 ^ d) * 256 ^ (τ.L - (σ.L + d)) := l3
  have e : 256 ^ d * 256 ^ (τ.L - (σ.L + d)) = 256 ^ (τ.L - σ.L) := by rw [← Nat.pow_add]; congr 1; omega
  rw [Nat.mul_assoc, e] at l2
  rw [← Nat.add_mul, Nat.mul_assoc, e] at l3
  refine ⟨⟨by omega, Nat.le_trans (Nat.mul_le_mul_right _ (by omega)) l2, Nat.lt_of_lt_of_le l3 (Nat.mul_le_mul_right _ h3)⟩, l2, l3⟩

/-- How far the code is behind the beginning of the range. -/
def k_lowR (b : List UInt8) (σ : Cs) : Nat := bv b (σ.L + 4) - σ.V
theorem Lies.low {σ τ : Cs} (ht : CsOk τ) (hl : Lies σ τ) : σ.V ≤ bv (codeS τ) (σ.L + 4) ∧ bv (codeS τ) (σ.L + 4) = τ.V / 256 ^ (τ.L - σ.L) := by
  have h1 := hl.len
  rw [bv_code ht (by omega), show τ.L + 4 - (σ.L + 4) = τ.L - σ.L by omega]
  exact ⟨(Nat.le_div_iff_mul_le (Nat.pow_pos (by decide))).2 hl.lo, rfl⟩
/-- A step is read as it was written. -/
theorem Lies.at {σ τ : Cs} (h : CsOk σ) (ht : CsOk τ) {p c t : Nat} (hs : StOk p c t) (hl : Lies (stp σ p c t) τ) :
    p ≤ k_lowR (codeS τ) σ / (σ.W / t) ∧ k_lowR (codeS τ) σ / (σ.W / t) < p + c := by
  obtain ⟨h1, h2, h3⟩ := Lies.step h hs hl
  obtain ⟨h4, h5⟩ := Lies.low ht h1
  obtain ⟨r1, _, _⟩ := nrw_r h (t := t) (by have := hs.c1; have := hs.pc; omega) hs.t1
  have hp : 0 < 256 ^ (τ.L - σ.L) := Nat.pow_pos (by decide)
  have h2 := (Nat.le_div_iff_mul_le hp).2 h2
  have h3 := (Nat.div_lt_iff_lt_mul hp).2 h3
  unfold k_lowR
  rw [h5]
  generalize τ.V / 256 ^ (τ.L - σ.L) = x at *
  constructor
  · rw [Nat.le_div_iff_mul_le (by omega), Nat.mul_comm]; omega
  · rw [Nat.div_lt_iff_lt_mul (by omega), Nat.mul_comm, Nat.mul_add]; omega
end Go.Proofs.Ytgmooalikccbiaa
