/- For the law CoderModels, part 3 of 7: the frame of the walk, the walks of the functions, the plain law, the row. No conditions. -/
import Derived.Test.YtgmooalikccbiaaCoderModelsM2
import Derived.Test.YtgmooalikccbiaaProg
import Derived.KernelRfl
/- The types that the walks over this translation meet: a table, and that it tells of them what the translation tells. -/
namespace Go.Proofs.Ytgmooalikccbiaa
open Go.Fw
def tt : TT := [
  (3, ⟨.int .i64, 1, false, [.int .i64 0]⟩),
  (22, ⟨.slice 3 1 8 [.int .i64 0], 1, false, [.nils]⟩),
  (90, ⟨.struct [(0, 1, false), (1, 1, false)], 2, true, [.bool false, .nils]⟩),
  (78, ⟨.int .u64, 1, false, [.int .u64 0]⟩),
  (29, ⟨.slice 5 1 1 [.int .u8 0], 1, false, [.nils]⟩),
  (30, ⟨.int .i64, 1, false, [.int .i64 0]⟩),
  (4, ⟨.bool, 1, false, [.bool false]⟩),
  (27, ⟨.slice 22 1 24 [.nils], 1, false, [.nils]⟩),
  (98, ⟨.struct [(0, 1, false), (1, 1, false)], 2, true, [.int .u64 0, .int .u64 0]⟩),
  (5, ⟨.int .u8, 1, false, [.int .u8 0]⟩),
  (100, ⟨.struct [(0, 2, true), (2, 1, false)], 3, true, [.int .u64 0, .int .u64 0, .nils]⟩),
  (94, ⟨.struct [(0, 1, false), (1, 1, false)], 2, true, [.nils, .int .i64 0]⟩),
  (49, ⟨.ptr 94, 1, false, [.nilp]⟩),
  (109, ⟨.struct [(0, 2, true), (2, 1, false)], 3, true, [.int .u64 0, .int .u64 0, .nilf]⟩),
  (57, ⟨.struct [(0, 1, false)], 1, true, [.nils]⟩),
  (102, ⟨.struct [(0, 2, true), (2, 1, false), (3, 1, false)], 4, true, [.bool false, .nils, .int .i64 0, .int .i64 0]⟩),
  (28, ⟨.slice 27 1 24 [.nils], 1, false, [.nils]⟩),
  (44, ⟨.slice 29 1 24 [.nils], 1, false, [.nils]⟩),
  (87, ⟨.int .u64, 1, false, [.int .u64 0]⟩),
  (123, ⟨.int .u32, 1, false, [.int .u32 0]⟩),
  (52, ⟨.ptr 57, 1, false, [.nilp]⟩),
  (66, ⟨.slice 49 1 8 [.nilp], 1, false, [.nils]⟩),
  (61, ⟨.func, 1, false, [.nilf]⟩),
  (69, ⟨.ptr 100, 1, false, [.nilp]⟩),
  (75, ⟨.ptr 102, 1, false, [.nilp]⟩),
  (82, ⟨.ptr 109, 1, false, [.nilp]⟩),
  (73, ⟨.slice 52 1 8 [.nilp], 1, false, [.nils]⟩),
  (107, ⟨.func, 1, false, [.nilf]⟩),
  (9, ⟨.str, 1, false, [.str []]⟩)]
set_option maxRecDepth 100000 in
theorem tt_ok : TT.ok Try.prog tt = true := by kernel_rfl
theorem mo : Try.prog.follows .mixedOrders = true := by kernel_rfl
theorem dok (N : Nat) : DrawOk Try.prog tt N := drawOk_of tt_ok (by kernel_rfl) N
end Go.Proofs.Ytgmooalikccbiaa
/- The plain law of the coder: counts, ranges, digits. -/
namespace Go.Proofs.Ytgmooalikccbiaa
open Go.Fw Go
set_option linter.unusedVariables false
set_option linter.unusedSimpArgs false

/-- The sum of the counts below a symbol. -/
def plc (c : Nat → Nat) : Nat → Nat
  | 0 => 0
  | k + 1 => plc c k + c k

theorem plc_congr {c d : Nat → Nat} : ∀ {n : Nat}, (∀ k, k < n → c k = d k) → plc c n = plc d n
  | 0, _ => rfl
  | n + 1, h => by
    unfold plc
    rw [plc_congr (n := n) (fun k hk => h k (by omega)), h n (by omega)]
theorem plc_le {c : Nat → Nat} {a b : Nat} (h : a ≤ b) : plc c a ≤ plc c b := by
  induction b with
  | zero => rw [Nat.le_zero.1 h]; exact Nat.le_refl _
  | succ b ih =>
    by_cases e : a = b + 1
    · rw [e]; exact Nat.le_refl _
    · have := ih (by omega)
      show plc c a ≤ plc c b + c b
      omega
theorem plc_one {c : Nat → Nat} {s n : Nat} (h : s < n) : plc c s + c s ≤ plc c n := plc_le (c := c) (a := s + 1) h
theorem plc_add {c : Nat → Nat} {s a : Nat} : ∀ {n : Nat}, plc (fun k => if k = s then c k + a else c k) n = plc c n + (if s < n then a else 0)
  | 0 => by simp [plc]
  | n + 1 => by
    unfold plc
    rw [plc_add (n := n)]
    by_cases h1 : n = s
    · subst h1; simp; omega
    · by_cases h2 : s < n
      · rw [if_pos h2, if_neg h1, if_pos (show s < n + 1 by omega)]; omega
      · rw [if_neg h2, if_neg h1, if_neg (show ¬ s < n + 1 by omega)]; omega
theorem plc_half {c : Nat → Nat} : ∀ {n : Nat}, 2 * plc (fun k => (c k + 1) / 2) n ≤ plc c n + n
  | 0 => by simp [plc]
  | n + 1 => by
    unfold plc
    have := plc_half (c := c) (n := n)
    omega

/-- What See makes of counts. -/
def upM (c : Nat → Nat) (s : Nat) : Nat → Nat := fun k => if k = s then c k + 32 else c k
def seeM (n : Nat) (c : Nat → Nat) (s : Nat) : Nat → Nat := if 32768 < plc (upM c s) n then fun k => (upM c s k + 1) / 2 else upM c s

structure MdOk (n : Nat) (c : Nat → Nat) : Prop where
  hn : n ≤ 1024
  pos : ∀ k, k < n → 1 ≤ c k
  sum : plc c n ≤ 32768
theorem MdOk.le {n : Nat} {c : Nat → Nat} (h : MdOk n c) {k : Nat} (hk : k < n) : c k ≤ 32768 := by
  have := plc_one (c := c) hk; have := h.sum; omega
theorem MdOk.tot {n : Nat} {c : Nat → Nat} (h : MdOk n c) {s : Nat} (hs : s < n) : 1 ≤ plc c n := by
  have := plc_one (c := c) hs; have := h.pos s hs; omega
theorem plc_ones : ∀ n, plc (fun _ => 1) n = n
  | 0 => rfl
  | n + 1 => by unfold plc; rw [plc_ones n]
theorem MdOk.new {n : Nat} (h : n ≤ 1024) : MdOk n fun _ => 1 := ⟨h, fun _ _ => Nat.le_refl _, by rw [plc_ones]; omega⟩
theorem MdOk.see {n : Nat} {c : Nat → Nat} (h : MdOk n c) {s : Nat} (hs : s < n) : MdOk n (seeM n c s) := by
  have hu : plc (upM c s) n = plc c n + 32 := by
    have := plc_add (c := c) (s := s) (a := 32) (n := n)
    rw [if_pos hs] at this
    exact this
  have hp : ∀ k, k < n → 1 ≤ upM c s k := fun k hk => by
    have := h.pos k hk
    unfold upM; split <;> omega
  have := h.sum; have := h.hn
  unfold seeM
  split
  · refine ⟨h.hn, fun k hk => ?_, ?_⟩
    · have := hp k hk
      show 1 ≤ (upM c s k + 1) / 2
      omega
    · have := plc_half (c := upM c s) (n := n)
      omega
  · exact ⟨h.hn, hp, by omega⟩

/-- A coder: the code as a number, the range, the bytes that are done. -/
structure Cs where
  V : Nat
  W : Nat
  L : Nat
structure CsOk (σ : Cs) : Prop where
  lo : 16777216 ≤ σ.W
  hi : σ.W ≤ 4294967296
  room : σ.V + σ.W ≤ 4294967296 * 256 ^ σ.L

def nrw (σ : Cs) (p c t : Nat) : Cs := ⟨σ.V + σ.W / t * p, σ.W / t * c, σ.L⟩
def shf : Nat → Cs → Cs
  | 0, σ => σ
  | f + 1, σ => if σ.W < 16777216 then shf f ⟨σ.V * 256, σ.W * 256, σ.L + 1⟩ else σ
def stp (σ : Cs) (p c t : Nat) : Cs := shf 3 (nrw σ p c t)
def cs0 : Cs := ⟨0, 4294967296, 0⟩
theorem cs0_ok : CsOk cs0 := ⟨by decide, by decide, by decide⟩

theorem shf_done {σ : Cs} (h : 16777216 ≤ σ.W) : ∀ f, shf f σ = σ
  | 0 => rfl
  | f + 1 => by unfold shf; rw [if_neg (by omega)]
theorem shf_ex : ∀ (f : Nat) (σ : Cs), 16777216 ≤ σ.W * 256 ^ f → σ.W ≤ 4294967296 → ∃ d, d ≤ f ∧ shf f σ = ⟨σ.V * 256 ^ d, σ.W * 256 ^ d, σ.L + d⟩ ∧ 16777216 ≤ σ.W * 256 ^ d ∧ σ.W * 256 ^ d ≤ 4294967296
  | 0, σ, h, h2 => ⟨0, Nat.le_refl _, by simp [shf], by simpa using h, by simpa using h2⟩
  | f + 1, σ, h, h2 => by
    unfold shf
    by_cases hw : σ.W < 16777216
    · rw [if_pos hw]
      obtain ⟨d, hd, he, h3, h4⟩ := shf_ex f ⟨σ.V * 256, σ.W * 256, σ.L + 1⟩ (by show _ ≤ σ.W * 256 * 256 ^ f; rw [Nat.mul_assoc, Nat.mul_comm 256, ← Nat.pow_succ]; exact h) (by show σ.W * 256 ≤ _; omega)
      have e : ∀ x : Nat, x * 256 * 256 ^ d = x * 256 ^ (d + 1) := fun x => by rw [Nat.mul_assoc, Nat.mul_comm 256, ← Nat.pow_succ]
      refine ⟨d + 1, by omega, ?_, ?_, ?_⟩
      · rw [he]
        show Cs.mk (σ.V * 256 * 256 ^ d) (σ.W * 256 * 256 ^ d) (σ.L + 1 + d) = _
        rw [e, e, show σ.L + 1 + d = σ.L + (d + 1) by omega]
      · rw [← e]; exact h3
      · rw [← e]; exact h4
    · rw [if_neg hw]
      exact ⟨0, by omega, by simp, by simp; omega, by simpa using h2⟩

/-- What holds of a step. -/
structure StOk (p c t : Nat) : Prop where
  c1 : 1 ≤ c
  pc : p + c ≤ t
  t1 : t ≤ 32768

theorem nrw_r {σ : Cs} (h : CsOk σ) {t : Nat} (h1 : 1 ≤ t) (h2 : t ≤ 32768) : 512 ≤ σ.W / t ∧ σ.W / t * t ≤ σ.W ∧ σ.W / t ≤ 4294967296 := by
  refine ⟨?_, Nat.div_mul_le_self _ _, Nat.le_trans (Nat.div_le_self _ _) h.hi⟩
  rw [Nat.le_div_iff_mul_le (by omega)]
  have := h.lo; omega
theorem nrw_ok {σ : Cs} (h : CsOk σ) {p c t : Nat} (hs : StOk p c t) : 512 ≤ (nrw σ p c t).W ∧ (nrw σ p c t).W ≤ σ.W ∧ (nrw σ p c t).V + (nrw σ p c t).W ≤ σ.V + σ.W ∧ σ.W / t * p ≤ σ.W := by
  obtain ⟨h1, h2, h3⟩ := nrw_r h (t := t) (by have := hs.c1; have := hs.pc; omega) hs.t1
  have a1 : σ.W / t * p + σ.W / t * c ≤ σ.W / t * t := by rw [← Nat.mul_add]; exact Nat.mul_le_mul_left _ hs.pc
  have a2 : σ.W / t ≤ σ.W / t * c := Nat.le_mul_of_pos_right _ hs.c1
  show 512 ≤ σ.W / t * c ∧ σ.W / t * c ≤ σ.W ∧ σ.V + σ.W / t * p + σ.W / t * c ≤ _ ∧ _
  omega
theorem stp_ex {σ : Cs} (h : CsOk σ) {p c t : Nat} (hs : StOk p c t) : ∃ d, d ≤ 2 ∧ stp σ p c t = ⟨(σ.V + σ.W / t * p) * 256 ^ d, σ.W / t * c * 256 ^ d, σ.L + d⟩ ∧ CsOk (stp σ p c t) := by
  obtain ⟨h1, h2, h3, h4⟩ := nrw_ok h hs
  obtain ⟨d, hd, he, h5, h6⟩ := shf_ex 3 (nrw σ p c t) (by have : (256 : Nat) ^ 3 = 16777216 := by decide
                                                           rw [this]; omega) (by have := h.hi; omega)
  have hr := h.room
  have hd2 : d ≤ 2 := by
    by_cases e : d = 3
    · subst e
      have : (256 : Nat) ^ 3 = 16777216 := by decide
      rw [this] at h6
      omega
    · omega
  refine ⟨d, hd2, he, ?_⟩
  unfold stp
  rw [he]
  refine ⟨h5, h6, ?_⟩
  show (nrw σ p c t).V * 256 ^ d + (nrw σ p c t).W * 256 ^ d ≤ 4294967296 * 256 ^ (σ.L + d)
  rw [← Nat.add_mul, Nat.pow_add, ← Nat.mul_assoc]
  exact Nat.mul_le_mul_right _ (by omega)
theorem stp_ok {σ : Cs} (h : CsOk σ) {p c t : Nat} (hs : StOk p c t) : CsOk (stp σ p c t) := let ⟨_, _, _, h⟩ := stp_ex h hs; h

/-- Digits of 256, the most significant one first. -/
def dig : Nat → Nat → List UInt8
  | 0, _ => []
  | L + 1, x => dig L (x / 256) ++ [UInt8.ofNat (x % 256)]
@[simp] theorem dig_len : ∀ (L x : Nat), (dig L x).length = L
  | 0, _ => rfl
  | L + 1, x => by simp [dig, dig_len L]
theorem dig_snoc (L x b : Nat) (h : b < 256) : dig (L + 1) (x * 256 + b) = dig L x ++ [UInt8.ofNat b] := by
  show dig L ((x * 256 + b) / 256) ++ [UInt8.ofNat ((x * 256 + b) % 256)] = _
  rw [show (x * 256 + b) / 256 = x by omega, show (x * 256 + b) % 256 = b by omega]
theorem dig_snoc0 (L x : Nat) : dig (L + 1) (x * 256) = dig L x ++ [0] := by
  show dig L (x * 256 / 256) ++ [UInt8.ofNat (x * 256 % 256)] = _
  rw [Nat.mul_div_cancel _ (by decide), Nat.mul_mod_left]
  rfl
theorem dig_zeros (L x : Nat) : ∀ k, dig (L + k) (x * 256 ^ k) = dig L x ++ List.replicate k 0
  | 0 => by simp
  | k + 1 => by
    rw [← Nat.add_assoc, Nat.pow_succ, ← Nat.mul_assoc]
    rw [dig_snoc0, dig_zeros L x k, List.append_assoc, List.replicate_succ']
theorem dig_getD : ∀ (L x j : Nat), j < L → (dig L x).getD j 0 = UInt8.ofNat (x / 256 ^ (L - 1 - j) % 256)
  | 0, _, _, h => by omega
  | L + 1, x, j, h => by
    unfold dig
    by_cases e : j = L
    · subst e
      rw [List.getD_eq_getElem?_getD, List.getElem?_append_right (by simp)]
      simp
    · rw [List.getD_eq_getElem?_getD, List.getElem?_append_left (by simp; omega), ← List.getD_eq_getElem?_getD, dig_getD L (x / 256) j (by omega), Nat.div_div_eq_div_mul, ← Nat.pow_succ', show L + 1 - 1 - j = (L - 1 - j) + 1 by omega]

/-- The first bytes as a number; behind the bytes are zeros. -/
def bv (b : List UInt8) : Nat → Nat
  | 0 => 0
  | j + 1 => bv b j * 256 + (b.getD j 0).toNat
theorem bv_dig {L x : Nat} (h : x < 256 ^ L) : ∀ j, j ≤ L → bv (dig L x) j = x / 256 ^ (L - j)
  | 0, _ => by rw [Nat.sub_zero, Nat.div_eq_of_lt h]; rfl
  | j + 1, hj => by
    unfold bv
    rw [bv_dig h j (by omega), dig_getD L x j (by omega)]
    have e : L - j = (L - (j + 1)) + 1 := by omega
    rw [e, Nat.pow_succ, ← Nat.div_div_eq_div_mul, show L - 1 - j = L - (j + 1) by omega]
    generalize x / 256 ^ (L - (j + 1)) = y
    have : (UInt8.ofNat (y % 256)).toNat = y % 256 := by simp
    rw [this]; omega
theorem bv_lt (b : List UInt8) : ∀ j, bv b j < 256 ^ j
  | 0 => Nat.one_pos
  | j + 1 => by
    unfold bv
    have := bv_lt b j
    have h2 : (b.getD j 0).toNat < 256 := (b.getD j 0).toNat_lt
    rw [Nat.pow_succ]; omega
theorem bv_congr {a b : List UInt8} : ∀ j, (∀ i, i < j → a.getD i 0 = b.getD i 0) → bv a j = bv b j
  | 0, _ => rfl
  | j + 1, h => by unfold bv; rw [bv_congr j (fun i hi => h i (by omega)), h j (by omega)]

/-- How many bytes are left without the zeros at the end. -/
def trimN (bs : List UInt8) : Nat → Nat
  | 0 => 0
  | n + 1 => if bs.getD n 0 = 0 then trimN bs n else n + 1
theorem trimN_le (bs : List UInt8) : ∀ n, trimN bs n ≤ n
  | 0 => Nat.le_refl _
  | n + 1 => by
    unfold trimN
    split
    · have := trimN_le bs n; omega
    · exact Nat.le_refl _
theorem trimN_zero (bs : List UInt8) : ∀ n i, trimN bs n ≤ i → i < n → bs.getD i 0 = 0
  | 0, _, _, h => by omega
  | n + 1, i, h1, h2 => by
    unfold trimN at h1
    split at h1
    · rename_i h
      by_cases e : i = n
      · rw [e]; exact h
      · exact trimN_zero bs n i h1 (by omega)
    · omega
theorem trimN_last (bs : List UInt8) : ∀ n, 0 < trimN bs n → bs.getD (trimN bs n - 1) 0 ≠ 0
  | 0, h => by cases h
  | n + 1, h => by
    unfold trimN at h ⊢
    split
    · rename_i e
      rw [if_pos e] at h
      exact trimN_last bs n h
    · rename_i e
      simpa using e

def trim (bs : List UInt8) : List UInt8 := bs.take (trimN bs bs.length)
theorem trim_getD (bs : List UInt8) (i : Nat) : (trim bs).getD i 0 = bs.getD i 0 := by
  unfold trim
  rw [List.getD_eq_getElem?_getD, List.getElem?_take]
  by_cases h : i < trimN bs bs.length
  · rw [if_pos h, ← List.getD_eq_getElem?_getD]
  · rw [if_neg h]
    by_cases h2 : i < bs.length
    · exact (trimN_zero bs bs.length i (by omega) h2).symm
    · rw [List.getD_eq_getElem?_getD, List.getElem?_eq_none (by omega)]
def codeS (σ : Cs) : List UInt8 := trim (dig (σ.L + 4) σ.V)
theorem bv_code {σ : Cs} (h : CsOk σ) {j : Nat} (hj : j ≤ σ.L + 4) : bv (codeS σ) j = σ.V / 256 ^ (σ.L + 4 - j) := by
  have hr := h.room; have hl := h.lo
  rw [← bv_dig (L := σ.L + 4) (x := σ.V) (by rw [Nat.pow_add, show (256 : Nat) ^ 4 = 4294967296 by decide]; omega) j hj]
  exact bv_congr j fun i _ => trim_getD _ _

/-- Models and a coder. -/
structure Es where
  M : Nat → Nat → Nat
  σ : Cs
def es0 : Es := ⟨fun _ _ => 1, cs0⟩
structure EsOk (n : Nat) (E : Es) : Prop where
  md : ∀ k, MdOk n (E.M k)
  cs : CsOk E.σ
theorem es0_ok {n : Nat} (h : n ≤ 1024) : EsOk n es0 := ⟨fun _ => MdOk.new h, cs0_ok⟩
def symE (n : Nat) (E : Es) (k s : Nat) : Es := ⟨fun j => if j = k then seeM n (E.M k) s else E.M j, stp E.σ (plc (E.M k) s) (E.M k s) (plc (E.M k) n)⟩
theorem EsOk.st {n : Nat} {E : Es} (h : EsOk n E) (k : Nat) {s : Nat} (hs : s < n) : StOk (plc (E.M k) s) (E.M k s) (plc (E.M k) n) :=
  ⟨(h.md k).pos s hs, plc_one hs, (h.md k).sum⟩
theorem EsOk.sym {n : Nat} {E : Es} (h : EsOk n E) (k : Nat) {s : Nat} (hs : s < n) : EsOk n (symE n E k s) := by
  refine ⟨fun j => ?_, stp_ok h.cs (h.st k hs)⟩
  show MdOk n (if j = k then seeM n (E.M k) s else E.M j)
  split
  · exact (h.md k).see hs
  · exact h.md j

/-- The code with which a coder ends lies in the range of an earlier one. -/
structure Lies (σ τ : Cs) : Prop where
  len : σ.L ≤ τ.L
  lo : σ.V * 256 ^ (τ.L - σ.L) ≤ τ.V
  hi : τ.V < (σ.V + σ.W) * 256 ^ (τ.L - σ.L)
theorem Lies.refl {σ : Cs} (h : CsOk σ) : Lies σ σ := ⟨Nat.le_refl _, by simp, by have := h.lo; simp; omega⟩
theorem Lies.step {σ τ : Cs} (h : CsOk σ) {p c t : Nat} (hs : StOk p c t) (hl : Lies (stp σ p c t) τ) :
    Lies σ τ ∧ (σ.V + σ.W / t * p) * 256 ^ (τ.L - σ.L) ≤ τ.V ∧ τ.V < (σ.V + σ.W / t * p + σ.W / t * c) * 256 ^ (τ.L - σ.L) := by
  obtain ⟨d, hd, he, _⟩ := stp_ex h hs
  obtain ⟨_, _, h3, _⟩ := nrw_ok h hs
  have h3 : σ.V + σ.W / t * p + σ.W / t * c ≤ σ.V + σ.W := h3
  obtain ⟨l1, l2, l3⟩ := hl
  rw [he] at l1 l2 l3
  have l1 : σ.L + d ≤ τ.L := l1
  have l2 : (σ.V + σ.W / t * p) * 256 ^ d * 256 ^ (τ.L - (σ.L + d)) ≤ τ.V := l2
  have l3 : τ.V < ((σ.V + σ.W / t * p) * 256 ^ d + σ.W / t * c * 256 ^ d) * 256 ^ (τ.L - (σ.L + d)) := l3
  have e : 256 ^ d * 256 ^ (τ.L - (σ.L + d)) = 256 ^ (τ.L - σ.L) := by rw [← Nat.pow_add]; congr 1; omega
  rw [Nat.mul_assoc, e] at l2
  rw [← Nat.add_mul, Nat.mul_assoc, e] at l3
  refine ⟨⟨by omega, Nat.le_trans (Nat.mul_le_mul_right _ (by omega)) l2, Nat.lt_of_lt_of_le l3 (Nat.mul_le_mul_right _ h3)⟩, l2, l3⟩

/-- How far the code is behind the beginning of the range. -/
def k_lowR (b : List UInt8) (σ : Cs) : Nat := bv b (σ.L + 4) - σ.V
theorem Lies.low {σ τ : Cs} (ht : CsOk τ) (hl : Lies σ τ) : σ.V ≤ bv (codeS τ) (σ.L + 4) ∧ bv (codeS τ) (σ.L + 4) = τ.V / 256 ^ (τ.L - σ.L) := by
  have h1 := hl.len
  rw [bv_code ht (by omega), show τ.L + 4 - (σ.L + 4) = τ.L - σ.L by omega]
  exact ⟨(Nat.le_div_iff_mul_le (Nat.pow_pos (by decide))).2 hl.lo, rfl⟩
/-- A step is read as it was written. -/
theorem Lies.at {σ τ : Cs} (h : CsOk σ) (ht : CsOk τ) {p c t : Nat} (hs : StOk p c t) (hl : Lies (stp σ p c t) τ) :
    p ≤ k_lowR (codeS τ) σ / (σ.W / t) ∧ k_lowR (codeS τ) σ / (σ.W / t) < p + c := by
  obtain ⟨h1, h2, h3⟩ := Lies.step h hs hl
  obtain ⟨h4, h5⟩ := Lies.low ht h1
  obtain ⟨r1, _, _⟩ := nrw_r h (t := t) (by have := hs.c1; have := hs.pc; omega) hs.t1
  have hp : 0 < 256 ^ (τ.L - σ.L) := Nat.pow_pos (by decide)
  have h2 := (Nat.le_div_iff_mul_le hp).2 h2
  have h3 := (Nat.div_lt_iff_lt_mul hp).2 h3
  unfold k_lowR
  rw [h5]
  generalize τ.V / 256 ^ (τ.L - σ.L) = x at *
  constructor
  · rw [Nat.le_div_iff_mul_le (by omega), Nat.mul_comm]; omega
  · rw [Nat.div_lt_iff_lt_mul (by omega), Nat.mul_comm, Nat.mul_add]; omega
end Go.Proofs.Ytgmooalikccbiaa
/- The plain law of the coder, on: what Encode and Decode come to, and that the one undoes the other. -/
namespace Go.Proofs.Ytgmooalikccbiaa
open Go.Fw Go
set_option linter.unusedVariables false
set_option linter.unusedSimpArgs false

def inN (x : Int) (n : Nat) : Prop := 0 ≤ x ∧ x < n
instance (x : Int) (n : Nat) : Decidable (inN x n) := inferInstanceAs (Decidable (_ ∧ _))

/-- After so many symbols. -/
def encSt (n many : Nat) (sy cx : List Int) : Nat → Option Es
  | 0 => some es0
  | i + 1 => match encSt n many sy cx i with
    | none => none
    | some E => if inN (sy.getD i 0) n ∧ inN (cx.getD i 0) many then some (symE n E (cx.getD i 0).toNat (sy.getD i 0).toNat) else none

theorem encSt_ok {n many : Nat} (hn : n ≤ 1024) {sy cx : List Int} : ∀ {i : Nat} {E : Es}, encSt n many sy cx i = some E → EsOk n E
  | 0, E, h => by cases h; exact es0_ok hn
  | i + 1, E, h => by
    unfold encSt at h
    cases hh : encSt n many sy cx i with
    | none => rw [hh] at h; cases h
    | some E' =>
      rw [hh] at h
      have ih := encSt_ok hn hh
      dsimp only at h
      split at h
      · rename_i hc
        cases h
        exact ih.sym _ (by have := hc.1.2; have := hc.1.1; omega)
      · cases h
theorem encSt_some {n many : Nat} {sy cx : List Int} {m : Nat} (h : ∀ i, i < m → inN (sy.getD i 0) n ∧ inN (cx.getD i 0) many) : ∀ i, i ≤ m → ∃ E, encSt n many sy cx i = some E
  | 0, _ => ⟨_, rfl⟩
  | i + 1, hi => by
    obtain ⟨E, hE⟩ := encSt_some h i (by omega)
    unfold encSt
    rw [hE]
    dsimp only
    rw [if_pos (h i (by omega))]
    exact ⟨_, rfl⟩
theorem encSt_in {n many : Nat} {sy cx : List Int} : ∀ {i : Nat} {E : Es}, encSt n many sy cx i = some E → ∀ j, j < i → inN (sy.getD j 0) n ∧ inN (cx.getD j 0) many
  | 0, _, _, j, hj => by omega
  | i + 1, E, h, j, hj => by
    unfold encSt at h
    cases hh : encSt n many sy cx i with
    | none => rw [hh] at h; cases h
    | some E' =>
      rw [hh] at h
      dsimp only at h
      split at h
      · rename_i hc
        by_cases e : j = i
        · rw [e]; exact hc
        · exact encSt_in hh j (by omega)
      · cases h
theorem encSt_congr {n many : Nat} {sy cx sy' cx' : List Int} : ∀ {i : Nat}, (∀ j, j < i → sy.getD j 0 = sy'.getD j 0 ∧ cx.getD j 0 = cx'.getD j 0) → encSt n many sy cx i = encSt n many sy' cx' i
  | 0, _ => rfl
  | i + 1, h => by
    unfold encSt
    rw [encSt_congr (i := i) (fun j hj => h j (by omega)), (h i (by omega)).1, (h i (by omega)).2]

def SizesP (n many : Int) : Prop := 1 ≤ n ∧ n ≤ 1024 ∧ 1 ≤ many ∧ many ≤ 256
instance (n many : Int) : Decidable (SizesP n many) := inferInstanceAs (Decidable (_ ∧ _))

def encS (n many : Int) (sy cx : List Int) : List UInt8 × Int :=
  if SizesP n many ∧ sy.length = cx.length then
    if sy.length ≤ 65536 then
      match encSt n.toNat many.toNat sy cx sy.length with
      | some E => (codeS E.σ, 0)
      | none => ([], 5)
    else ([], 4)
  else ([], 1)

/-- The symbol at a place among the counts. -/
def fnd (c : Nat → Nat) (x n : Nat) : Nat := ((List.range n).find? fun s => decide (x < plc c (s + 1))).getD 0
theorem fnd_ok {c : Nat → Nat} {x n : Nat} (h : x < plc c n) : fnd c x n < n ∧ plc c (fnd c x n) ≤ x ∧ x < plc c (fnd c x n + 1) := by
  have hn : 0 < n := by
    cases n with
    | zero => simp [plc] at h
    | succ n => omega
  unfold fnd
  cases hf : (List.range n).find? fun s => decide (x < plc c (s + 1)) with
  | none =>
    rw [List.find?_eq_none] at hf
    have := hf (n - 1) (by simp; omega)
    rw [show n - 1 + 1 = n by omega] at this
    simp at this; omega
  | some s =>
    have h1 := List.find?_some hf
    have h2 := List.mem_of_find?_eq_some hf
    simp at h1 h2
    refine ⟨h2, ?_, h1⟩
    show plc c s ≤ x
    by_cases e : s = 0
    · rw [e]; exact Nat.zero_le _
    · rw [List.find?_eq_some_iff_append] at hf
      obtain ⟨_, xs, ys, hab, hlt⟩ := hf
      have hl : xs.length = s := by
        have := congrArg (fun l => l[xs.length]?) hab
        simp at this
        rw [List.getElem?_eq_some_iff] at this
        obtain ⟨hx, hy⟩ := this
        simpa using hy
      have hm : s - 1 ∈ xs := by
        have h3 : (List.range n)[s - 1]? = xs[s - 1]? := by rw [hab, List.getElem?_append_left (by omega)]
        rw [List.getElem?_range (by omega)] at h3
        exact List.mem_of_getElem? h3.symm
      have := hlt (s - 1) hm
      rw [show s - 1 + 1 = s by omega] at this
      simp at this; exact this
theorem fnd_eq {c : Nat → Nat} {x n s : Nat} (hs : s < n) (h1 : plc c s ≤ x) (h2 : x < plc c (s + 1)) : fnd c x n = s := by
  obtain ⟨a, b, d⟩ := fnd_ok (c := c) (x := x) (n := n) (Nat.lt_of_lt_of_le h2 (plc_le (c := c) (a := s + 1) hs))
  generalize fnd c x n = t at *
  by_cases e : t < s
  · have := plc_le (c := c) (a := t + 1) (b := s) e; omega
  · by_cases e2 : s < t
    · have := plc_le (c := c) (a := s + 1) (b := t) e2; omega
    · omega

/-- One symbol is read: none where the code lies in no part of the range. -/
def atR (b : List UInt8) (σ : Cs) (t : Nat) : Nat := k_lowR b σ / (σ.W / t)
def decSym (n : Nat) (b : List UInt8) (E : Es) (k : Nat) : Option (Nat × Es) :=
  if atR b E.σ (plc (E.M k) n) < plc (E.M k) n then
    some (fnd (E.M k) (atR b E.σ (plc (E.M k) n)) n, symE n E k (fnd (E.M k) (atR b E.σ (plc (E.M k) n)) n))
  else none

/-- A reader is well: it is not behind its range. -/
structure RdOk (b : List UInt8) (σ : Cs) : Prop where
  le : σ.V ≤ bv b (σ.L + 4)
  lt : bv b (σ.L + 4) < σ.V + σ.W
theorem rd0_ok (b : List UInt8) : RdOk b cs0 := by
  refine ⟨Nat.zero_le _, ?_⟩
  have := bv_lt b 4
  rw [show (256 : Nat) ^ 4 = 4294967296 by decide] at this
  show bv b 4 < 0 + 4294967296
  omega
theorem bv_more (b : List UInt8) (j : Nat) : ∀ d, bv b j * 256 ^ d ≤ bv b (j + d) ∧ bv b (j + d) < (bv b j + 1) * 256 ^ d
  | 0 => by simp
  | d + 1 => by
    obtain ⟨h1, h2⟩ := bv_more b j d
    have h3 : (b.getD (j + d) 0).toNat < 256 := (b.getD (j + d) 0).toNat_lt
    have e : ∀ x, x * 256 ^ (d + 1) = x * 256 ^ d * 256 := fun x => by rw [Nat.pow_succ, Nat.mul_assoc]
    have e2 : bv b (j + (d + 1)) = bv b (j + d) * 256 + (b.getD (j + d) 0).toNat := rfl
    rw [e, e, e2]
    omega
theorem RdOk.low {b : List UInt8} {σ : Cs} (h : RdOk b σ) : k_lowR b σ < σ.W := by
  have := h.le; have := h.lt
  unfold k_lowR; omega
/-- A step is read, where the code lies in it. -/
theorem RdOk.step {b : List UInt8} {σ : Cs} (h : RdOk b σ) (hc : CsOk σ) {p c t : Nat} (hs : StOk p c t) (h1 : p ≤ atR b σ t) (h2 : atR b σ t < p + c) : RdOk b (stp σ p c t) ∧ σ.W / t * p ≤ k_lowR b σ ∧ k_lowR b σ < σ.W / t * p + σ.W / t * c := by
  obtain ⟨d, hd, he, _⟩ := stp_ex hc hs
  obtain ⟨r1, _, _⟩ := nrw_r hc (t := t) (by have := hs.c1; have := hs.pc; omega) hs.t1
  unfold atR at h1 h2
  rw [Nat.le_div_iff_mul_le (by omega), Nat.mul_comm] at h1
  rw [Nat.div_lt_iff_lt_mul (by omega), Nat.mul_comm, Nat.mul_add] at h2
  refine ⟨?_, h1, h2⟩
  rw [he]
  have hle := h.le
  unfold k_lowR at h1 h2
  have a1 : σ.V + σ.W / t * p ≤ bv b (σ.L + 4) := by omega
  have a2 : bv b (σ.L + 4) + 1 ≤ σ.V + σ.W / t * p + σ.W / t * c := by omega
  obtain ⟨m1, m2⟩ := bv_more b (σ.L + 4) d
  refine ⟨?_, ?_⟩
  · show (σ.V + σ.W / t * p) * 256 ^ d ≤ bv b (σ.L + d + 4)
    rw [show σ.L + d + 4 = σ.L + 4 + d by omega]
    exact Nat.le_trans (Nat.mul_le_mul_right _ a1) m1
  · show bv b (σ.L + d + 4) < (σ.V + σ.W / t * p) * 256 ^ d + σ.W / t * c * 256 ^ d
    rw [show σ.L + d + 4 = σ.L + 4 + d by omega, ← Nat.add_mul]
    exact Nat.lt_of_lt_of_le m2 (Nat.mul_le_mul_right _ a2)
theorem decSym_ok {n : Nat} {b : List UInt8} {E : Es} (h : EsOk n E) (hr : RdOk b E.σ) {k s : Nat} {E' : Es} (hd : decSym n b E k = some (s, E')) : s < n ∧ E' = symE n E k s ∧ RdOk b E'.σ := by
  unfold decSym at hd
  split at hd
  · rename_i hlt
    obtain ⟨f1, f2, f3⟩ := fnd_ok hlt
    have he := Option.some.inj hd
    have e1 := congrArg Prod.fst he
    have e2 := congrArg Prod.snd he
    dsimp only at e1 e2
    rw [e1] at f1 f2 f3 e2
    refine ⟨f1, e2.symm, ?_⟩
    rw [← e2]
    exact (hr.step h.cs (h.st k f1) f2 f3).1
  · cases hd

/-- Decode, so far: the models, the symbols; else the error. -/
def decSt (n many : Nat) (ctx : Nat → List Int → Int) (b : List UInt8) : Nat → Except Int (Es × List Int)
  | 0 => .ok (es0, [])
  | i + 1 => match decSt n many ctx b i with
    | .error e => .error e
    | .ok (E, out) => if inN (ctx i out) many then
        (match decSym n b E (ctx i out).toNat with
         | some (s, E') => .ok (E', out ++ [(s : Int)])
         | none => .error 2)
      else .error 5
/-- The contexts that symbols have. -/
def ctxs (ctx : Nat → List Int → Int) (sy : List Int) : List Int := (List.range sy.length).map fun i => ctx i (sy.take i)
@[simp] theorem ctxs_len (ctx : Nat → List Int → Int) (sy : List Int) : (ctxs ctx sy).length = sy.length := by simp [ctxs]
theorem ctxs_getD (ctx : Nat → List Int → Int) (sy : List Int) {i : Nat} (h : i < sy.length) : (ctxs ctx sy).getD i 0 = ctx i (sy.take i) := by simp [ctxs, h]

def decS (n many count : Int) (ctx : Nat → List Int → Int) (b : List UInt8) : List Int × Int :=
  if SizesP n many then
    if 0 ≤ count ∧ count ≤ 65536 then
      match decSt n.toNat many.toNat ctx b count.toNat with
      | .error e => ([], e)
      | .ok (_, out) => if (encS n many out (ctxs ctx out)).1 = b then (out, 0) else ([], 2)
    else ([], 4)
  else ([], 1)

structure DecOk (n many : Nat) (ctx : Nat → List Int → Int) (b : List UInt8) (i : Nat) (E : Es) (out : List Int) : Prop where
  es : EsOk n E
  rd : RdOk b E.σ
  len : out.length = i
  run : encSt n many out (ctxs ctx out) i = some E
theorem getD_app_lt {l m : List Int} {j : Nat} (h : j < l.length) : (l ++ m).getD j 0 = l.getD j 0 := by
  rw [List.getD_eq_getElem?_getD, List.getElem?_append_left h, ← List.getD_eq_getElem?_getD]
theorem getD_app_at {l : List Int} {x : Int} : (l ++ [x]).getD l.length 0 = x := by
  rw [List.getD_eq_getElem?_getD, List.getElem?_append_right (Nat.le_refl _)]; simp
theorem ctxs_snoc (ctx : Nat → List Int → Int) (l : List Int) (x : Int) : ctxs ctx (l ++ [x]) = ctxs ctx l ++ [ctx l.length l] := by
  unfold ctxs
  rw [List.length_append, List.length_singleton, List.range_succ, List.map_append]
  congr 1
  · refine List.map_congr_left fun i hi => ?_
    have : i < l.length := by simpa using hi
    rw [List.take_append_of_le_length (by omega)]
  · simp
theorem decSt_ok {n many : Nat} (hn : n ≤ 1024) {ctx : Nat → List Int → Int} {b : List UInt8} : ∀ {i : Nat} {E : Es} {out : List Int}, decSt n many ctx b i = .ok (E, out) → DecOk n many ctx b i E out
  | 0, E, out, h => by
    unfold decSt at h
    have := Except.ok.inj h
    have e1 := congrArg Prod.fst this
    have e2 := congrArg Prod.snd this
    dsimp only at e1 e2
    subst e1 e2
    exact ⟨es0_ok hn, rd0_ok b, rfl, rfl⟩
  | i + 1, E, out, h => by
    unfold decSt at h
    split at h
    · cases h
    · rename_i E0 out0 h0
      have ih := decSt_ok hn h0
      split at h
      · rename_i hc
        split at h
        · rename_i s E' hs
          obtain ⟨h1, h2, h3⟩ := decSym_ok ih.es ih.rd hs
          have := Except.ok.inj h
          have e1 := congrArg Prod.fst this
          have e2 := congrArg Prod.snd this
          dsimp only at e1 e2
          subst e1 e2
          have hl := ih.len
          refine ⟨?_, h3, by simp [hl], ?_⟩
          · rw [h2]; exact ih.es.sym _ h1
          · unfold encSt
            rw [ctxs_snoc, encSt_congr (sy' := out0) (cx' := ctxs ctx out0) (i := i) (fun j hj => ⟨getD_app_lt (by omega), getD_app_lt (by simp; omega)⟩), ih.run]
            dsimp only
            have g1 : (out0 ++ [(s : Int)]).getD i 0 = s := by rw [← hl]; exact getD_app_at
            have g2 : (ctxs ctx out0 ++ [ctx out0.length out0]).getD i 0 = ctx i out0 := by
              have : (ctxs ctx out0).length = i := by simp [hl]
              rw [← this, getD_app_at]; simp
            rw [g1, g2, if_pos ⟨⟨by omega, by omega⟩, hc⟩, h2]
            rfl
        · cases h
      · cases h

/-- The code of symbols is read as these symbols. -/
theorem dec_enc {n many : Nat} (hn : n ≤ 1024) {ctx : Nat → List Int → Int} {sy : List Int} {τ : Es} (hτ : encSt n many sy (ctxs ctx sy) sy.length = some τ) :
    ∀ i, i ≤ sy.length → ∃ E, encSt n many sy (ctxs ctx sy) i = some E ∧ decSt n many ctx (codeS τ.σ) i = .ok (E, sy.take i) := by
  have hin := encSt_in hτ
  obtain hsome := encSt_some hin
  -- from behind: the last code lies in every earlier range
  have hlies : ∀ d, d ≤ sy.length → ∀ E, encSt n many sy (ctxs ctx sy) (sy.length - d) = some E → Lies E.σ τ.σ := by
    intro d
    induction d with
    | zero =>
      intro _ E hE
      rw [Nat.sub_zero, hτ] at hE
      cases hE
      exact Lies.refl (encSt_ok hn hτ).cs
    | succ d ih =>
      intro hd E hE
      have hok := encSt_ok hn hE
      have hi := hin (sy.length - (d + 1)) (by omega)
      have hst : encSt n many sy (ctxs ctx sy) (sy.length - d) = some (symE n E ((ctxs ctx sy).getD (sy.length - (d + 1)) 0).toNat (sy.getD (sy.length - (d + 1)) 0).toNat) := by
        rw [show sy.length - d = (sy.length - (d + 1)) + 1 by omega]
        show (match encSt n many sy (ctxs ctx sy) (sy.length - (d + 1)) with | none => none | some E => _) = _
        rw [hE]
        dsimp only
        rw [if_pos hi]
      have := ih (by omega) _ hst
      exact (Lies.step hok.cs (hok.st _ (by have := hi.1.1; have := hi.1.2; omega)) this).1
  intro i
  induction i with
  | zero => intro _; exact ⟨es0, rfl, rfl⟩
  | succ i ih =>
    intro hi
    obtain ⟨E, hE, hD⟩ := ih (by omega)
    have hok := encSt_ok hn hE
    have hii := hin i (by omega)
    obtain ⟨E', hE'⟩ := hsome (i + 1) hi
    have hE2 := hE'
    unfold encSt at hE2
    rw [hE] at hE2
    dsimp only at hE2
    rw [if_pos hii] at hE2
    have hE2 := Option.some.inj hE2
    have hl := hlies (sy.length - (i + 1)) (by omega) E' (by rw [show sy.length - (sy.length - (i + 1)) = i + 1 by omega]; exact hE')
    have hs : (sy.getD i 0).toNat < n := by have := hii.1.1; have := hii.1.2; omega
    rw [← hE2] at hl
    have hat := Lies.at hok.cs (encSt_ok hn hτ).cs (hok.st _ hs) hl
    refine ⟨E', hE', ?_⟩
    unfold decSt
    rw [hD]
    dsimp only
    have hcx := ctxs_getD ctx sy (show i < sy.length by omega)
    rw [← hcx, if_pos hii.2]
    have hlt : atR (codeS τ.σ) E.σ (plc (E.M ((ctxs ctx sy).getD i 0).toNat) n) < plc (E.M ((ctxs ctx sy).getD i 0).toNat) n := Nat.lt_of_lt_of_le hat.2 (plc_one hs)
    have hf : fnd (E.M ((ctxs ctx sy).getD i 0).toNat) (atR (codeS τ.σ) E.σ (plc (E.M ((ctxs ctx sy).getD i 0).toNat) n)) n = (sy.getD i 0).toNat := fnd_eq hs hat.1 hat.2
    unfold decSym
    rw [if_pos hlt, hf]
    dsimp only
    rw [hE2]
    have hx : ((sy.getD i 0).toNat : Int) = sy.getD i 0 := Int.toNat_of_nonneg hii.1.1
    rw [hx]
    have : sy.take (i + 1) = sy.take i ++ [sy.getD i 0] := by
      have hil : i < sy.length := by omega
      rw [List.take_add_one, List.getElem?_eq_getElem hil]
      simp [hil]
    rw [this]

theorem dec_round {n many : Int} {ctx : Nat → List Int → Int} {sy : List Int} {b : List UInt8} (h : encS n many sy (ctxs ctx sy) = (b, 0)) : decS n many sy.length ctx b = (sy, 0) := by
  have h0 := h
  unfold encS at h
  split at h
  · rename_i hs
    split at h
    · rename_i hl
      split at h
      · rename_i E hE
        obtain ⟨hb, _⟩ := Prod.mk.inj h
        have hn : n.toNat ≤ 1024 := by have := hs.1.2.1; omega
        obtain ⟨E', hE', hD⟩ := dec_enc hn hE sy.length (Nat.le_refl _)
        unfold decS
        rw [if_pos hs.1, if_pos (by omega), Int.toNat_natCast, ← hb, hD]
        dsimp only
        rw [List.take_length, h0, if_pos hb.symm]
      · cases h
    · cases h
  · cases h
end Go.Proofs.Ytgmooalikccbiaa
/- The plain law of the coder, on: integers. -/
namespace Go.Proofs.Ytgmooalikccbiaa
open Go.Fw Go
set_option linter.unusedVariables false
set_option linter.unusedSimpArgs false

/-- How many binary digits. -/
def lenB (u : Nat) : Nat := if u = 0 then 0 else Nat.log2 u + 1
theorem lenB_le {u : Nat} (h : u < 2 ^ 64) : lenB u ≤ 64 := by
  unfold lenB
  split
  · omega
  · rename_i h0
    have := (Nat.log2_lt h0).2 h
    omega
theorem lenB_lt (u : Nat) : u < 2 ^ lenB u := by
  unfold lenB
  split
  · rename_i h; rw [h]; decide
  · exact Nat.lt_log2_self
theorem lenB_top {u : Nat} (h : u ≠ 0) : 2 ^ (lenB u - 1) ≤ u := by
  unfold lenB
  rw [if_neg h]
  exact Nat.log2_self_le h

/-- The integers folded. -/
def fold (x : Int) : Nat := if 0 ≤ x then (2 * x).toNat else (-2 * x - 1).toNat
def unfold' (u : Nat) : Int := if u % 2 = 0 then ((u / 2 : Nat) : Int) else -((u / 2 : Nat) : Int) - 1
theorem unfold_fold (x : Int) : unfold' (fold x) = x := by
  unfold unfold' fold
  split <;> split <;> omega
theorem fold_unfold (u : Nat) : fold (unfold' u) = u := by
  unfold unfold' fold
  split <;> split <;> omega
theorem fold_lt {x : Int} (h : -9223372036854775808 ≤ x ∧ x ≤ 9223372036854775807) : fold x < 2 ^ 64 := by
  unfold fold
  have : (2 : Nat) ^ 64 = 18446744073709551616 := by decide
  split <;> omega

/-- The digits below the first one, so many of them, written. -/
def bitE (σ : Cs) (u k : Nat) : Cs := stp σ (u / 2 ^ k % 2) 1 2
def bitsE (u : Nat) : Nat → Cs → Cs
  | 0, σ => σ
  | k + 1, σ => bitsE u k (bitE σ u k)
theorem bit_st (u k : Nat) : StOk (u / 2 ^ k % 2) 1 2 := ⟨by omega, by omega, by omega⟩
theorem bitE_ok {σ : Cs} (h : CsOk σ) (u k : Nat) : CsOk (bitE σ u k) := stp_ok h (bit_st u k)
theorem bitsE_ok (u : Nat) : ∀ (k : Nat) {σ : Cs}, CsOk σ → CsOk (bitsE u k σ)
  | 0, _, h => h
  | k + 1, _, h => bitsE_ok u k (bitE_ok h u k)

/-- Models, the coder, and the last class. -/
structure Is where
  E : Es
  b : Nat
def is0 : Is := ⟨es0, 0⟩
structure IsOk (I : Is) : Prop where
  es : EsOk 65 I.E
  b : I.b ≤ 64
theorem is0_ok : IsOk is0 := ⟨es0_ok (by omega), by decide⟩
def intI (I : Is) (u : Nat) : Is :=
  ⟨⟨(symE 65 I.E I.b (lenB u)).M, bitsE u (lenB u - 1) (symE 65 I.E I.b (lenB u)).σ⟩, lenB u⟩
theorem IsOk.step {I : Is} (h : IsOk I) {u : Nat} (hu : u < 2 ^ 64) : IsOk (intI I u) := by
  have hl := lenB_le hu
  have := h.es.sym I.b (s := lenB u) (by omega)
  exact ⟨⟨this.md, bitsE_ok u _ this.cs⟩, hl⟩
def intsI (us : List Nat) (I : Is) : Is := us.foldl intI I
theorem intsI_ok : ∀ {us : List Nat} {I : Is}, (∀ u ∈ us, u < 2 ^ 64) → IsOk I → IsOk (intsI us I)
  | [], _, _, h => h
  | u :: us, I, hu, h => intsI_ok (us := us) (fun v hv => hu v (by simp [hv])) (h.step (hu u (by simp)))
theorem intsI_snoc (us : List Nat) (u : Nat) (I : Is) : intsI (us ++ [u]) I = intI (intsI us I) u := by
  unfold intsI; rw [List.foldl_append]; rfl

def intsS (l : List Int) : List UInt8 × Int :=
  if l.length ≤ 65536 then (codeS (intsI (l.map fold) is0).E.σ, 0) else ([], 4)

/-- One is led to another by steps. -/
inductive Leads : Cs → Cs → Prop
  | refl {σ : Cs} : Leads σ σ
  | step {σ τ : Cs} {p c t : Nat} (h : StOk p c t) (r : Leads (stp σ p c t) τ) : Leads σ τ
theorem Leads.trans {a b c : Cs} (h : Leads a b) (k : Leads b c) : Leads a c := by
  induction h with
  | refl => exact k
  | step h _ ih => exact .step h (ih k)
theorem Leads.lies {σ τ : Cs} (h : Leads σ τ) (hc : CsOk σ) (ht : CsOk τ) : Lies σ τ := by
  induction h with
  | refl => exact Lies.refl hc
  | step h _ ih => exact (Lies.step hc h (ih (stp_ok hc h) ht)).1
theorem bitsE_leads (u : Nat) : ∀ (k : Nat) (σ : Cs), Leads σ (bitsE u k σ)
  | 0, _ => .refl
  | k + 1, σ => .step (bit_st u k) (bitsE_leads u k _)
theorem intI_leads {I : Is} (h : IsOk I) {u : Nat} (hu : u < 2 ^ 64) : Leads I.E.σ (intI I u).E.σ := by
  have hl := lenB_le hu
  exact .step (h.es.st I.b (s := lenB u) (by omega)) (bitsE_leads u _ _)
theorem intsI_leads : ∀ {us : List Nat} {I : Is}, (∀ u ∈ us, u < 2 ^ 64) → IsOk I → Leads I.E.σ (intsI us I).E.σ
  | [], _, _, _ => .refl
  | u :: us, I, hu, h => (intI_leads h (hu u (by simp))).trans (intsI_leads (us := us) (fun v hv => hu v (by simp [hv])) (h.step (hu u (by simp))))

/-- So many digits are read behind a number. -/
def rdBits (b : List UInt8) : Nat → Nat × Cs → Option (Nat × Cs)
  | 0, x => some x
  | k + 1, (u, σ) => if atR b σ 2 < 2 then rdBits b k (u * 2 + atR b σ 2, stp σ (atR b σ 2) 1 2) else none
def rdInt (b : List UInt8) (I : Is) : Option (Nat × Is) :=
  match decSym 65 b I.E I.b with
  | none => none
  | some (s, E) => match rdBits b (s - 1) (min s 1, E.σ) with
    | none => none
    | some (u, σ) => some (u, ⟨⟨E.M, σ⟩, s⟩)
def rdSt (b : List UInt8) : Nat → Option (Is × List Int)
  | 0 => some (is0, [])
  | i + 1 => match rdSt b i with
    | none => none
    | some (I, out) => match rdInt b I with
      | none => none
      | some (u, I') => some (I', out ++ [unfold' u])
def readS (b : List UInt8) (count : Int) : List Int × Int :=
  if 0 ≤ count ∧ count ≤ 65536 then
    match rdSt b count.toNat with
    | none => ([], 2)
    | some (_, out) => if (intsS out).1 = b then (out, 0) else ([], 2)
  else ([], 4)

theorem rdBits_ok {b : List UInt8} : ∀ (k : Nat) {u v : Nat} {σ τ : Cs}, CsOk σ → RdOk b σ → rdBits b k (u, σ) = some (v, τ) →
    CsOk τ ∧ RdOk b τ ∧ v / 2 ^ k = u ∧ τ = bitsE v k σ
  | 0, u, v, σ, τ, hc, hr, h => by
    cases h
    exact ⟨hc, hr, by simp, rfl⟩
  | k + 1, u, v, σ, τ, hc, hr, h => by
    unfold rdBits at h
    split at h
    · rename_i hlt
      have hs : StOk (atR b σ 2) 1 2 := ⟨by omega, by omega, by omega⟩
      obtain ⟨h1, h2, h3, h4⟩ := rdBits_ok k (stp_ok hc hs) (hr.step hc hs (Nat.le_refl _) (by omega)).1 h
      refine ⟨h1, h2, ?_, ?_⟩
      · rw [Nat.pow_succ, ← Nat.div_div_eq_div_mul, h3]; omega
      · rw [h4]
        show bitsE v k _ = bitsE v k (stp σ (v / 2 ^ k % 2) 1 2)
        rw [h3, show (u * 2 + atR b σ 2) % 2 = atR b σ 2 by omega]
    · cases h
theorem lenB_of {u s : Nat} (h : u / 2 ^ (s - 1) = min s 1) : lenB u = s := by
  by_cases e : s = 0
  · subst e
    simp at h
    rw [h]; rfl
  · have hs : min s 1 = 1 := by omega
    rw [hs] at h
    have hp : 0 < 2 ^ (s - 1) := Nat.pow_pos (by decide)
    have h1 : 2 ^ (s - 1) ≤ u := by
      have := Nat.div_mul_le_self u (2 ^ (s - 1))
      rw [h] at this; omega
    have h2 : u < 2 ^ s := by
      have : u < (u / 2 ^ (s - 1) + 1) * 2 ^ (s - 1) := by
        rw [Nat.mul_comm]; exact Nat.lt_mul_div_succ u hp
      rw [h] at this
      rw [show s = (s - 1) + 1 by omega, Nat.pow_succ]; omega
    have h0 : u ≠ 0 := by omega
    unfold lenB
    rw [if_neg h0]
    have a1 := (Nat.le_log2 h0).2 h1
    have a2 := (Nat.log2_lt h0).2 h2
    omega
theorem rdInt_ok {b : List UInt8} {I I' : Is} {u : Nat} (h : IsOk I) (hr : RdOk b I.E.σ) (hd : rdInt b I = some (u, I')) : u < 2 ^ 64 ∧ I' = intI I u ∧ RdOk b I'.E.σ := by
  unfold rdInt at hd
  split at hd
  · cases hd
  · rename_i s E hs
    obtain ⟨h1, h2, h3⟩ := decSym_ok h.es hr hs
    have hE := h.es.sym I.b h1
    rw [← h2] at hE
    split at hd
    · cases hd
    · rename_i v σ hb
      have hd := Option.some.inj hd
      have e1 := congrArg Prod.fst hd
      have e2 := congrArg Prod.snd hd
      dsimp only at e1 e2
      subst e1
      obtain ⟨k1, k2, k3, k4⟩ := rdBits_ok (s - 1) hE.cs h3 hb
      have hl := lenB_of k3
      refine ⟨Nat.lt_of_lt_of_le (lenB_lt v) (by rw [hl]; exact Nat.pow_le_pow_right (by decide) (by omega)), ?_, ?_⟩
      · rw [← e2]
        unfold intI
        rw [hl, ← h2, ← k4]
      · rw [← e2]; exact k2
structure RdsOk (b : List UInt8) (i : Nat) (I : Is) (out : List Int) : Prop where
  is : IsOk I
  rd : RdOk b I.E.σ
  len : out.length = i
  run : intsI (out.map fold) is0 = I
  bd : ∀ x ∈ out, -9223372036854775808 ≤ x ∧ x ≤ 9223372036854775807
theorem unfold_bd {u : Nat} (h : u < 2 ^ 64) : -9223372036854775808 ≤ unfold' u ∧ unfold' u ≤ 9223372036854775807 := by
  have : (2 : Nat) ^ 64 = 18446744073709551616 := by decide
  unfold unfold'
  split <;> omega
theorem rdSt_ok {b : List UInt8} : ∀ {i : Nat} {I : Is} {out : List Int}, rdSt b i = some (I, out) → RdsOk b i I out
  | 0, I, out, h => by
    have h := Option.some.inj h
    have e1 := congrArg Prod.fst h
    have e2 := congrArg Prod.snd h
    dsimp only at e1 e2
    subst e1 e2
    exact ⟨is0_ok, rd0_ok b, rfl, rfl, fun x hx => by cases hx⟩
  | i + 1, I, out, h => by
    unfold rdSt at h
    split at h
    · cases h
    · rename_i I0 out0 h0
      have ih := rdSt_ok h0
      split at h
      · cases h
      · rename_i u I' hu
        obtain ⟨k1, k2, k3⟩ := rdInt_ok ih.is ih.rd hu
        have h := Option.some.inj h
        have e1 := congrArg Prod.fst h
        have e2 := congrArg Prod.snd h
        dsimp only at e1 e2
        subst e1 e2
        have hl := ih.len
        refine ⟨by rw [k2]; exact ih.is.step k1, k3, by simp [hl], ?_, ?_⟩
        · rw [List.map_append, List.map_singleton, intsI_snoc, ih.run, fold_unfold, k2]
        · intro x hx
          rcases List.mem_append.1 hx with h | h
          · exact ih.bd x h
          · have : x = unfold' u := by simpa using h
            rw [this]; exact unfold_bd k1

/-- The digits are read as they were written. -/
theorem rdBits_enc {τ : Cs} (ht : CsOk τ) (u : Nat) : ∀ (k : Nat) (σ : Cs), CsOk σ → Leads (bitsE u k σ) τ → rdBits (codeS τ) k (u / 2 ^ k, σ) = some (u, bitsE u k σ)
  | 0, σ, _, _ => by simp [rdBits, bitsE]
  | k + 1, σ, hc, hl => by
    have hs := bit_st u k
    have hl2 : Leads (stp σ (u / 2 ^ k % 2) 1 2) τ := (bitsE_leads u k _).trans hl
    obtain ⟨a1, a2⟩ := Lies.at hc ht hs (hl2.lies (stp_ok hc hs) ht)
    have hat : atR (codeS τ) σ 2 = u / 2 ^ k % 2 := by unfold atR; omega
    unfold rdBits bitsE bitE
    rw [hat, if_pos (by omega), show u / 2 ^ (k + 1) * 2 + u / 2 ^ k % 2 = u / 2 ^ k by rw [Nat.pow_succ, ← Nat.div_div_eq_div_mul]; omega]
    exact rdBits_enc ht u k _ (stp_ok hc hs) hl
theorem top_bit {u : Nat} : u / 2 ^ (lenB u - 1) = min (lenB u) 1 := by
  by_cases h : u = 0
  · subst h; rfl
  · have h1 := lenB_top h
    have h2 := lenB_lt u
    have h3 : 1 ≤ lenB u := by unfold lenB; rw [if_neg h]; omega
    rw [show lenB u = (lenB u - 1) + 1 by omega, Nat.pow_succ] at h2
    have hp : 0 < 2 ^ (lenB u - 1) := Nat.pow_pos (by decide)
    have a1 : 1 ≤ u / 2 ^ (lenB u - 1) := (Nat.le_div_iff_mul_le hp).2 (by omega)
    have a2 : u / 2 ^ (lenB u - 1) < 2 := (Nat.div_lt_iff_lt_mul hp).2 (by omega)
    omega
theorem rdInt_enc {τ : Cs} (ht : CsOk τ) {I : Is} (h : IsOk I) {u : Nat} (hu : u < 2 ^ 64) (hl : Leads (intI I u).E.σ τ) : rdInt (codeS τ) I = some (u, intI I u) := by
  have hb := lenB_le hu
  have hs := h.es.st I.b (s := lenB u) (by omega)
  have hE := h.es.sym I.b (s := lenB u) (by omega)
  have hl1 : Leads (symE 65 I.E I.b (lenB u)).σ τ := (bitsE_leads u _ _).trans hl
  obtain ⟨a1, a2⟩ := Lies.at h.es.cs ht hs (hl1.lies hE.cs ht)
  have hf : fnd (I.E.M I.b) (atR (codeS τ) I.E.σ (plc (I.E.M I.b) 65)) 65 = lenB u := fnd_eq (by omega) a1 a2
  have hlt : atR (codeS τ) I.E.σ (plc (I.E.M I.b) 65) < plc (I.E.M I.b) 65 := Nat.lt_of_lt_of_le a2 (plc_one (by omega))
  have hd : decSym 65 (codeS τ) I.E I.b = some (lenB u, symE 65 I.E I.b (lenB u)) := by
    unfold decSym
    rw [if_pos hlt, hf]
  unfold rdInt
  rw [hd]
  dsimp only
  rw [← top_bit, rdBits_enc ht u _ _ hE.cs hl]
  rfl
theorem rdSt_enc {us : List Nat} (hus : ∀ u ∈ us, u < 2 ^ 64) : ∀ (i : Nat), i ≤ us.length → rdSt (codeS (intsI us is0).E.σ) i = some (intsI (us.take i) is0, (us.take i).map unfold')
  | 0, _ => rfl
  | i + 1, hi => by
    have hil : i < us.length := by omega
    have ht : IsOk (intsI us is0) := intsI_ok hus is0_ok
    have htk : us.take (i + 1) = us.take i ++ [us[i]] := by rw [List.take_add_one, List.getElem?_eq_getElem hil]; rfl
    have hI : IsOk (intsI (us.take i) is0) := intsI_ok (fun u hu => hus u (List.mem_of_mem_take hu)) is0_ok
    have hI1 : IsOk (intsI (us.take (i + 1)) is0) := intsI_ok (fun u hu => hus u (List.mem_of_mem_take hu)) is0_ok
    have hall : intsI (us.drop (i + 1)) (intsI (us.take (i + 1)) is0) = intsI us is0 := by
      unfold intsI
      rw [← List.foldl_append, List.take_append_drop]
    have hl : Leads (intsI (us.take (i + 1)) is0).E.σ (intsI us is0).E.σ := by
      rw [← hall]
      exact intsI_leads (fun u hu => hus u (List.mem_of_mem_drop hu)) hI1
    rw [htk, intsI_snoc] at hl
    unfold rdSt
    rw [rdSt_enc hus i (by omega)]
    dsimp only
    rw [rdInt_enc ht.es.cs hI (hus _ (List.getElem_mem hil)) hl, htk, intsI_snoc, List.map_append, List.map_singleton]
theorem read_round {l : List Int} (hl : l.length ≤ 65536) (hb : ∀ x ∈ l, -9223372036854775808 ≤ x ∧ x ≤ 9223372036854775807) : readS (intsS l).1 l.length = (l, 0) := by
  have hus : ∀ u ∈ l.map fold, u < 2 ^ 64 := fun u hu => by
    obtain ⟨x, hx, rfl⟩ := List.mem_map.1 hu
    exact fold_lt (hb x hx)
  have h1 : (intsS l).1 = codeS (intsI (l.map fold) is0).E.σ := by unfold intsS; rw [if_pos hl]
  have h2 := rdSt_enc hus l.length (by simp)
  have h3 : ((l.map fold).take l.length).map unfold' = l := by
    rw [List.take_of_length_le (by simp), List.map_map]
    have : (unfold' ∘ fold) = id := by funext x; exact unfold_fold x
    rw [this]; simp
  unfold readS
  rw [if_pos (by omega), Int.toNat_natCast]
  rw [h1, h2]
  dsimp only
  rw [h3, h1, if_pos rfl]
end Go.Proofs.Ytgmooalikccbiaa
/- The plain law of the wavelet: squares as functions. -/
namespace Go.Proofs.Ytgmooalikccbiaa
set_option linter.unusedVariables false
set_option linter.unusedSimpArgs false

abbrev Ln := Nat → Int
abbrev Mat := Nat → Nat → Int

/-- A line, transformed; a line, transformed back. -/
def spl (n : Nat) (x : Ln) (c : Nat) : Int := if c < n / 2 then (x (2 * c) + x (2 * c + 1)) / 2 else x (2 * (c - n / 2)) - x (2 * (c - n / 2) + 1)
def joi (n : Nat) (x : Ln) (c : Nat) : Int := if c % 2 = 0 then x (c / 2) + (x (n / 2 + c / 2) + 1) / 2 else x (c / 2) + (x (n / 2 + c / 2) + 1) / 2 - x (n / 2 + c / 2)

theorem joi_spl (h : Nat) (x y : Ln) (hy : ∀ c, c < 2 * h → y c = spl (2 * h) x c) (c : Nat) (hc : c < 2 * h) : joi (2 * h) y c = x c := by
  have e : 2 * h / 2 = h := by omega
  have h1 : y (c / 2) = (x (2 * (c / 2)) + x (2 * (c / 2) + 1)) / 2 := by
    rw [hy _ (by omega)]; unfold spl; rw [e, if_pos (by omega)]
  have h2 : y (h + c / 2) = x (2 * (c / 2)) - x (2 * (c / 2) + 1) := by
    rw [hy _ (by omega)]; unfold spl; rw [e, if_neg (by omega), show h + c / 2 - h = c / 2 by omega]
  unfold joi
  rw [e, h1, h2]
  split
  · rw [show 2 * (c / 2) = c by omega]; omega
  · rw [show 2 * (c / 2) + 1 = c by omega]; omega

theorem spl_joi (h : Nat) (x y : Ln) (hy : ∀ c, c < 2 * h → y c = joi (2 * h) x c) (c : Nat) (hc : c < 2 * h) : spl (2 * h) y c = x c := by
  have e : 2 * h / 2 = h := by omega
  have h1 : ∀ k, k < h → y (2 * k) = x k + (x (h + k) + 1) / 2 := fun k hk => by
    rw [hy _ (by omega)]; unfold joi; rw [e, if_pos (by omega), show 2 * k / 2 = k by omega]
  have h2 : ∀ k, k < h → y (2 * k + 1) = x k + (x (h + k) + 1) / 2 - x (h + k) := fun k hk => by
    rw [hy _ (by omega)]; unfold joi; rw [e, if_neg (by omega), show (2 * k + 1) / 2 = k by omega]
  unfold spl
  rw [e]
  split
  · rw [h1 c (by omega), h2 c (by omega)]; omega
  · rw [h1 (c - h) (by omega), h2 (c - h) (by omega), show h + (c - h) = c by omega]; omega

def rowsM (f : Nat → Ln → Ln) (n : Nat) (M : Mat) : Mat := fun r c => if r < n ∧ c < n then f n (M r) c else M r c
def colsM (f : Nat → Ln → Ln) (n : Nat) (M : Mat) : Mat := fun r c => if r < n ∧ c < n then f n (fun k => M k c) r else M r c
/-- The first i rows, or columns, of these. -/
def rowsI (f : Nat → Ln → Ln) (n i : Nat) (M : Mat) : Mat := fun r c => if r < i ∧ c < n then f n (M r) c else M r c
def colsI (f : Nat → Ln → Ln) (n i : Nat) (M : Mat) : Mat := fun r c => if r < n ∧ c < i then f n (fun k => M k c) r else M r c

theorem rows_rows {f g : Nat → Ln → Ln} {n : Nat} (h : ∀ x y : Ln, (∀ c, c < n → y c = f n x c) → ∀ c, c < n → g n y c = x c) (M : Mat) : rowsM g n (rowsM f n M) = M := by
  funext r c
  unfold rowsM
  by_cases hr : r < n ∧ c < n
  · rw [if_pos hr]
    exact h (M r) _ (fun c hc => by rw [if_pos ⟨hr.1, hc⟩]) c hr.2
  · rw [if_neg hr, if_neg hr]
theorem cols_cols {f g : Nat → Ln → Ln} {n : Nat} (h : ∀ x y : Ln, (∀ c, c < n → y c = f n x c) → ∀ c, c < n → g n y c = x c) (M : Mat) : colsM g n (colsM f n M) = M := by
  funext r c
  unfold colsM
  by_cases hr : r < n ∧ c < n
  · rw [if_pos hr]
    exact h (fun k => M k c) _ (fun k hk => by rw [if_pos ⟨hk, hr.2⟩]) r hr.1
  · rw [if_neg hr, if_neg hr]

def fwd : Nat → Mat → Mat
  | 0, M => M
  | k + 1, M => fwd k (colsM spl (2 ^ (k + 1)) (rowsM spl (2 ^ (k + 1)) M))
def inv : Nat → Mat → Mat
  | 0, M => M
  | k + 1, M => rowsM joi (2 ^ (k + 1)) (colsM joi (2 ^ (k + 1)) (inv k M))

theorem pow_half (k : Nat) : 2 ^ (k + 1) = 2 * 2 ^ k := by rw [Nat.pow_succ, Nat.mul_comm]

theorem inv_fwd : ∀ (k : Nat) (M : Mat), inv k (fwd k M) = M
  | 0, M => rfl
  | k + 1, M => by
    show rowsM joi _ (colsM joi _ (inv k (fwd k _))) = M
    rw [inv_fwd k, cols_cols (fun x y hy c hc => ?_), rows_rows (fun x y hy c hc => ?_)]
    · rw [pow_half] at *; exact joi_spl _ x y hy c hc
    · rw [pow_half] at *; exact joi_spl _ x y hy c hc
theorem fwd_inv : ∀ (k : Nat) (M : Mat), fwd k (inv k M) = M
  | 0, M => rfl
  | k + 1, M => by
    show fwd k (colsM spl _ (rowsM spl _ (rowsM joi _ (colsM joi _ (inv k M))))) = M
    rw [rows_rows (fun x y hy c hc => ?_), cols_cols (fun x y hy c hc => ?_), fwd_inv k]
    · rw [pow_half] at *; exact spl_joi _ x y hy c hc
    · rw [pow_half] at *; exact spl_joi _ x y hy c hc

/-! ### Bounds -/
def BndM (B : Int) (M : Mat) : Prop := ∀ r c, -B ≤ M r c ∧ M r c ≤ B
theorem spl_bnd {n : Nat} {x : Ln} {B : Int} (h : ∀ c, -B ≤ x c ∧ x c ≤ B) (c : Nat) : -(2 * B) ≤ spl n x c ∧ spl n x c ≤ 2 * B := by
  unfold spl
  split
  · have := h (2 * c); have := h (2 * c + 1); omega
  · have := h (2 * (c - n / 2)); have := h (2 * (c - n / 2) + 1); omega
theorem joi_bnd {n : Nat} {x : Ln} {B : Int} (hB : 1 ≤ B) (h : ∀ c, -B ≤ x c ∧ x c ≤ B) (c : Nat) : -(4 * B) ≤ joi n x c ∧ joi n x c ≤ 4 * B := by
  unfold joi
  have := h (c / 2); have := h (n / 2 + c / 2)
  split <;> omega

/-! ### Squares as lists -/
def toL (s : Nat) (M : Mat) : List Int := (List.range (s * s)).map fun p => M (p / s) (p % s)
def ofL (s : Nat) (a : List Int) : Mat := fun r c => if r < s ∧ c < s then a.getD (r * s + c) 0 else 0
theorem toL_len (s : Nat) (M : Mat) : (toL s M).length = s * s := by simp [toL]

theorem place {s r c : Nat} (hr : r < s) (hc : c < s) : r * s + c < s * s ∧ (r * s + c) / s = r ∧ (r * s + c) % s = c := by
  have hs : 0 < s := by omega
  refine ⟨?_, ?_, ?_⟩
  · have : (r + 1) * s ≤ s * s := Nat.mul_le_mul_right _ hr
    rw [Nat.add_mul] at this; omega
  · rw [Nat.add_comm, Nat.add_mul_div_right _ _ hs, Nat.div_eq_of_lt hc]; omega
  · rw [Nat.add_comm, Nat.add_mul_mod_self_right, Nat.mod_eq_of_lt hc]
theorem place' {s p : Nat} (hp : p < s * s) : p / s < s ∧ p % s < s ∧ p / s * s + p % s = p := by
  have hs : 0 < s := by
    rcases Nat.eq_zero_or_pos s with h | h
    · rw [h] at hp; omega
    · exact h
  exact ⟨Nat.div_lt_of_lt_mul hp, Nat.mod_lt _ hs, Nat.div_add_mod' p s⟩

theorem toL_get {s : Nat} (M : Mat) {r c : Nat} (hr : r < s) (hc : c < s) : (toL s M)[r * s + c]? = some (M r c) := by
  obtain ⟨h1, h2, h3⟩ := place hr hc
  simp [toL, h1, h2, h3]
theorem toL_getD {s : Nat} (M : Mat) {r c : Nat} (hr : r < s) (hc : c < s) : (toL s M).getD (r * s + c) 0 = M r c := by
  rw [List.getD_eq_getElem?_getD, toL_get M hr hc]; rfl
theorem toL_at {s : Nat} (M : Mat) {p : Nat} (hp : p < s * s) : (toL s M)[p]? = some (M (p / s) (p % s)) := by
  simp [toL, hp]
theorem toL_ofL {s : Nat} {a : List Int} (h : a.length = s * s) : toL s (ofL s a) = a := by
  apply List.ext_getElem?
  intro p
  by_cases hp : p < s * s
  · obtain ⟨h1, h2, h3⟩ := place' hp
    rw [toL_at _ hp]
    unfold ofL
    rw [if_pos ⟨h1, h2⟩, h3]
    simp [show p < a.length by omega]
  · rw [List.getElem?_eq_none (by rw [toL_len]; omega), List.getElem?_eq_none (by omega)]
theorem toL_congr {s : Nat} {M N : Mat} (h : ∀ r c, r < s → c < s → M r c = N r c) : toL s M = toL s N := by
  unfold toL
  refine List.map_congr_left fun p hp => ?_
  have hp : p < s * s := by simpa using hp
  obtain ⟨h1, h2, _⟩ := place' hp
  exact h _ _ h1 h2
theorem toL_inj {s : Nat} {M N : Mat} (h : toL s M = toL s N) {r c : Nat} (hr : r < s) (hc : c < s) : M r c = N r c := by
  have h1 := toL_get M hr hc
  rw [h, toL_get N hr hc] at h1
  exact (Option.some.inj h1).symm

def updM (M : Mat) (r c : Nat) (v : Int) : Mat := fun i k => if i = r ∧ k = c then v else M i k
theorem toL_set {s : Nat} (M : Mat) {r c : Nat} (hr : r < s) (hc : c < s) (v : Int) : (toL s M).set (r * s + c) v = toL s (updM M r c v) := by
  apply List.ext_getElem?
  intro p
  by_cases hp : p < s * s
  · obtain ⟨h1, h2, h3⟩ := place' hp
    obtain ⟨k1, k2, k3⟩ := place hr hc
    rw [List.getElem?_set, toL_at _ hp, toL_at _ hp]
    by_cases e : r * s + c = p
    · subst e
      rw [if_pos rfl, k2, k3]
      unfold updM
      simp [toL_len, k1]
    · rw [if_neg e]
      unfold updM
      rw [if_neg (fun h => e (by rw [← h3, h.1, h.2]))]
  · rw [List.getElem?_eq_none (by rw [List.length_set, toL_len]; omega), List.getElem?_eq_none (by rw [toL_len]; omega)]

def lnL (n : Nat) (x : Ln) : List Int := (List.range n).map x
theorem lnL_len (n : Nat) (x : Ln) : (lnL n x).length = n := by simp [lnL]
theorem lnL_getD {n c : Nat} (x : Ln) (h : c < n) : (lnL n x).getD c 0 = x c := by simp [lnL, h]
theorem lnL_get {n c : Nat} (x : Ln) (h : c < n) : (lnL n x)[c]? = some (x c) := by simp [lnL, h]
theorem lnL_congr {n : Nat} {x y : Ln} (h : ∀ c, c < n → x c = y c) : lnL n x = lnL n y := List.map_congr_left fun c hc => h c (by simpa using hc)
theorem lnL_of (a : List Int) : lnL a.length (fun c => a.getD c 0) = a := by
  apply List.ext_getElem?
  intro p
  by_cases hp : p < a.length
  · rw [lnL_get _ hp]; simp [hp]
  · rw [List.getElem?_eq_none (by rw [lnL_len]; omega), List.getElem?_eq_none (by omega)]
theorem lnL_set {n c : Nat} (x : Ln) (h : c < n) (v : Int) : (lnL n x).set c v = lnL n (fun k => if k = c then v else x k) := by
  apply List.ext_getElem?
  intro p
  by_cases hp : p < n
  · rw [List.getElem?_set, lnL_get _ hp, lnL_get _ hp]
    by_cases e : c = p
    · subst e; simp [lnL_len, h]
    · rw [if_neg e, if_neg (fun h => e h.symm)]
  · rw [List.getElem?_eq_none (by rw [List.length_set, lnL_len]; omega), List.getElem?_eq_none (by rw [lnL_len]; omega)]

/-- A row's first numbers. -/
theorem toL_row {s n i : Nat} (M : Mat) (hi : i < s) (hn : n ≤ s) : ((toL s M).drop (i * s)).take n = lnL n (M i) := by
  apply List.ext_getElem?
  intro c
  by_cases hc : c < n
  · rw [List.getElem?_take, if_pos hc, List.getElem?_drop, toL_get M hi (by omega), lnL_get _ hc]
  · rw [List.getElem?_eq_none (by rw [List.length_take]; omega), List.getElem?_eq_none (by rw [lnL_len]; omega)]
theorem toL_put {s n i : Nat} (M : Mat) (x : Ln) (hi : i < s) (hn : n ≤ s) : (toL s M).take (i * s) ++ lnL n x ++ (toL s M).drop (i * s + n) = toL s (fun r c => if r = i ∧ c < n then x c else M r c) := by
  have hin : i * s + n ≤ s * s := by
    have : (i + 1) * s ≤ s * s := Nat.mul_le_mul_right _ hi
    rw [Nat.add_mul] at this; omega
  apply List.ext_getElem?
  intro p
  have hL : ((toL s M).take (i * s) ++ lnL n x).length = i * s + n := by
    rw [List.length_append, List.length_take, toL_len, lnL_len]; omega
  by_cases hp : p < s * s
  · obtain ⟨h1, h2, h3⟩ := place' hp
    rw [toL_at _ hp]
    by_cases c1 : p < i * s
    · rw [List.getElem?_append_left (by omega), List.getElem?_append_left (by rw [List.length_take, toL_len]; omega), List.getElem?_take, if_pos c1, toL_at _ hp]
      have : p / s ≠ i := fun e => by rw [e] at h3; omega
      rw [if_neg (fun h => this h.1)]
    · by_cases c2 : p < i * s + n
      · rw [List.getElem?_append_left (by omega), List.getElem?_append_right (by rw [List.length_take, toL_len]; omega), List.length_take, toL_len, Nat.min_eq_left (by omega), lnL_get _ (by omega)]
        obtain ⟨k1, k2, k3⟩ := place hi (show p - i * s < s by omega)
        rw [show i * s + (p - i * s) = p by omega] at k2 k3
        rw [k2, k3, if_pos ⟨rfl, by omega⟩]
      · rw [List.getElem?_append_right (by omega), hL, List.getElem?_drop, show i * s + n + (p - (i * s + n)) = p by omega, toL_at _ hp]
        have : ¬ (p / s = i ∧ p % s < n) := fun h => by rw [h.1] at h3; omega
        rw [if_neg this]
  · rw [List.getElem?_eq_none (by rw [List.length_append, hL, List.length_drop, toL_len]; omega), List.getElem?_eq_none (by rw [toL_len]; omega)]
end Go.Proofs.Ytgmooalikccbiaa
/- The walks of package wavelet: lines. -/
namespace Go.Proofs.Ytgmooalikccbiaa
open Go.Fw Go
set_option linter.unusedVariables false
set_option linter.unusedSimpArgs false

def iL (n : Nat) (X : Ln) : List AV := iS .i64 (lnL n X)
@[simp] theorem iL_len (n : Nat) (X : Ln) : (iL n X).length = n := by simp [iL, lnL]
theorem iL_get {n i : Nat} (X : Ln) (h : i < n) : (iL n X)[i]? = some (.int .i64 (X i)) := by
  unfold iL iS
  rw [List.getElem?_map, lnL_get X h]; rfl
theorem iL_one (n : Nat) (X : Ln) : (iL n X).all one = true := one_iS _ _
theorem iL_congr {n : Nat} {X Y : Ln} (h : ∀ c, c < n → X c = Y c) : iL n X = iL n Y := by unfold iL; rw [lnL_congr h]
theorem iL_zero (n : Nat) : (List.replicate n [AV.int .i64 0]).flatten = iL n (fun _ => 0) := by
  apply List.ext_getElem?
  intro i
  have : (List.replicate n [AV.int .i64 0]).flatten = List.replicate n (AV.int .i64 0) := by
    induction n with
    | zero => rfl
    | succ n ih => rw [List.replicate_succ, List.flatten_cons, ih, List.replicate_succ]; rfl
  rw [this]
  by_cases h : i < n
  · rw [iL_get _ h]; simp [h]
  · rw [List.getElem?_eq_none (by simp; omega), List.getElem?_eq_none (by rw [iL_len]; omega)]
theorem iS_wr {a : List Int} {k : Nat} {v : Int} (h : k < a.length) : wrA (iS .i64 a) k [.int .i64 v] = iS .i64 (a.set k v) := by
  unfold wrA
  rw [List.set_eq_take_append_cons_drop, if_pos h]
  simp [iS, List.map_take, List.map_drop]
theorem iL_wr {n c : Nat} (X : Ln) (h : c < n) (v : Int) : wrA (iL n X) c [.int .i64 v] = iL n (fun k => if k = c then v else X k) := by
  unfold iL
  rw [iS_wr (by rw [lnL_len]; exact h), lnL_set X h]

@[simp] theorem wrA_len (l : List AV) (k : Nat) (v : AV) : (wrA l k [v]).length = min k l.length + 1 + (l.length - (k + 1)) := by simp [wrA]; omega

def inB (m : Int) (a : List Int) : Bool := a.all fun x => decide (-m ≤ x ∧ x ≤ m)
theorem inB_iff {m : Int} {a : List Int} : inB m a = true ↔ ∀ x ∈ a, -m ≤ x ∧ x ≤ m := by simp [inB]

end Go.Proofs.Ytgmooalikccbiaa
/- The walks of the reference's helpers: Around, Bound, Short, Few, Ints, SameInts, SameBytes; rows changed in one place. -/
namespace Go.Proofs.Ytgmooalikccbiaa
open Go.Fw Go
set_option linter.unusedVariables false
set_option linter.unusedSimpArgs false

set_option maxRecDepth 8000 in
theorem few_c (bs : List UInt8) (n : Nat) (h1 : n ≤ 1000000) (H : AH) : ACall Try.prog 25 [.cs (u8s bs) bs.length, .int .i64 n] H (fun y H' => ∃ r, H r = none ∧ y = .sl r 0 1 0 (min bs.length n) none ∧ H' = H.set r (.row (u8s (bs.take n)) 0)) := by
  refine ACall_of tt_ok (dok _) Try.func25 rfl (by decide) rfl ?_
  (repeat' ((conv => whnf); first | refine Then.mk ?_ | left | refine OpsA.cons ?_ | refine OpsA.nil ?_ | refine AWq.seq ?_ | refine AWq.region ?_ | refine AWq.cond ?_ | refine AWq.block ?_ | refine AWq.skip ?_ | refine AWq.scope ?_ | refine AWq.label ?_ | refine AWq.ret ?_ | refine AWq.exit ?_ | refine AWq.loop ?_ | refine AWq.rangeFunc ?_ | refine DrawA.consD ?_ | refine DrawA.nil ?_ | refine DrawL.consD ?_ | refine DrawL.nil ?_ | refine DrawF.consD ?_ | refine DrawF.nil ?_ | refine AWq.draw (by decide +kernel) ?_ | (refine Both.mk ?_ ?_ <;> intro hc <;> (first | exact Bool.noConfusion hc | exact absurd (by with_reducible rfl) hc | exact (hc : False).elim | exact absurd (by assumption) hc | exact absurd hc (by assumption) | (exfalso; omega) | exact absurd hc (by decide) | skip)) | (intro c hc; (try (simp only [AH.none_iff] at hc; repeat (have hn := hc.1; replace hc := hc.2))); (first | (have hc2 := Eq.trans hc (by with_reducible assumption); clear hc; subst hc2) | (refine i64_k hc ?_ ?_ ?_ ; omega; omega; (clear hc; intro hc; subst hc)) | (refine u64_k hc ?_ ?_ ?_ ; omega; omega; (clear hc; intro hc; subst hc)) | (refine u8_k hc ?_ ?_ ?_ ; omega; omega; (clear hc; intro hc; subst hc)) | subst hc | skip)) | (apply Exists.intro; apply And.intro; (focus (repeat (first | assumption | exact AH.set_same _ _ _ | ((first | refine AH.get_ne ?_ ?_ | refine AH.getd_ne ?_ ?_); (first | assumption | omega | exact Ne.symm (by assumption) | exact AH.ne_none (by assumption) (by assumption) | exact AH.none_ne (by assumption) (by assumption) | exact (AH.none_set (by assumption)).1 | exact Ne.symm (AH.none_set (by assumption)).1)))); done)) | (apply Exists.intro; apply And.intro; first | (with_reducible assumption) | ((try simp only [List.getElem?_drop, Nat.mul_one, Nat.add_zero, Nat.zero_add]); first | (with_reducible assumption) | (refine u8s_get ?_; omega) | (refine iS_get ?_; omega) | assumption | rfl | fail)) | (apply And.intro; (first | rfl | (with_reducible assumption) | exact Nat.le_of_ble_eq_true rfl | omega | (exact Int.ofNat_lt.2 (Nat.lt_of_lt_of_eq (by with_reducible assumption) (by decide +kernel))) | assumption | (simp <;> fail) | (simp <;> omega) | (focus (repeat' (first | exact one_u8s _ | exact one_iS _ _ | rfl | apply one_take | apply one_drop | apply one_append)); done) | fail)) | fail)) <;> (try (conv => whnf))
  · rw [Nat.mul_one, u8s_take, show (min (bs.length : Int) n).toNat = min n bs.length by omega, ← List.take_eq_take_min]

set_option maxRecDepth 8000 in
theorem ints_c (l : List Int) (n : Nat) (h1 : n ≤ 1000000) (H : AH) : ACall Try.prog 19 [.cs (iS .i64 l) l.length, .int .i64 n] H (fun y H' => ∃ r, H r = none ∧ y = .sl r 0 1 0 (min l.length n) none ∧ H' = H.set r (.row (iS .i64 (l.take n)) 0)) := by
  refine ACall_of tt_ok (dok _) Try.func19 rfl (by decide) rfl ?_
  (repeat' ((conv => whnf); first | refine Then.mk ?_ | left | refine OpsA.cons ?_ | refine OpsA.nil ?_ | refine AWq.seq ?_ | refine AWq.region ?_ | refine AWq.cond ?_ | refine AWq.block ?_ | refine AWq.skip ?_ | refine AWq.scope ?_ | refine AWq.label ?_ | refine AWq.ret ?_ | refine AWq.exit ?_ | refine AWq.loop ?_ | refine AWq.rangeFunc ?_ | refine DrawA.consD ?_ | refine DrawA.nil ?_ | refine DrawL.consD ?_ | refine DrawL.nil ?_ | refine DrawF.consD ?_ | refine DrawF.nil ?_ | refine AWq.draw (by decide +kernel) ?_ | (refine Both.mk ?_ ?_ <;> intro hc <;> (first | exact Bool.noConfusion hc | exact absurd (by with_reducible rfl) hc | exact (hc : False).elim | exact absurd (by assumption) hc | exact absurd hc (by assumption) | (exfalso; omega) | exact absurd hc (by decide) | skip)) | (intro c hc; (try (simp only [AH.none_iff] at hc; repeat (have hn := hc.1; replace hc := hc.2))); (first | (have hc2 := Eq.trans hc (by with_reducible assumption); clear hc; subst hc2) | (refine i64_k hc ?_ ?_ ?_ ; omega; omega; (clear hc; intro hc; subst hc)) | (refine u64_k hc ?_ ?_ ?_ ; omega; omega; (clear hc; intro hc; subst hc)) | (refine u8_k hc ?_ ?_ ?_ ; omega; omega; (clear hc; intro hc; subst hc)) | subst hc | skip)) | (apply Exists.intro; apply And.intro; (focus (repeat (first | assumption | exact AH.set_same _ _ _ | ((first | refine AH.get_ne ?_ ?_ | refine AH.getd_ne ?_ ?_); (first | assumption | omega | exact Ne.symm (by assumption) | exact AH.ne_none (by assumption) (by assumption) | exact AH.none_ne (by assumption) (by assumption) | exact (AH.none_set (by assumption)).1 | exact Ne.symm (AH.none_set (by assumption)).1)))); done)) | (apply Exists.intro; apply And.intro; first | (with_reducible assumption) | ((try simp only [List.getElem?_drop, Nat.mul_one, Nat.add_zero, Nat.zero_add]); first | (with_reducible assumption) | (refine u8s_get ?_; omega) | (refine iS_get ?_; omega) | assumption | rfl | fail)) | (apply And.intro; (first | rfl | (with_reducible assumption) | exact Nat.le_of_ble_eq_true rfl | omega | (exact Int.ofNat_lt.2 (Nat.lt_of_lt_of_eq (by with_reducible assumption) (by decide +kernel))) | assumption | (simp <;> fail) | (simp <;> omega) | (focus (repeat' (first | exact one_u8s _ | exact one_iS _ _ | rfl | apply one_take | apply one_drop | apply one_append)); done) | fail)) | fail)) <;> (try (conv => whnf))
  · rw [Nat.mul_one, iS_take, show (min (l.length : Int) n).toNat = min n l.length by omega, ← List.take_eq_take_min]

theorem ints_k (l : List Int) (n : Nat) (h1 : n ≤ 1000000) (H : AH) : ACall Try.prog 19 [.cs (iS .i64 l) l.length, .int .i64 n] H (fun y H' => y = .cs (iS .i64 (l.take n)) (l.take n).length ∧ H' = H) :=
  ACall.cold (es := 1) (by simp) ((ints_c l n h1 H).mono fun y H' ⟨r, hr, hy, hH⟩ => ⟨r, hr, 0, by rw [hy, List.length_take, Nat.min_comm], hH⟩)

theorem few_k (l : List UInt8) (n : Nat) (h1 : n ≤ 1000000) (H : AH) : ACall Try.prog 25 [.cs (u8s l) l.length, .int .i64 n] H (fun y H' => y = .cs (u8s (l.take n)) (l.take n).length ∧ H' = H) :=
  ACall.cold (es := 1) (by simp) ((few_c l n h1 H).mono fun y H' ⟨r, hr, hy, hH⟩ => ⟨r, hr, 0, by rw [hy, List.length_take, Nat.min_comm], hH⟩)

set_option maxRecDepth 8000 in
theorem around_k (n : Int) (h1 : -9223372036854775808 ≤ n) (h2 : n ≤ 9223372036854775807) (m : Nat) (hm : 1 ≤ m) (hm2 : m ≤ 1000000) :
    ∃ k : Nat, k < m ∧ ∀ H, ACall Try.prog 14 [.int .i64 n, .int .i64 m] H (fun y H' => y = .int .i64 k ∧ H' = H) := by
  by_cases hn : n < 0
  · have hp : 0 ≤ (-(n + 1)).tmod m := Int.tmod_nonneg _ (by omega)
    have hlt : (-(n + 1)).tmod m < m := Int.tmod_lt_of_pos _ (by omega)
    refine ⟨((-(n + 1)).tmod m).toNat, by omega, fun H => ?_⟩
    rw [Int.toNat_of_nonneg hp]
    refine ACall_of tt_ok (dok _) Try.func14 rfl (by decide) rfl ?_
    (repeat' ((conv => whnf); first | refine Then.mk ?_ | left | refine OpsA.cons ?_ | refine OpsA.nil ?_ | refine AWq.seq ?_ | refine AWq.region ?_ | refine AWq.cond ?_ | refine AWq.block ?_ | refine AWq.skip ?_ | refine AWq.scope ?_ | refine AWq.label ?_ | refine AWq.ret ?_ | refine AWq.exit ?_ | refine AWq.loop ?_ | refine AWq.rangeFunc ?_ | refine DrawA.consD ?_ | refine DrawA.nil ?_ | refine DrawL.consD ?_ | refine DrawL.nil ?_ | refine DrawF.consD ?_ | refine DrawF.nil ?_ | refine AWq.draw (by decide +kernel) ?_ | (refine Both.mk ?_ ?_ <;> intro hc <;> (first | exact Bool.noConfusion hc | exact absurd (by with_reducible rfl) hc | exact (hc : False).elim | exact absurd (by assumption) hc | exact absurd hc (by assumption) | (exfalso; omega) | exact absurd hc (by decide) | skip)) | (intro c hc; (try (simp only [AH.none_iff] at hc; repeat (have hn := hc.1; replace hc := hc.2))); (first | (have hc2 := Eq.trans hc (by with_reducible assumption); clear hc; subst hc2) | (refine i64_k hc ?_ ?_ ?_ ; omega; omega; (clear hc; intro hc; subst hc)) | (refine u64_k hc ?_ ?_ ?_ ; omega; omega; (clear hc; intro hc; subst hc)) | (refine u8_k hc ?_ ?_ ?_ ; omega; omega; (clear hc; intro hc; subst hc)) | subst hc | skip)) | (apply Exists.intro; apply And.intro; (focus (repeat (first | assumption | exact AH.set_same _ _ _ | ((first | refine AH.get_ne ?_ ?_ | refine AH.getd_ne ?_ ?_); (first | assumption | omega | exact Ne.symm (by assumption) | exact AH.ne_none (by assumption) (by assumption) | exact AH.none_ne (by assumption) (by assumption) | exact (AH.none_set (by assumption)).1 | exact Ne.symm (AH.none_set (by assumption)).1)))); done)) | (apply Exists.intro; apply And.intro; first | (with_reducible assumption) | ((try simp only [List.getElem?_drop, Nat.mul_one, Nat.add_zero, Nat.zero_add]); first | (with_reducible assumption) | (refine u8s_get ?_; omega) | (refine iS_get ?_; omega) | assumption | rfl | fail)) | (apply And.intro; (first | rfl | (with_reducible assumption) | exact Nat.le_of_ble_eq_true rfl | omega | (exact Int.ofNat_lt.2 (Nat.lt_of_lt_of_eq (by with_reducible assumption) (by decide +kernel))) | assumption | (simp <;> fail) | (simp <;> omega) | (focus (repeat' (first | exact one_u8s _ | exact one_iS _ _ | rfl | apply one_take | apply one_drop | apply one_append)); done) | fail)) | fail)) <;> (try (conv => whnf))
  · have hp : 0 ≤ n.tmod m := Int.tmod_nonneg _ (by omega)
    have hlt : n.tmod m < m := Int.tmod_lt_of_pos _ (by omega)
    refine ⟨(n.tmod m).toNat, by omega, fun H => ?_⟩
    rw [Int.toNat_of_nonneg hp]
    refine ACall_of tt_ok (dok _) Try.func14 rfl (by decide) rfl ?_
    (repeat' ((conv => whnf); first | refine Then.mk ?_ | left | refine OpsA.cons ?_ | refine OpsA.nil ?_ | refine AWq.seq ?_ | refine AWq.region ?_ | refine AWq.cond ?_ | refine AWq.block ?_ | refine AWq.skip ?_ | refine AWq.scope ?_ | refine AWq.label ?_ | refine AWq.ret ?_ | refine AWq.exit ?_ | refine AWq.loop ?_ | refine AWq.rangeFunc ?_ | refine DrawA.consD ?_ | refine DrawA.nil ?_ | refine DrawL.consD ?_ | refine DrawL.nil ?_ | refine DrawF.consD ?_ | refine DrawF.nil ?_ | refine AWq.draw (by decide +kernel) ?_ | (refine Both.mk ?_ ?_ <;> intro hc <;> (first | exact Bool.noConfusion hc | exact absurd (by with_reducible rfl) hc | exact (hc : False).elim | exact absurd (by assumption) hc | exact absurd hc (by assumption) | (exfalso; omega) | exact absurd hc (by decide) | skip)) | (intro c hc; (try (simp only [AH.none_iff] at hc; repeat (have hn := hc.1; replace hc := hc.2))); (first | (have hc2 := Eq.trans hc (by with_reducible assumption); clear hc; subst hc2) | (refine i64_k hc ?_ ?_ ?_ ; omega; omega; (clear hc; intro hc; subst hc)) | (refine u64_k hc ?_ ?_ ?_ ; omega; omega; (clear hc; intro hc; subst hc)) | (refine u8_k hc ?_ ?_ ?_ ; omega; omega; (clear hc; intro hc; subst hc)) | subst hc | skip)) | (apply Exists.intro; apply And.intro; (focus (repeat (first | assumption | exact AH.set_same _ _ _ | ((first | refine AH.get_ne ?_ ?_ | refine AH.getd_ne ?_ ?_); (first | assumption | omega | exact Ne.symm (by assumption) | exact AH.ne_none (by assumption) (by assumption) | exact AH.none_ne (by assumption) (by assumption) | exact (AH.none_set (by assumption)).1 | exact Ne.symm (AH.none_set (by assumption)).1)))); done)) | (apply Exists.intro; apply And.intro; first | (with_reducible assumption) | ((try simp only [List.getElem?_drop, Nat.mul_one, Nat.add_zero, Nat.zero_add]); first | (with_reducible assumption) | (refine u8s_get ?_; omega) | (refine iS_get ?_; omega) | assumption | rfl | fail)) | (apply And.intro; (first | rfl | (with_reducible assumption) | exact Nat.le_of_ble_eq_true rfl | omega | (exact Int.ofNat_lt.2 (Nat.lt_of_lt_of_eq (by with_reducible assumption) (by decide +kernel))) | assumption | (simp <;> fail) | (simp <;> omega) | (focus (repeat' (first | exact one_u8s _ | exact one_iS _ _ | rfl | apply one_take | apply one_drop | apply one_append)); done) | fail)) | fail)) <;> (try (conv => whnf))

set_option maxRecDepth 8000 in
theorem sameints_c (a b : List Int) (ha : a.length ≤ 1000000) (hb : b.length ≤ 1000000) (H : AH) :
    ACall Try.prog 24 [.cs (iS .i64 a) a.length, .cs (iS .i64 b) b.length] H (fun y H' => y = .bool (decide (a = b)) ∧ H' = H) := by
  refine ACall_of tt_ok (dok _) Try.func24 rfl (by decide) rfl ?_
  (repeat' ((conv => whnf); first | refine Then.mk ?_ | left | refine OpsA.cons ?_ | refine OpsA.nil ?_ | refine AWq.seq ?_ | refine AWq.region ?_ | refine AWq.cond ?_ | refine AWq.block ?_ | refine AWq.skip ?_ | refine AWq.scope ?_ | refine AWq.label ?_ | refine AWq.ret ?_ | refine AWq.exit ?_ | refine AWq.loop ?_ | refine AWq.rangeFunc ?_ | refine DrawA.consD ?_ | refine DrawA.nil ?_ | refine DrawL.consD ?_ | refine DrawL.nil ?_ | refine DrawF.consD ?_ | refine DrawF.nil ?_ | refine AWq.draw (by decide +kernel) ?_ | (refine Both.mk ?_ ?_ <;> intro hc <;> (first | exact Bool.noConfusion hc | exact absurd (by with_reducible rfl) hc | exact (hc : False).elim | exact absurd (by assumption) hc | exact absurd hc (by assumption) | (exfalso; omega) | exact absurd hc (by decide) | skip)) | (intro c hc; (try (simp only [AH.none_iff] at hc; repeat (have hn := hc.1; replace hc := hc.2))); (first | (have hc2 := Eq.trans hc (by with_reducible assumption); clear hc; subst hc2) | (refine i64_k hc ?_ ?_ ?_ ; omega; omega; (clear hc; intro hc; subst hc)) | (refine u64_k hc ?_ ?_ ?_ ; omega; omega; (clear hc; intro hc; subst hc)) | (refine u8_k hc ?_ ?_ ?_ ; omega; omega; (clear hc; intro hc; subst hc)) | subst hc | skip)) | (apply Exists.intro; apply And.intro; (focus (repeat (first | assumption | exact AH.set_same _ _ _ | ((first | refine AH.get_ne ?_ ?_ | refine AH.getd_ne ?_ ?_); (first | assumption | omega | exact Ne.symm (by assumption) | exact AH.ne_none (by assumption) (by assumption) | exact AH.none_ne (by assumption) (by assumption) | exact (AH.none_set (by assumption)).1 | exact Ne.symm (AH.none_set (by assumption)).1)))); done)) | (apply Exists.intro; apply And.intro; first | (with_reducible assumption) | ((try simp only [List.getElem?_drop, Nat.mul_one, Nat.add_zero, Nat.zero_add]); first | (with_reducible assumption) | (refine u8s_get ?_; omega) | (refine iS_get ?_; omega) | assumption | rfl | fail)) | (apply And.intro; (first | rfl | (with_reducible assumption) | exact Nat.le_of_ble_eq_true rfl | omega | (exact Int.ofNat_lt.2 (Nat.lt_of_lt_of_eq (by with_reducible assumption) (by decide +kernel))) | assumption | (simp <;> fail) | (simp <;> omega) | (focus (repeat' (first | exact one_u8s _ | exact one_iS _ _ | rfl | apply one_take | apply one_drop | apply one_append)); done) | fail)) | fail)) <;> (try (conv => whnf))
  · rename_i hne
    have : a ≠ b := fun e => hne (by rw [e])
    exact ⟨by rw [decide_eq_false this], rfl⟩
  · rename_i hl
    refine AWp_loop (σ := Nat) (4 :: 5 :: 11 :: 12 :: 13 :: 14 :: 15 :: 16 :: 17 :: 18 :: 19 :: 20 :: 21 :: 22 :: 23 :: 24 :: 25 :: []) (fun j => [(5, .int .i64 j)]) (fun _ => H) (fun j => j ≤ a.length ∧ ∀ i, i < j → a.getD i 0 = b.getD i 0) (fun j => a.length - j) 0 rfl ?_ ?_ ?_ ?_
    · exact ⟨Nat.zero_le _, fun i hi => absurd hi (Nat.not_lt_zero _)⟩
    · exact ⟨rfl, trivial⟩
    · exact HLe.refl _
    · rintro j ⟨hj, hs⟩
      refine AWp.of tt_ok (dok _) rfl ?_
      (repeat' ((conv => whnf); first | refine Then.mk ?_ | left | refine OpsA.cons ?_ | refine OpsA.nil ?_ | refine AWq.seq ?_ | refine AWq.region ?_ | refine AWq.cond ?_ | refine AWq.block ?_ | refine AWq.skip ?_ | refine AWq.scope ?_ | refine AWq.label ?_ | refine AWq.ret ?_ | refine AWq.exit ?_ | refine AWq.loop ?_ | refine AWq.rangeFunc ?_ | refine DrawA.consD ?_ | refine DrawA.nil ?_ | refine DrawL.consD ?_ | refine DrawL.nil ?_ | refine DrawF.consD ?_ | refine DrawF.nil ?_ | refine AWq.draw (by decide +kernel) ?_ | (refine Both.mk ?_ ?_ <;> intro hc <;> (first | exact Bool.noConfusion hc | exact absurd (by with_reducible rfl) hc | exact (hc : False).elim | exact absurd (by assumption) hc | exact absurd hc (by assumption) | (exfalso; omega) | exact absurd hc (by decide) | skip)) | (intro c hc; (try (simp only [AH.none_iff] at hc; repeat (have hn := hc.1; replace hc := hc.2))); (first | (have hc2 := Eq.trans hc (by with_reducible assumption); clear hc; subst hc2) | (refine i64_k hc ?_ ?_ ?_ ; omega; omega; (clear hc; intro hc; subst hc)) | (refine u64_k hc ?_ ?_ ?_ ; omega; omega; (clear hc; intro hc; subst hc)) | (refine u8_k hc ?_ ?_ ?_ ; omega; omega; (clear hc; intro hc; subst hc)) | subst hc | skip)) | (apply Exists.intro; apply And.intro; (focus (repeat (first | assumption | exact AH.set_same _ _ _ | ((first | refine AH.get_ne ?_ ?_ | refine AH.getd_ne ?_ ?_); (first | assumption | omega | exact Ne.symm (by assumption) | exact AH.ne_none (by assumption) (by assumption) | exact AH.none_ne (by assumption) (by assumption) | exact (AH.none_set (by assumption)).1 | exact Ne.symm (AH.none_set (by assumption)).1)))); done)) | (apply Exists.intro; apply And.intro; first | (with_reducible assumption) | ((try simp only [List.getElem?_drop, Nat.mul_one, Nat.add_zero, Nat.zero_add]); first | (with_reducible assumption) | (refine u8s_get ?_; omega) | (refine iS_get ?_; omega) | assumption | rfl | fail)) | (apply And.intro; (first | rfl | (with_reducible assumption) | exact Nat.le_of_ble_eq_true rfl | omega | (exact Int.ofNat_lt.2 (Nat.lt_of_lt_of_eq (by with_reducible assumption) (by decide +kernel))) | assumption | (simp <;> fail) | (simp <;> omega) | (focus (repeat' (first | exact one_u8s _ | exact one_iS _ _ | rfl | apply one_take | apply one_drop | apply one_append)); done) | fail)) | fail)) <;> (try (conv => whnf))
      · rename_i hd
        have : a ≠ b := fun e => hd (by rw [e])
        exact ⟨by rw [decide_eq_false this], rfl⟩
      · rename_i hd
        refine ⟨j + 1, ⟨by omega, fun i hi => ?_⟩, by omega, ⟨congrArg (AV.int .i64) (by omega), trivial⟩, HLe.refl _⟩
        by_cases h : i < j
        · exact hs i h
        · have : i = j := by omega
          rw [this]; simpa using hd
      · have : a = b := by
          apply List.ext_getElem (by omega)
          intro i h1 h2
          have := hs i (by omega)
          simpa [h1, h2] using this
        exact ⟨by rw [decide_eq_true this], rfl⟩

set_option maxRecDepth 8000 in
theorem samebytes_c (a b : List UInt8) (ha : a.length ≤ 1000000) (hb : b.length ≤ 1000000) (H : AH) :
    ACall Try.prog 17 [.cs (u8s a) a.length, .cs (u8s b) b.length] H (fun y H' => y = .bool (decide (a = b)) ∧ H' = H) := by
  refine ACall_of tt_ok (dok _) Try.func17 rfl (by decide) rfl ?_
  (repeat' ((conv => whnf); first | refine Then.mk ?_ | left | refine OpsA.cons ?_ | refine OpsA.nil ?_ | refine AWq.seq ?_ | refine AWq.region ?_ | refine AWq.cond ?_ | refine AWq.block ?_ | refine AWq.skip ?_ | refine AWq.scope ?_ | refine AWq.label ?_ | refine AWq.ret ?_ | refine AWq.exit ?_ | refine AWq.loop ?_ | refine AWq.rangeFunc ?_ | refine DrawA.consD ?_ | refine DrawA.nil ?_ | refine DrawL.consD ?_ | refine DrawL.nil ?_ | refine DrawF.consD ?_ | refine DrawF.nil ?_ | refine AWq.draw (by decide +kernel) ?_ | (refine Both.mk ?_ ?_ <;> intro hc <;> (first | exact Bool.noConfusion hc | exact absurd (by with_reducible rfl) hc | exact (hc : False).elim | exact absurd (by assumption) hc | exact absurd hc (by assumption) | (exfalso; omega) | exact absurd hc (by decide) | skip)) | (intro c hc; (try (simp only [AH.none_iff] at hc; repeat (have hn := hc.1; replace hc := hc.2))); (first | (have hc2 := Eq.trans hc (by with_reducible assumption); clear hc; subst hc2) | (refine i64_k hc ?_ ?_ ?_ ; omega; omega; (clear hc; intro hc; subst hc)) | (refine u64_k hc ?_ ?_ ?_ ; omega; omega; (clear hc; intro hc; subst hc)) | (refine u8_k hc ?_ ?_ ?_ ; omega; omega; (clear hc; intro hc; subst hc)) | subst hc | skip)) | (apply Exists.intro; apply And.intro; (focus (repeat (first | assumption | exact AH.set_same _ _ _ | ((first | refine AH.get_ne ?_ ?_ | refine AH.getd_ne ?_ ?_); (first | assumption | omega | exact Ne.symm (by assumption) | exact AH.ne_none (by assumption) (by assumption) | exact AH.none_ne (by assumption) (by assumption) | exact (AH.none_set (by assumption)).1 | exact Ne.symm (AH.none_set (by assumption)).1)))); done)) | (apply Exists.intro; apply And.intro; first | (with_reducible assumption) | ((try simp only [List.getElem?_drop, Nat.mul_one, Nat.add_zero, Nat.zero_add]); first | (with_reducible assumption) | (refine u8s_get ?_; omega) | (refine iS_get ?_; omega) | assumption | rfl | fail)) | (apply And.intro; (first | rfl | (with_reducible assumption) | exact Nat.le_of_ble_eq_true rfl | omega | (exact Int.ofNat_lt.2 (Nat.lt_of_lt_of_eq (by with_reducible assumption) (by decide +kernel))) | assumption | (simp <;> fail) | (simp <;> omega) | (focus (repeat' (first | exact one_u8s _ | exact one_iS _ _ | rfl | apply one_take | apply one_drop | apply one_append)); done) | fail)) | fail)) <;> (try (conv => whnf))
  · rename_i hne
    have : a ≠ b := fun e => hne (by rw [e])
    exact ⟨by rw [decide_eq_false this], rfl⟩
  · rename_i hl
    refine AWp_loop (σ := Nat) (4 :: 5 :: 11 :: 12 :: 13 :: 14 :: 15 :: 16 :: 17 :: 18 :: 19 :: 20 :: 21 :: 22 :: 23 :: 24 :: 25 :: []) (fun j => [(5, .int .i64 j)]) (fun _ => H) (fun j => j ≤ a.length ∧ ∀ i, i < j → a.getD i 0 = b.getD i 0) (fun j => a.length - j) 0 rfl ?_ ?_ ?_ ?_
    · exact ⟨Nat.zero_le _, fun i hi => absurd hi (Nat.not_lt_zero _)⟩
    · exact ⟨rfl, trivial⟩
    · exact HLe.refl _
    · rintro j ⟨hj, hs⟩
      refine AWp.of tt_ok (dok _) rfl ?_
      (repeat' ((conv => whnf); first | refine Then.mk ?_ | left | refine OpsA.cons ?_ | refine OpsA.nil ?_ | refine AWq.seq ?_ | refine AWq.region ?_ | refine AWq.cond ?_ | refine AWq.block ?_ | refine AWq.skip ?_ | refine AWq.scope ?_ | refine AWq.label ?_ | refine AWq.ret ?_ | refine AWq.exit ?_ | refine AWq.loop ?_ | refine AWq.rangeFunc ?_ | refine DrawA.consD ?_ | refine DrawA.nil ?_ | refine DrawL.consD ?_ | refine DrawL.nil ?_ | refine DrawF.consD ?_ | refine DrawF.nil ?_ | refine AWq.draw (by decide +kernel) ?_ | (refine Both.mk ?_ ?_ <;> intro hc <;> (first | exact Bool.noConfusion hc | exact absurd (by with_reducible rfl) hc | exact (hc : False).elim | exact absurd (by assumption) hc | exact absurd hc (by assumption) | (exfalso; omega) | exact absurd hc (by decide) | skip)) | (intro c hc; (try (simp only [AH.none_iff] at hc; repeat (have hn := hc.1; replace hc := hc.2))); (first | (have hc2 := Eq.trans hc (by with_reducible assumption); clear hc; subst hc2) | (refine i64_k hc ?_ ?_ ?_ ; omega; omega; (clear hc; intro hc; subst hc)) | (refine u64_k hc ?_ ?_ ?_ ; omega; omega; (clear hc; intro hc; subst hc)) | (refine u8_k hc ?_ ?_ ?_ ; omega; omega; (clear hc; intro hc; subst hc)) | subst hc | skip)) | (apply Exists.intro; apply And.intro; (focus (repeat (first | assumption | exact AH.set_same _ _ _ | ((first | refine AH.get_ne ?_ ?_ | refine AH.getd_ne ?_ ?_); (first | assumption | omega | exact Ne.symm (by assumption) | exact AH.ne_none (by assumption) (by assumption) | exact AH.none_ne (by assumption) (by assumption) | exact (AH.none_set (by assumption)).1 | exact Ne.symm (AH.none_set (by assumption)).1)))); done)) | (apply Exists.intro; apply And.intro; first | (with_reducible assumption) | ((try simp only [List.getElem?_drop, Nat.mul_one, Nat.add_zero, Nat.zero_add]); first | (with_reducible assumption) | (refine u8s_get ?_; omega) | (refine iS_get ?_; omega) | assumption | rfl | fail)) | (apply And.intro; (first | rfl | (with_reducible assumption) | exact Nat.le_of_ble_eq_true rfl | omega | (exact Int.ofNat_lt.2 (Nat.lt_of_lt_of_eq (by with_reducible assumption) (by decide +kernel))) | assumption | (simp <;> fail) | (simp <;> omega) | (focus (repeat' (first | exact one_u8s _ | exact one_iS _ _ | rfl | apply one_take | apply one_drop | apply one_append)); done) | fail)) | fail)) <;> (try (conv => whnf))
      · rename_i hd
        have : a ≠ b := fun e => hd (by rw [e])
        exact ⟨by rw [decide_eq_false this], rfl⟩
      · rename_i hd
        refine ⟨j + 1, ⟨by omega, fun i hi => ?_⟩, by omega, ⟨congrArg (AV.int .i64) (by omega), trivial⟩, HLe.refl _⟩
        by_cases h : i < j
        · exact hs i h
        · have : i = j := by omega
          rw [this]
          have h3 : (a.getD j 0).toNat = (b.getD j 0).toNat := by
            have hd : ¬ ((a.getD j 0).toNat : Int) ≠ (b.getD j 0).toNat := hd
            omega
          exact UInt8.toNat_inj.1 h3
      · have : a = b := by
          apply List.ext_getElem (by omega)
          intro i h1 h2
          have := hs i (by omega)
          simpa [h1, h2] using this
        exact ⟨by rw [decide_eq_true this], rfl⟩

theorem wr_iS {K : IntKind} {a : List Int} {k : Nat} {v : Int} (h : k < a.length) : wrA (iS K a) k [.int K v] = iS K (a.set k v) := by
  unfold wrA
  rw [List.set_eq_take_append_cons_drop, if_pos h]
  simp [iS, List.map_take, List.map_drop]

theorem wr_u8s {a : List UInt8} {k : Nat} {v : UInt8} (h : k < a.length) : wrA (u8s a) k [.int .u8 v.toNat] = u8s (a.set k v) := by
  unfold wrA
  rw [List.set_eq_take_append_cons_drop, if_pos h]
  simp [u8s, List.map_take, List.map_drop]

theorem u8_of {x : Int} (h : 0 ≤ x ∧ x ≤ 255) : ∃ w : UInt8, x = w.toNat := by
  refine ⟨UInt8.ofNat x.toNat, ?_⟩
  rw [UInt8.toNat_ofNat']
  omega

theorem ints_all (l : List Int) (n : Nat) (h1 : n ≤ 1000000) (hl : l.length ≤ n) (H : AH) : ACall Try.prog 19 [.cs (iS .i64 l) l.length, .int .i64 n] H (fun y H' => ∃ r, H r = none ∧ y = .sl r 0 1 0 l.length none ∧ H' = H.set r (.row (iS .i64 l) 0)) :=
  (ints_c l n h1 H).mono fun y H' ⟨r, hr, hy, hH⟩ => ⟨r, hr, by rw [hy, Nat.min_eq_left hl], by rw [hH, List.take_of_length_le hl]⟩

theorem ints_s (l : List Int) (n : Nat) (h1 : n ≤ 1000000) (H : AH) : ACall Try.prog 19 [.cs (iS .i64 l) l.length, .int .i64 n] H (fun y H' => ∃ r, H r = none ∧ y = .sl r 0 1 0 (l.take n).length none ∧ H' = H.set r (.row (iS .i64 (l.take n)) 0)) :=
  (ints_c l n h1 H).mono fun y H' ⟨r, hr, hy, hH⟩ => ⟨r, hr, by rw [hy, List.length_take, Nat.min_comm], hH⟩

theorem few_all (l : List UInt8) (n : Nat) (h1 : n ≤ 1000000) (hl : l.length ≤ n) (H : AH) : ACall Try.prog 25 [.cs (u8s l) l.length, .int .i64 n] H (fun y H' => ∃ r, H r = none ∧ y = .sl r 0 1 0 l.length none ∧ H' = H.set r (.row (u8s l) 0)) :=
  (few_c l n h1 H).mono fun y H' ⟨r, hr, hy, hH⟩ => ⟨r, hr, by rw [hy, Nat.min_eq_left hl], by rw [hH, List.take_of_length_le hl]⟩

theorem few_s (l : List UInt8) (n : Nat) (h1 : n ≤ 1000000) (H : AH) : ACall Try.prog 25 [.cs (u8s l) l.length, .int .i64 n] H (fun y H' => ∃ r, H r = none ∧ y = .sl r 0 1 0 (l.take n).length none ∧ H' = H.set r (.row (u8s (l.take n)) 0)) :=
  (few_c l n h1 H).mono fun y H' ⟨r, hr, hy, hH⟩ => ⟨r, hr, by rw [hy, List.length_take, Nat.min_comm], hH⟩

def aro (n : Int) (m : Nat) : Nat := ((if n < 0 then -(n + 1) else n).tmod m).toNat
theorem aro_lt {n : Int} {m : Nat} (hm : 1 ≤ m) : aro n m < m := by
  unfold aro
  have hlt : ∀ x : Int, 0 ≤ x → x.tmod m < m := fun x h => Int.tmod_lt_of_pos _ (by omega)
  have := hlt (if n < 0 then -(n + 1) else n) (by split <;> omega)
  omega

set_option maxRecDepth 8000 in
theorem around_f (n : Int) (h1 : -9223372036854775808 ≤ n) (h2 : n ≤ 9223372036854775807) (m : Nat) (hm : 1 ≤ m) (hm2 : m ≤ 1000000) (H : AH) :
    ACall Try.prog 14 [.int .i64 n, .int .i64 m] H (fun y H' => y = .int .i64 (aro n m) ∧ H' = H) := by
  unfold aro
  by_cases hn : n < 0
  · have hp : 0 ≤ (-(n + 1)).tmod m := Int.tmod_nonneg _ (by omega)
    rw [if_pos hn, Int.toNat_of_nonneg hp]
    refine ACall_of tt_ok (dok _) Try.func14 rfl (by decide) rfl ?_
    (repeat' ((conv => whnf); first | refine Then.mk ?_ | left | refine OpsA.cons ?_ | refine OpsA.nil ?_ | refine AWq.seq ?_ | refine AWq.region ?_ | refine AWq.cond ?_ | refine AWq.block ?_ | refine AWq.skip ?_ | refine AWq.scope ?_ | refine AWq.label ?_ | refine AWq.ret ?_ | refine AWq.exit ?_ | refine AWq.loop ?_ | refine AWq.rangeFunc ?_ | refine DrawA.consD ?_ | refine DrawA.nil ?_ | refine DrawL.consD ?_ | refine DrawL.nil ?_ | refine DrawF.consD ?_ | refine DrawF.nil ?_ | refine AWq.draw (by decide +kernel) ?_ | (refine Both.mk ?_ ?_ <;> intro hc <;> (first | exact Bool.noConfusion hc | exact absurd (by with_reducible rfl) hc | exact (hc : False).elim | exact absurd (by assumption) hc | exact absurd hc (by assumption) | (exfalso; omega) | exact absurd hc (by decide) | skip)) | (intro c hc; (try (simp only [AH.none_iff] at hc; repeat (have hn := hc.1; replace hc := hc.2))); (first | (have hc2 := Eq.trans hc (by with_reducible assumption); clear hc; subst hc2) | (refine i64_k hc ?_ ?_ ?_ ; omega; omega; (clear hc; intro hc; subst hc)) | (refine u64_k hc ?_ ?_ ?_ ; omega; omega; (clear hc; intro hc; subst hc)) | (refine u8_k hc ?_ ?_ ?_ ; omega; omega; (clear hc; intro hc; subst hc)) | subst hc | skip)) | (apply Exists.intro; apply And.intro; (focus (repeat (first | assumption | exact AH.set_same _ _ _ | ((first | refine AH.get_ne ?_ ?_ | refine AH.getd_ne ?_ ?_); (first | assumption | omega | exact Ne.symm (by assumption) | exact AH.ne_none (by assumption) (by assumption) | exact AH.none_ne (by assumption) (by assumption) | exact (AH.none_set (by assumption)).1 | exact Ne.symm (AH.none_set (by assumption)).1)))); done)) | (apply Exists.intro; apply And.intro; first | (with_reducible assumption) | ((try simp only [List.getElem?_drop, Nat.mul_one, Nat.add_zero, Nat.zero_add]); first | (with_reducible assumption) | (refine u8s_get ?_; omega) | (refine iS_get ?_; omega) | assumption | rfl | fail)) | (apply And.intro; (first | rfl | (with_reducible assumption) | exact Nat.le_of_ble_eq_true rfl | omega | (exact Int.ofNat_lt.2 (Nat.lt_of_lt_of_eq (by with_reducible assumption) (by decide +kernel))) | assumption | (simp <;> fail) | (simp <;> omega) | (focus (repeat' (first | exact one_u8s _ | exact one_iS _ _ | rfl | apply one_take | apply one_drop | apply one_append)); done) | fail)) | fail)) <;> (try (conv => whnf))
  · have hp : 0 ≤ n.tmod m := Int.tmod_nonneg _ (by omega)
    rw [if_neg hn, Int.toNat_of_nonneg hp]
    refine ACall_of tt_ok (dok _) Try.func14 rfl (by decide) rfl ?_
    (repeat' ((conv => whnf); first | refine Then.mk ?_ | left | refine OpsA.cons ?_ | refine OpsA.nil ?_ | refine AWq.seq ?_ | refine AWq.region ?_ | refine AWq.cond ?_ | refine AWq.block ?_ | refine AWq.skip ?_ | refine AWq.scope ?_ | refine AWq.label ?_ | refine AWq.ret ?_ | refine AWq.exit ?_ | refine AWq.loop ?_ | refine AWq.rangeFunc ?_ | refine DrawA.consD ?_ | refine DrawA.nil ?_ | refine DrawL.consD ?_ | refine DrawL.nil ?_ | refine DrawF.consD ?_ | refine DrawF.nil ?_ | refine AWq.draw (by decide +kernel) ?_ | (refine Both.mk ?_ ?_ <;> intro hc <;> (first | exact Bool.noConfusion hc | exact absurd (by with_reducible rfl) hc | exact (hc : False).elim | exact absurd (by assumption) hc | exact absurd hc (by assumption) | (exfalso; omega) | exact absurd hc (by decide) | skip)) | (intro c hc; (try (simp only [AH.none_iff] at hc; repeat (have hn := hc.1; replace hc := hc.2))); (first | (have hc2 := Eq.trans hc (by with_reducible assumption); clear hc; subst hc2) | (refine i64_k hc ?_ ?_ ?_ ; omega; omega; (clear hc; intro hc; subst hc)) | (refine u64_k hc ?_ ?_ ?_ ; omega; omega; (clear hc; intro hc; subst hc)) | (refine u8_k hc ?_ ?_ ?_ ; omega; omega; (clear hc; intro hc; subst hc)) | subst hc | skip)) | (apply Exists.intro; apply And.intro; (focus (repeat (first | assumption | exact AH.set_same _ _ _ | ((first | refine AH.get_ne ?_ ?_ | refine AH.getd_ne ?_ ?_); (first | assumption | omega | exact Ne.symm (by assumption) | exact AH.ne_none (by assumption) (by assumption) | exact AH.none_ne (by assumption) (by assumption) | exact (AH.none_set (by assumption)).1 | exact Ne.symm (AH.none_set (by assumption)).1)))); done)) | (apply Exists.intro; apply And.intro; first | (with_reducible assumption) | ((try simp only [List.getElem?_drop, Nat.mul_one, Nat.add_zero, Nat.zero_add]); first | (with_reducible assumption) | (refine u8s_get ?_; omega) | (refine iS_get ?_; omega) | assumption | rfl | fail)) | (apply And.intro; (first | rfl | (with_reducible assumption) | exact Nat.le_of_ble_eq_true rfl | omega | (exact Int.ofNat_lt.2 (Nat.lt_of_lt_of_eq (by with_reducible assumption) (by decide +kernel))) | assumption | (simp <;> fail) | (simp <;> omega) | (focus (repeat' (first | exact one_u8s _ | exact one_iS _ _ | rfl | apply one_take | apply one_drop | apply one_append)); done) | fail)) | fail)) <;> (try (conv => whnf))

end Go.Proofs.Ytgmooalikccbiaa
/- Plain law: varints, as numbers. -/
namespace Go.Proofs.Ytgmooalikccbiaa
open Go.Fw Go
set_option linter.unusedVariables false
set_option linter.unusedSimpArgs false

def encN (n : Nat) : List UInt8 := if h : n < 128 then [UInt8.ofNat n] else UInt8.ofNat (n % 128 + 128) :: encN (n / 128)
termination_by n
decreasing_by omega

theorem encN_lt {n : Nat} (h : n < 128) : encN n = [UInt8.ofNat n] := by rw [encN, dif_pos h]
theorem encN_ge {n : Nat} (h : ¬ n < 128) : encN n = UInt8.ofNat (n % 128 + 128) :: encN (n / 128) := by rw [encN, dif_neg h]

theorem encN_pos (n : Nat) : 0 < (encN n).length := by
  by_cases h : n < 128
  · rw [encN_lt h]; simp
  · rw [encN_ge h]; simp

theorem encN_len : ∀ (f n : Nat), n < 128 ^ (f + 1) → (encN n).length ≤ f + 1
  | 0, n, h => by rw [encN_lt (by simpa using h)]; simp
  | f + 1, n, h => by
    by_cases h' : n < 128
    · rw [encN_lt h']; simp
    · rw [encN_ge h', List.length_cons]
      have : n / 128 < 128 ^ (f + 1) := by
        rw [Nat.div_lt_iff_lt_mul (by omega)]
        rw [← Nat.pow_succ]; exact h
      have := encN_len f _ this
      omega

theorem encN_len10 {n : Nat} (h : n < 2 ^ 64) : (encN n).length ≤ 10 := encN_len 9 n (Nat.lt_of_lt_of_le h (by decide))

/-- What is read, from byte i on: the number and the rest, or an error. -/
def rdN : Nat → Nat → List UInt8 → Except Int (Nat × List UInt8)
  | _, _, [] => .error 3
  | i, acc, c :: r => if (i = 9 ∧ 1 < c.toNat) ∨ (0 < i ∧ c.toNat = 0) then .error 2 else
    if c.toNat < 128 then .ok (acc + c.toNat * 128 ^ i, r) else rdN (i + 1) (acc + (c.toNat % 128) * 128 ^ i) r

theorem u8_ofNat {n : Nat} (h : n < 256) : (UInt8.ofNat n).toNat = n := by rw [UInt8.toNat_ofNat']; omega

theorem rdN_enc : ∀ (n i acc : Nat) (r : List UInt8), i ≤ 9 → n * 128 ^ i < 2 ^ 64 → (0 < i → 0 < n) → rdN i acc (encN n ++ r) = .ok (acc + n * 128 ^ i, r) := by
  intro n
  induction n using Nat.strongRecOn with
  | ind n ih =>
    intro i acc r hi hn h0
    have h9 : i = 9 → n ≤ 1 := by
      intro e; subst e
      rcases Nat.lt_or_ge 1 n with h | h
      · have : 2 * 128 ^ 9 ≤ n * 128 ^ 9 := Nat.mul_le_mul_right _ h
        have : (2 : Nat) * 128 ^ 9 = 2 ^ 64 := by decide
        omega
      · exact h
    by_cases h : n < 128
    · rw [encN_lt h, List.cons_append, List.nil_append, rdN, u8_ofNat (by omega), if_neg (by omega), if_pos h]
    · have h8 : i ≠ 9 := fun e => by have := h9 e; omega
      rw [encN_ge h, List.cons_append, rdN, u8_ofNat (by omega), if_neg (by omega), if_neg (by omega)]
      have hm : n / 128 * 128 ^ (i + 1) ≤ n * 128 ^ i := by
        rw [Nat.pow_succ, Nat.mul_comm (128 ^ i) 128, ← Nat.mul_assoc]
        exact Nat.mul_le_mul_right _ (Nat.div_mul_le_self n 128)
      rw [ih (n / 128) (by omega) (i + 1) _ r (by omega) (by omega) (by omega)]
      congr 2
      rw [Nat.add_assoc]
      congr 1
      rw [show (n % 128 + 128) % 128 = n % 128 by omega, Nat.pow_succ, Nat.mul_comm (128 ^ i) 128, ← Nat.mul_assoc, ← Nat.add_mul]
      congr 1
      omega

theorem rdN_uniq : ∀ (bs : List UInt8) (i acc m : Nat) (r : List UInt8), i ≤ 9 → rdN i acc bs = .ok (m, r) → ∃ n, m = acc + n * 128 ^ i ∧ bs = encN n ++ r ∧ n < 2 ^ (64 - 7 * i) ∧ (0 < i → 0 < n)
  | [], i, acc, m, r, hi, h => by simp [rdN] at h
  | c :: t, i, acc, m, r, hi, h => by
    rw [rdN] at h
    split at h
    · cases h
    · rename_i h1
      split at h
      · rename_i h2
        cases h
        refine ⟨c.toNat, rfl, ?_, ?_, by omega⟩
        · rw [encN_lt h2]; simp
        · by_cases h9 : i = 9
          · subst h9; have : c.toNat ≤ 1 := by omega
            omega
          · have : 2 ^ 7 ≤ 2 ^ (64 - 7 * i) := Nat.pow_le_pow_right (by omega) (by omega)
            omega
      · rename_i h2
        have h9 : i ≠ 9 := by omega
        obtain ⟨n, hm, ht, hn, hp⟩ := rdN_uniq t (i + 1) _ m r (by omega) h
        have hp := hp (by omega)
        have hc := c.toNat_lt
        refine ⟨c.toNat % 128 + 128 * n, ?_, ?_, ?_, by omega⟩
        · rw [hm, Nat.add_assoc, Nat.add_mul]
          congr 2
          rw [Nat.pow_succ, Nat.mul_comm (128 ^ i) 128, ← Nat.mul_assoc, Nat.mul_comm n 128]
        · rw [encN_ge (by omega), show (c.toNat % 128 + 128 * n) / 128 = n by omega, show (c.toNat % 128 + 128 * n) % 128 + 128 = c.toNat by omega, ht]
          simp
        · have e : 2 ^ (64 - 7 * i) = 128 * 2 ^ (64 - 7 * (i + 1)) := by
            rw [show 64 - 7 * i = 7 + (64 - 7 * (i + 1)) by omega, Nat.pow_add]
          omega

/-- Numbers with a sign. -/
def zz (n : Int) : Nat := if n < 0 then (-2 * n - 1).toNat else (2 * n).toNat
def unzz (z : Nat) : Int := if z % 2 = 1 then -((z / 2 : Nat) : Int) - 1 else ((z / 2 : Nat) : Int)
theorem unzz_zz (n : Int) : unzz (zz n) = n := by
  unfold zz unzz
  split <;> split <;> omega
theorem zz_unzz (z : Nat) : zz (unzz z) = z := by
  unfold zz unzz
  split <;> split <;> omega
theorem zz_lt {n : Int} (h1 : -9223372036854775808 ≤ n) (h2 : n ≤ 9223372036854775807) : zz n < 2 ^ 64 := by
  unfold zz; split <;> omega
theorem unzz_range {z : Nat} (h : z < 2 ^ 64) : -9223372036854775808 ≤ unzz z ∧ unzz z ≤ 9223372036854775807 := by
  unfold unzz; split <;> omega

theorem ofInt_u64 {x : Int} (h : 0 ≤ x ∧ x < 18446744073709551616) : (BitVec.ofInt 64 x).toNat = x.toNat := by
  rw [BitVec.toNat_ofInt]; omega

theorem wrap_u64' (x : Int) : IntKind.u64.wrap x = x % 18446744073709551616 := rfl

theorem zz_wire {n : Int} (h1 : -9223372036854775808 ≤ n) (h2 : n ≤ 9223372036854775807) :
    bitsA .xor .u64 (IntKind.u64.wrap (IntKind.u64.wrap n * 2 ^ (min 1 64))) (IntKind.u64.wrap (n.fdiv (2 ^ (min 63 64)))) = (zz n : Int) := by
  have e1 : IntKind.u64.wrap (IntKind.u64.wrap n * 2 ^ (min 1 64)) = (2 * n) % 18446744073709551616 := by
    simp only [wrap_u64', show min 1 64 = 1 by decide, Int.pow_one]
    omega
  rw [e1]
  show IntKind.u64.wrap ((BitVec.ofInt 64 _ ^^^ BitVec.ofInt 64 _).toNat : Int) = _
  by_cases hn : n < 0
  · have e2 : IntKind.u64.wrap (n.fdiv (2 ^ (min 63 64))) = 18446744073709551615 := by
      rw [wrap_u64', show min 63 64 = 63 by decide, Int.fdiv_eq_ediv_of_nonneg _ (by decide)]
      have : n / 2 ^ 63 = -1 := by omega
      rw [this]; decide
    rw [e2, show BitVec.ofInt 64 18446744073709551615 = BitVec.allOnes 64 by decide, BitVec.xor_allOnes, BitVec.toNat_not, ofInt_u64 (by omega), wrap_u64']
    unfold zz
    rw [if_pos hn]
    omega
  · have e2 : IntKind.u64.wrap (n.fdiv (2 ^ (min 63 64))) = 0 := by
      rw [wrap_u64', show min 63 64 = 63 by decide, Int.fdiv_eq_ediv_of_nonneg _ (by decide)]
      have : n / 2 ^ 63 = 0 := by omega
      rw [this]; decide
    rw [e2, show BitVec.ofInt 64 0 = 0#64 by decide, BitVec.xor_zero, ofInt_u64 (by omega), wrap_u64']
    unfold zz
    rw [if_neg hn]
    omega
end Go.Proofs.Ytgmooalikccbiaa
/- The walks of the coder's models: fresh ones. -/
namespace Go.Proofs.Ytgmooalikccbiaa
open Go.Fw Go
set_option linter.unusedVariables false
set_option linter.unusedSimpArgs false

theorem fdiv_sh {x : Int} (h : 0 ≤ x) (k : Nat) : x.fdiv (2 ^ k) = x / 2 ^ k := Int.fdiv_eq_ediv_of_nonneg _ (Int.le_of_lt (Int.pow_pos (by decide)))

set_option maxRecDepth 8000 in
theorem Mul64_c (n : Nat) (h : n ≤ 4294967295) (H : AH) : ACall Try.prog 84 [.int .u64 1, .int .u64 n] H (fun y H' => y = .tup [.int .u64 0, .int .u64 n] ∧ H' = H) := by
  have e0 : (2 : Int) ^ min (Int.toNat 32) IntKind.u64.bits = 4294967296 := by decide
  have e1 : (n : Int).fdiv 4294967296 = 0 := by rw [Int.fdiv_eq_ediv_of_nonneg _ (by omega)]; omega
  have e2 : bitsA .and .u64 (n : Int) 4294967295 = n := by
    show IntKind.u64.wrap ((BitVec.ofInt 64 (n : Int) &&& BitVec.ofInt 64 4294967295).toNat : Int) = _
    have ha : (BitVec.ofInt 64 (n : Int)).toNat = n := by rw [BitVec.toNat_ofInt]; omega
    have hb : (BitVec.ofInt 64 4294967295).toNat = 2 ^ 32 - 1 := by decide
    rw [BitVec.toNat_and, ha, hb, Nat.and_two_pow_sub_one_eq_mod, wrap_u64']
    omega
  have e3 : bitsA .and .u64 1 4294967295 = 1 := by decide
  have e4 : Int.fdiv 1 4294967296 = 0 := by decide
  have e5 : IntKind.u64.wrap (n : Int) = n := by rw [wrap_u64']; omega
  have e6 : bitsA .and .u64 0 4294967295 = 0 := by decide
  have e7 : IntKind.u64.wrap 0 = 0 := by decide
  have e8 : Int.fdiv 0 4294967296 = 0 := by decide
  refine ACall_of tt_ok (dok _) Try.func84 rfl (by decide) rfl ?_
  (repeat' ((conv => whnf); first | refine Then.mk ?_ | left | refine OpsA.cons ?_ | refine OpsA.nil ?_ | refine AWq.seq ?_ | refine AWq.region ?_ | refine AWq.cond ?_ | refine AWq.block ?_ | refine AWq.skip ?_ | refine AWq.scope ?_ | refine AWq.label ?_ | refine AWq.ret ?_ | refine AWq.exit ?_ | refine AWq.loop ?_ | refine AWq.rangeFunc ?_ | refine DrawA.consD ?_ | refine DrawA.nil ?_ | refine DrawL.consD ?_ | refine DrawL.nil ?_ | refine DrawF.consD ?_ | refine DrawF.nil ?_ | refine AWq.draw (by decide +kernel) ?_ | (refine Both.mk ?_ ?_ <;> intro hc <;> (first | exact Bool.noConfusion hc | exact absurd (by with_reducible rfl) hc | exact (hc : False).elim | exact absurd (by assumption) hc | exact absurd hc (by assumption) | (exfalso; omega) | exact absurd hc (by decide) | skip)) | (intro c hc; (try (simp only [AH.none_iff] at hc; repeat (have hn := hc.1; replace hc := hc.2))); (first | (have hc2 := Eq.trans hc (by with_reducible assumption); clear hc; subst hc2) | (refine i64_k hc ?_ ?_ ?_ ; omega; omega; (clear hc; intro hc; subst hc)) | (refine u64_k hc ?_ ?_ ?_ ; omega; omega; (clear hc; intro hc; subst hc)) | (refine u8_k hc ?_ ?_ ?_ ; omega; omega; (clear hc; intro hc; subst hc)) | subst hc | skip)) | (apply Exists.intro; apply And.intro; (focus (repeat (first | assumption | exact AH.set_same _ _ _ | ((first | refine AH.get_ne ?_ ?_ | refine AH.getd_ne ?_ ?_); (first | assumption | omega | exact Ne.symm (by assumption) | exact AH.ne_none (by assumption) (by assumption) | exact AH.none_ne (by assumption) (by assumption) | exact (AH.none_set (by assumption)).1 | exact Ne.symm (AH.none_set (by assumption)).1)))); done)) | (apply Exists.intro; apply And.intro; first | (with_reducible assumption) | ((try simp only [List.getElem?_drop, Nat.mul_one, Nat.add_zero, Nat.zero_add]); first | (with_reducible assumption) | (refine u8s_get ?_; omega) | (refine iS_get ?_; omega) | assumption | rfl | fail)) | (apply And.intro; (first | rfl | (with_reducible assumption) | exact Nat.le_of_ble_eq_true rfl | omega | (exact Int.ofNat_lt.2 (Nat.lt_of_lt_of_eq (by with_reducible assumption) (by decide +kernel))) | assumption | (simp <;> fail) | (simp <;> omega) | (focus (repeat' (first | exact one_u8s _ | exact one_iS _ _ | rfl | apply one_take | apply one_drop | apply one_append)); done) | fail)) | fail)) <;> (try (conv => whnf))
  refine ⟨?_, rfl⟩
  simp only [e0, e1, e2, e3, e4, e5, e6, e7, e8, Int.zero_mul, Int.one_mul, Int.mul_zero, Int.add_zero]
set_option maxRecDepth 8000 in
theorem Mul_c (n : Nat) (h : n ≤ 4294967295) (H : AH) : ACall Try.prog 79 [.int .u64 1, .int .u64 n] H (fun y H' => y = .tup [.int .u64 0, .int .u64 n] ∧ H' = H) := by
  have hm := fun H => Mul64_c n h H
  refine ACall_of tt_ok (dok _) Try.func79 rfl (by decide) rfl ?_
  (repeat' ((conv => whnf); first | refine Then.mk ?_ | left | refine OpsA.cons ?_ | refine OpsA.nil ?_ | refine AWq.seq ?_ | refine AWq.region ?_ | refine AWq.cond ?_ | refine AWq.block ?_ | refine AWq.skip ?_ | refine AWq.scope ?_ | refine AWq.label ?_ | refine AWq.ret ?_ | refine AWq.exit ?_ | refine AWq.loop ?_ | refine AWq.rangeFunc ?_ | refine DrawA.consD ?_ | refine DrawA.nil ?_ | refine DrawL.consD ?_ | refine DrawL.nil ?_ | refine DrawF.consD ?_ | refine DrawF.nil ?_ | refine AWq.draw (by decide +kernel) ?_ | (refine ACall.to (hm _) ?_) | (apply Exists.intro; apply And.intro; exact hm _) | (apply Exists.intro; apply Exists.intro; apply And.intro; exact hm _) | (refine Both.mk ?_ ?_ <;> intro hc <;> (first | exact Bool.noConfusion hc | exact absurd (by with_reducible rfl) hc | exact (hc : False).elim | exact absurd (by assumption) hc | exact absurd hc (by assumption) | (exfalso; omega) | exact absurd hc (by decide) | skip)) | (intro c hc; (try (simp only [AH.none_iff] at hc; repeat (have hn := hc.1; replace hc := hc.2))); (first | (have hc2 := Eq.trans hc (by with_reducible assumption); clear hc; subst hc2) | (refine i64_k hc ?_ ?_ ?_ ; omega; omega; (clear hc; intro hc; subst hc)) | (refine u64_k hc ?_ ?_ ?_ ; omega; omega; (clear hc; intro hc; subst hc)) | (refine u8_k hc ?_ ?_ ?_ ; omega; omega; (clear hc; intro hc; subst hc)) | subst hc | skip)) | (apply Exists.intro; apply And.intro; (focus (repeat (first | assumption | exact AH.set_same _ _ _ | ((first | refine AH.get_ne ?_ ?_ | refine AH.getd_ne ?_ ?_); (first | assumption | omega | exact Ne.symm (by assumption) | exact AH.ne_none (by assumption) (by assumption) | exact AH.none_ne (by assumption) (by assumption) | exact (AH.none_set (by assumption)).1 | exact Ne.symm (AH.none_set (by assumption)).1)))); done)) | (apply Exists.intro; apply And.intro; first | (with_reducible assumption) | ((try simp only [List.getElem?_drop, Nat.mul_one, Nat.add_zero, Nat.zero_add]); first | (with_reducible assumption) | (refine u8s_get ?_; omega) | (refine iS_get ?_; omega) | assumption | rfl | fail)) | (apply And.intro; (first | rfl | (with_reducible assumption) | exact Nat.le_of_ble_eq_true rfl | omega | (exact Int.ofNat_lt.2 (Nat.lt_of_lt_of_eq (by with_reducible assumption) (by decide +kernel))) | assumption | (simp <;> fail) | (simp <;> omega) | (focus (repeat' (first | exact one_u8s _ | exact one_iS _ _ | rfl | apply one_take | apply one_drop | apply one_append)); done) | fail)) | fail)) <;> (try (conv => whnf))

theorem iL_take {n m : Nat} (X : Ln) (h : m ≤ n) : (iL n X).take m = iL m X := by
  apply List.ext_getElem?
  intro i
  rw [List.getElem?_take]
  by_cases hi : i < m
  · rw [if_pos hi, iL_get X (by omega), iL_get X hi]
  · rw [if_neg hi, List.getElem?_eq_none (by rw [iL_len]; omega)]
theorem iL_drop {n m : Nat} (X : Ln) : (iL n X).drop m = iL (n - m) (fun k => X (m + k)) := by
  apply List.ext_getElem?
  intro i
  rw [List.getElem?_drop]
  by_cases hi : m + i < n
  · rw [iL_get X hi, iL_get _ (by omega)]
  · rw [List.getElem?_eq_none (by rw [iL_len]; omega), List.getElem?_eq_none (by rw [iL_len]; omega)]
theorem k_iL_app {n m : Nat} (X Y : Ln) : iL n X ++ iL m Y = iL (n + m) (fun k => if k < n then X k else Y (k - n)) := by
  apply List.ext_getElem?
  intro i
  by_cases hi : i < n
  · rw [List.getElem?_append_left (by rw [iL_len]; exact hi), iL_get _ hi, iL_get _ (by omega), if_pos hi]
  · rw [List.getElem?_append_right (by rw [iL_len]; omega), iL_len]
    by_cases h2 : i < n + m
    · rw [iL_get _ (by omega), iL_get _ h2, if_neg hi]
    · rw [List.getElem?_eq_none (by rw [iL_len]; omega), List.getElem?_eq_none (by rw [iL_len]; omega)]
theorem iL_wrs {n m c : Nat} (X Y : Ln) (h : c + m ≤ n) : wrA (iL n X) c (iL m Y) = iL n (fun k => if c ≤ k ∧ k < c + m then Y (k - c) else X k) := by
  unfold wrA
  rw [iL_take X (by omega), iL_len, iL_drop, k_iL_app, k_iL_app, show c + m + (n - (c + m)) = n by omega]
  refine iL_congr fun k hk => ?_
  by_cases h1 : k < c
  · rw [if_pos (by omega), if_pos h1, if_neg (by omega)]
  · by_cases h2 : k < c + m
    · rw [if_pos h2, if_neg h1, if_pos (by omega)]
    · rw [if_neg h2, if_neg (by omega)]
      congr 1; omega

set_option maxRecDepth 8000 in
theorem Repeat_c (n : Nat) (h1 : 1 ≤ n) (h2 : n ≤ 1000000) (H : AH) :
    ACall Try.prog 72 [.cs (iS .i64 [1]) 1, .int .i64 n] H (fun y H' => ∃ q, H q = none ∧ y = .sl q 0 1 0 n none ∧ H' = H.set q (.row (iL n fun _ => 1) 0)) := by
  have hm := fun H => Mul_c n (by omega) H
  refine ACall_of tt_ok (dok _) Try.func72 rfl (by decide) rfl ?_
  (repeat' ((conv => whnf); first | refine Then.mk ?_ | left | refine OpsA.cons ?_ | refine OpsA.nil ?_ | refine AWq.seq ?_ | refine AWq.region ?_ | refine AWq.cond ?_ | refine AWq.block ?_ | refine AWq.skip ?_ | refine AWq.scope ?_ | refine AWq.label ?_ | refine AWq.ret ?_ | refine AWq.exit ?_ | refine AWq.loop ?_ | refine AWq.rangeFunc ?_ | refine DrawA.consD ?_ | refine DrawA.nil ?_ | refine DrawL.consD ?_ | refine DrawL.nil ?_ | refine DrawF.consD ?_ | refine DrawF.nil ?_ | refine AWq.draw (by decide +kernel) ?_ | (refine ACall.to (hm _) ?_) | (apply Exists.intro; apply And.intro; exact hm _) | (apply Exists.intro; apply Exists.intro; apply And.intro; exact hm _) | (refine Both.mk ?_ ?_ <;> intro hc <;> (first | exact Bool.noConfusion hc | exact absurd (by with_reducible rfl) hc | exact (hc : False).elim | exact absurd (by assumption) hc | exact absurd hc (by assumption) | (exfalso; omega) | exact absurd hc (by decide) | skip)) | (intro c hc; (try (simp only [AH.none_iff] at hc; repeat (have hn := hc.1; replace hc := hc.2))); (first | (have hc2 := Eq.trans hc (by with_reducible assumption); clear hc; subst hc2) | (refine i64_k hc ?_ ?_ ?_ ; omega; omega; (clear hc; intro hc; subst hc)) | (refine u64_k hc ?_ ?_ ?_ ; omega; omega; (clear hc; intro hc; subst hc)) | (refine u8_k hc ?_ ?_ ?_ ; omega; omega; (clear hc; intro hc; subst hc)) | subst hc | skip)) | (apply Exists.intro; apply And.intro; (focus (repeat (first | assumption | exact AH.set_same _ _ _ | ((first | refine AH.get_ne ?_ ?_ | refine AH.getd_ne ?_ ?_); (first | assumption | omega | exact Ne.symm (by assumption) | exact AH.ne_none (by assumption) (by assumption) | exact AH.none_ne (by assumption) (by assumption) | exact (AH.none_set (by assumption)).1 | exact Ne.symm (AH.none_set (by assumption)).1)))); done)) | (apply Exists.intro; apply And.intro; first | (with_reducible assumption) | ((try simp only [List.getElem?_drop, Nat.mul_one, Nat.add_zero, Nat.zero_add]); first | (with_reducible assumption) | (refine u8s_get ?_; omega) | (refine iS_get ?_; omega) | assumption | rfl | fail)) | (apply And.intro; (first | rfl | (with_reducible assumption) | exact Nat.le_of_ble_eq_true rfl | omega | (exact Int.ofNat_lt.2 (Nat.lt_of_lt_of_eq (by with_reducible assumption) (by decide +kernel))) | assumption | (simp <;> fail) | (simp <;> omega) | (focus (repeat' (first | exact one_u8s _ | exact one_iS _ _ | rfl | apply one_take | apply one_drop | apply one_append)); done) | fail)) | fail)) <;> (try (conv => whnf))
  rename_i c hc
  refine AWp_loop (σ := Nat) (8 :: 34 :: 35 :: 36 :: 37 :: 38 :: 39 :: 40 :: 41 :: 42 :: 43 :: 44 :: 45 :: 46 :: []) (fun m => [(8, .int .i64 m)]) (fun m => AH.set H c (.row (iL n fun k => if k < m then 1 else 0) 0)) (fun m => 1 ≤ m ∧ m ≤ n) (fun m => n - m) 1 rfl ?_ ?_ ?_ ?_
  · exact ⟨Nat.le_refl _, h1⟩
  · refine ⟨?_, trivial⟩
    have : Nat.min 1 n = 1 := Nat.min_eq_left h1
    show AV.int .i64 (Nat.min 1 n : Nat) = _
    rw [this]
  · refine HLe.of_eq (Eq.symm ((AH.set_set _ _ _ _).trans (congrArg (fun l => AH.set H c (.row l 0)) ?_)))
    show wrA ((List.replicate n [AV.int .i64 0]).flatten) 0 (List.take (Nat.min 1 n * 1) (iL 1 fun _ => 1)) = _
    rw [show Nat.min 1 n = 1 from Nat.min_eq_left h1, iL_zero, iL_take _ (by omega), iL_wrs _ _ (by omega)]
    refine iL_congr fun k hk => ?_
    by_cases h : k < 1 <;> simp [h]
  · rintro m ⟨hm1, hm2⟩
    refine AWp.of tt_ok (dok _) rfl ?_
    have li := iL_len n (fun k => if k < m then 1 else 0)
    by_cases hmn : m < n
    · (repeat' ((conv => whnf); first | refine AWq.drawM ([45], []) (by decide +kernel) ?_ | refine Then.mk ?_ | left | refine OpsA.cons ?_ | refine OpsA.nil ?_ | refine AWq.seq ?_ | refine AWq.region ?_ | refine AWq.cond ?_ | refine AWq.block ?_ | refine AWq.skip ?_ | refine AWq.scope ?_ | refine AWq.label ?_ | refine AWq.ret ?_ | refine AWq.exit ?_ | refine AWq.loop ?_ | refine AWq.rangeFunc ?_ | refine DrawA.consD ?_ | refine DrawA.nil ?_ | refine DrawL.consD ?_ | refine DrawL.nil ?_ | refine DrawF.consD ?_ | refine DrawF.nil ?_ | refine AWq.draw (by decide +kernel) ?_ | (refine ACall.to (hm _) ?_) | (apply Exists.intro; apply And.intro; exact hm _) | (apply Exists.intro; apply Exists.intro; apply And.intro; exact hm _) | (refine Both.mk ?_ ?_ <;> intro hc <;> (first | exact Bool.noConfusion hc | exact absurd (by with_reducible rfl) hc | exact (hc : False).elim | exact absurd (by assumption) hc | exact absurd hc (by assumption) | (exfalso; omega) | exact absurd hc (by decide) | skip)) | (intro c hc; (try (simp only [AH.none_iff] at hc; repeat (have hn := hc.1; replace hc := hc.2))); (first | (have hc2 := Eq.trans hc (by with_reducible assumption); clear hc; subst hc2) | (refine i64_k hc ?_ ?_ ?_ ; omega; omega; (clear hc; intro hc; subst hc)) | (refine u64_k hc ?_ ?_ ?_ ; omega; omega; (clear hc; intro hc; subst hc)) | (refine u8_k hc ?_ ?_ ?_ ; omega; omega; (clear hc; intro hc; subst hc)) | subst hc | skip)) | (apply Exists.intro; apply And.intro; (focus (repeat (first | assumption | exact AH.set_same _ _ _ | ((first | refine AH.get_ne ?_ ?_ | refine AH.getd_ne ?_ ?_); (first | assumption | omega | exact Ne.symm (by assumption) | exact AH.ne_none (by assumption) (by assumption) | exact AH.none_ne (by assumption) (by assumption) | exact (AH.none_set (by assumption)).1 | exact Ne.symm (AH.none_set (by assumption)).1)))); done)) | (apply Exists.intro; apply And.intro; first | (with_reducible assumption) | ((try simp only [List.getElem?_drop, Nat.mul_one, Nat.add_zero, Nat.zero_add]); first | (with_reducible assumption) | (refine u8s_get ?_; omega) | (refine iS_get ?_; omega) | assumption | rfl | fail)) | (apply And.intro; (first | rfl | (with_reducible assumption) | exact Nat.le_of_ble_eq_true rfl | omega | (exact Int.ofNat_lt.2 (Nat.lt_of_lt_of_eq (by with_reducible assumption) (by decide +kernel))) | assumption | (simp <;> fail) | (simp <;> omega) | (focus (repeat' (first | exact one_u8s _ | exact one_iS _ _ | rfl | apply one_take | apply one_drop | apply one_append)); done) | fail)) | fail)) <;> (try (conv => whnf))
      refine ⟨.int .i64 (min m (n - m) : Nat), AH.set H c (.row (iL n fun k => if k < m + min m (n - m) then 1 else 0) 0), ?_, ?_⟩
      · (repeat' ((conv => whnf); first | refine Then.mk ?_ | left | refine OpsA.cons ?_ | refine OpsA.nil ?_ | refine AWq.seq ?_ | refine AWq.region ?_ | refine AWq.cond ?_ | refine AWq.block ?_ | refine AWq.skip ?_ | refine AWq.scope ?_ | refine AWq.label ?_ | refine AWq.ret ?_ | refine AWq.exit ?_ | refine AWq.loop ?_ | refine AWq.rangeFunc ?_ | refine DrawA.consD ?_ | refine DrawA.nil ?_ | refine DrawL.consD ?_ | refine DrawL.nil ?_ | refine DrawF.consD ?_ | refine DrawF.nil ?_ | refine AWq.draw (by decide +kernel) ?_ | (refine Both.mk ?_ ?_ <;> intro hc <;> (first | exact Bool.noConfusion hc | exact absurd (by with_reducible rfl) hc | exact (hc : False).elim | exact absurd (by assumption) hc | exact absurd hc (by assumption) | (exfalso; omega) | exact absurd hc (by decide) | skip)) | (intro c hc; (try (simp only [AH.none_iff] at hc; repeat (have hn := hc.1; replace hc := hc.2))); (first | (have hc2 := Eq.trans hc (by with_reducible assumption); clear hc; subst hc2) | (refine i64_k hc ?_ ?_ ?_ ; omega; omega; (clear hc; intro hc; subst hc)) | (refine u64_k hc ?_ ?_ ?_ ; omega; omega; (clear hc; intro hc; subst hc)) | (refine u8_k hc ?_ ?_ ?_ ; omega; omega; (clear hc; intro hc; subst hc)) | subst hc | skip)) | (apply Exists.intro; apply And.intro; (focus (repeat (first | assumption | exact AH.set_same _ _ _ | ((first | refine AH.get_ne ?_ ?_ | refine AH.getd_ne ?_ ?_); (first | assumption | omega | exact Ne.symm (by assumption) | exact AH.ne_none (by assumption) (by assumption) | exact AH.none_ne (by assumption) (by assumption) | exact (AH.none_set (by assumption)).1 | exact Ne.symm (AH.none_set (by assumption)).1)))); done)) | (apply Exists.intro; apply And.intro; first | (with_reducible assumption) | ((try simp only [List.getElem?_drop, Nat.mul_one, Nat.add_zero, Nat.zero_add]); first | (with_reducible assumption) | (refine u8s_get ?_; omega) | (refine iS_get ?_; omega) | assumption | rfl | fail)) | (apply And.intro; (first | rfl | (with_reducible assumption) | exact Nat.le_of_ble_eq_true rfl | omega | (exact Int.ofNat_lt.2 (Nat.lt_of_lt_of_eq (by with_reducible assumption) (by decide +kernel))) | assumption | (simp <;> fail) | (simp <;> omega) | (focus (repeat' (first | exact one_u8s _ | exact one_iS _ _ | rfl | apply one_take | apply one_drop | apply one_append)); done) | fail)) | fail)) <;> (try (conv => whnf))
        refine (AH.set_set _ _ _ _).trans (congrArg (fun l => AH.set H c (.row l 0)) ?_)
        have e1 : Nat.min m (n - m) = min m (n - m) := rfl
        rw [Int.toNat_natCast, Int.toNat_natCast, e1, List.drop_zero, Nat.mul_one, Nat.mul_one, iL_take _ hm2, iL_take _ (by omega), Nat.zero_add, iL_wrs _ _ (by omega)]
        refine iL_congr fun k hk => ?_
        split <;> split <;> first | rfl | omega | (split <;> first | rfl | omega)
      · (repeat' ((conv => whnf); first | refine Then.mk ?_ | left | refine OpsA.cons ?_ | refine OpsA.nil ?_ | refine AWq.seq ?_ | refine AWq.region ?_ | refine AWq.cond ?_ | refine AWq.block ?_ | refine AWq.skip ?_ | refine AWq.scope ?_ | refine AWq.label ?_ | refine AWq.ret ?_ | refine AWq.exit ?_ | refine AWq.loop ?_ | refine AWq.rangeFunc ?_ | refine DrawA.consD ?_ | refine DrawA.nil ?_ | refine DrawL.consD ?_ | refine DrawL.nil ?_ | refine DrawF.consD ?_ | refine DrawF.nil ?_ | refine AWq.draw (by decide +kernel) ?_ | (refine Both.mk ?_ ?_ <;> intro hc <;> (first | exact Bool.noConfusion hc | exact absurd (by with_reducible rfl) hc | exact (hc : False).elim | exact absurd (by assumption) hc | exact absurd hc (by assumption) | (exfalso; omega) | exact absurd hc (by decide) | skip)) | (intro c hc; (try (simp only [AH.none_iff] at hc; repeat (have hn := hc.1; replace hc := hc.2))); (first | (have hc2 := Eq.trans hc (by with_reducible assumption); clear hc; subst hc2) | (refine i64_k hc ?_ ?_ ?_ ; omega; omega; (clear hc; intro hc; subst hc)) | (refine u64_k hc ?_ ?_ ?_ ; omega; omega; (clear hc; intro hc; subst hc)) | (refine u8_k hc ?_ ?_ ?_ ; omega; omega; (clear hc; intro hc; subst hc)) | subst hc | skip)) | (apply Exists.intro; apply And.intro; (focus (repeat (first | assumption | exact AH.set_same _ _ _ | ((first | refine AH.get_ne ?_ ?_ | refine AH.getd_ne ?_ ?_); (first | assumption | omega | exact Ne.symm (by assumption) | exact AH.ne_none (by assumption) (by assumption) | exact AH.none_ne (by assumption) (by assumption) | exact (AH.none_set (by assumption)).1 | exact Ne.symm (AH.none_set (by assumption)).1)))); done)) | (apply Exists.intro; apply And.intro; first | (with_reducible assumption) | ((try simp only [List.getElem?_drop, Nat.mul_one, Nat.add_zero, Nat.zero_add]); first | (with_reducible assumption) | (refine u8s_get ?_; omega) | (refine iS_get ?_; omega) | assumption | rfl | fail)) | (apply And.intro; (first | rfl | (with_reducible assumption) | exact Nat.le_of_ble_eq_true rfl | omega | (exact Int.ofNat_lt.2 (Nat.lt_of_lt_of_eq (by with_reducible assumption) (by decide +kernel))) | assumption | (simp <;> fail) | (simp <;> omega) | (focus (repeat' (first | exact one_u8s _ | exact one_iS _ _ | rfl | apply one_take | apply one_drop | apply one_append)); done) | fail)) | fail)) <;> (try (conv => whnf))
        exact ⟨m + min m (n - m), by omega, by omega, ⟨congrArg (AV.int .i64) (by omega), trivial⟩, HLe.refl _⟩
    · have hme : m = n := by omega
      (repeat' ((conv => whnf); first | refine Then.mk ?_ | left | refine OpsA.cons ?_ | refine OpsA.nil ?_ | refine AWq.seq ?_ | refine AWq.region ?_ | refine AWq.cond ?_ | refine AWq.block ?_ | refine AWq.skip ?_ | refine AWq.scope ?_ | refine AWq.label ?_ | refine AWq.ret ?_ | refine AWq.exit ?_ | refine AWq.loop ?_ | refine AWq.rangeFunc ?_ | refine DrawA.consD ?_ | refine DrawA.nil ?_ | refine DrawL.consD ?_ | refine DrawL.nil ?_ | refine DrawF.consD ?_ | refine DrawF.nil ?_ | refine AWq.draw (by decide +kernel) ?_ | (refine Both.mk ?_ ?_ <;> intro hc <;> (first | exact Bool.noConfusion hc | exact absurd (by with_reducible rfl) hc | exact (hc : False).elim | exact absurd (by assumption) hc | exact absurd hc (by assumption) | (exfalso; omega) | exact absurd hc (by decide) | skip)) | (intro c hc; (try (simp only [AH.none_iff] at hc; repeat (have hn := hc.1; replace hc := hc.2))); (first | (have hc2 := Eq.trans hc (by with_reducible assumption); clear hc; subst hc2) | (refine i64_k hc ?_ ?_ ?_ ; omega; omega; (clear hc; intro hc; subst hc)) | (refine u64_k hc ?_ ?_ ?_ ; omega; omega; (clear hc; intro hc; subst hc)) | (refine u8_k hc ?_ ?_ ?_ ; omega; omega; (clear hc; intro hc; subst hc)) | subst hc | skip)) | (apply Exists.intro; apply And.intro; (focus (repeat (first | assumption | exact AH.set_same _ _ _ | ((first | refine AH.get_ne ?_ ?_ | refine AH.getd_ne ?_ ?_); (first | assumption | omega | exact Ne.symm (by assumption) | exact AH.ne_none (by assumption) (by assumption) | exact AH.none_ne (by assumption) (by assumption) | exact (AH.none_set (by assumption)).1 | exact Ne.symm (AH.none_set (by assumption)).1)))); done)) | (apply Exists.intro; apply And.intro; first | (with_reducible assumption) | ((try simp only [List.getElem?_drop, Nat.mul_one, Nat.add_zero, Nat.zero_add]); first | (with_reducible assumption) | (refine u8s_get ?_; omega) | (refine iS_get ?_; omega) | assumption | rfl | fail)) | (apply And.intro; (first | rfl | (with_reducible assumption) | exact Nat.le_of_ble_eq_true rfl | omega | (exact Int.ofNat_lt.2 (Nat.lt_of_lt_of_eq (by with_reducible assumption) (by decide +kernel))) | assumption | (simp <;> fail) | (simp <;> omega) | (focus (repeat' (first | exact one_u8s _ | exact one_iS _ _ | rfl | apply one_take | apply one_drop | apply one_append)); done) | fail)) | fail)) <;> (try (conv => whnf))
      exact congrArg (fun l => AH.set H c (.row l 0)) (iL_congr fun k hk => by rw [if_pos (by omega)])

/-- A model: its two cells, and the row of its counts. -/
def mdH (H : AH) (p q n : Nat) (c : Nat → Nat) : AH := (H.set q (.row (iL n fun k => (c k : Int)) 0)).set p (.row [.sl q 0 1 0 n none, .int .i64 (plc c n : Nat)] 0)

set_option maxRecDepth 8000 in
theorem fresh_c (n : Nat) (h1 : 1 ≤ n) (h2 : n ≤ 1000000) (H : AH) :
    ACall Try.prog 59 [.int .i64 n] H (fun y H' => ∃ p q, H p = none ∧ H q = none ∧ p ≠ q ∧ y = .ptr p 0 0 ∧ H' = mdH H p q n fun _ => 1) := by
  refine ACall_of tt_ok (dok _) Try.func59 rfl (by decide) rfl ?_
  (repeat' ((conv => whnf); first | refine Then.mk ?_ | left | refine OpsA.cons ?_ | refine OpsA.nil ?_ | refine AWq.seq ?_ | refine AWq.region ?_ | refine AWq.cond ?_ | refine AWq.block ?_ | refine AWq.skip ?_ | refine AWq.scope ?_ | refine AWq.label ?_ | refine AWq.ret ?_ | refine AWq.exit ?_ | refine AWq.loop ?_ | refine AWq.rangeFunc ?_ | refine DrawA.consD ?_ | refine DrawA.nil ?_ | refine DrawL.consD ?_ | refine DrawL.nil ?_ | refine DrawF.consD ?_ | refine DrawF.nil ?_ | refine AWq.draw (by decide +kernel) ?_ | (refine Both.mk ?_ ?_ <;> intro hc <;> (first | exact Bool.noConfusion hc | exact absurd (by with_reducible rfl) hc | exact (hc : False).elim | exact absurd (by assumption) hc | exact absurd hc (by assumption) | (exfalso; omega) | exact absurd hc (by decide) | skip)) | (intro c hc; (try (simp only [AH.none_iff] at hc; repeat (have hn := hc.1; replace hc := hc.2))); (first | (have hc2 := Eq.trans hc (by with_reducible assumption); clear hc; subst hc2) | (refine i64_k hc ?_ ?_ ?_ ; omega; omega; (clear hc; intro hc; subst hc)) | (refine u64_k hc ?_ ?_ ?_ ; omega; omega; (clear hc; intro hc; subst hc)) | (refine u8_k hc ?_ ?_ ?_ ; omega; omega; (clear hc; intro hc; subst hc)) | subst hc | skip)) | (apply Exists.intro; apply And.intro; (focus (repeat (first | assumption | exact AH.set_same _ _ _ | ((first | refine AH.get_ne ?_ ?_ | refine AH.getd_ne ?_ ?_); (first | assumption | omega | exact Ne.symm (by assumption) | exact AH.ne_none (by assumption) (by assumption) | exact AH.none_ne (by assumption) (by assumption) | exact (AH.none_set (by assumption)).1 | exact Ne.symm (AH.none_set (by assumption)).1)))); done)) | (apply Exists.intro; apply And.intro; first | (with_reducible assumption) | ((try simp only [List.getElem?_drop, Nat.mul_one, Nat.add_zero, Nat.zero_add]); first | (with_reducible assumption) | (refine u8s_get ?_; omega) | (refine iS_get ?_; omega) | assumption | rfl | fail)) | (apply And.intro; (first | rfl | (with_reducible assumption) | exact Nat.le_of_ble_eq_true rfl | omega | (exact Int.ofNat_lt.2 (Nat.lt_of_lt_of_eq (by with_reducible assumption) (by decide +kernel))) | assumption | (simp <;> fail) | (simp <;> omega) | (focus (repeat' (first | exact one_u8s _ | exact one_iS _ _ | rfl | apply one_take | apply one_drop | apply one_append)); done) | fail)) | fail)) <;> (try (conv => whnf))
  refine (Repeat_c n h1 h2 _).mono ?_
  rintro y H' ⟨q, hq, rfl, rfl⟩
  (repeat' ((conv => whnf); first | refine Then.mk ?_ | left | refine OpsA.cons ?_ | refine OpsA.nil ?_ | refine AWq.seq ?_ | refine AWq.region ?_ | refine AWq.cond ?_ | refine AWq.block ?_ | refine AWq.skip ?_ | refine AWq.scope ?_ | refine AWq.label ?_ | refine AWq.ret ?_ | refine AWq.exit ?_ | refine AWq.loop ?_ | refine AWq.rangeFunc ?_ | refine DrawA.consD ?_ | refine DrawA.nil ?_ | refine DrawL.consD ?_ | refine DrawL.nil ?_ | refine DrawF.consD ?_ | refine DrawF.nil ?_ | refine AWq.draw (by decide +kernel) ?_ | (refine Both.mk ?_ ?_ <;> intro hc <;> (first | exact Bool.noConfusion hc | exact absurd (by with_reducible rfl) hc | exact (hc : False).elim | exact absurd (by assumption) hc | exact absurd hc (by assumption) | (exfalso; omega) | exact absurd hc (by decide) | skip)) | (intro c hc; (try (simp only [AH.none_iff] at hc; repeat (have hn := hc.1; replace hc := hc.2))); (first | (have hc2 := Eq.trans hc (by with_reducible assumption); clear hc; subst hc2) | (refine i64_k hc ?_ ?_ ?_ ; omega; omega; (clear hc; intro hc; subst hc)) | (refine u64_k hc ?_ ?_ ?_ ; omega; omega; (clear hc; intro hc; subst hc)) | (refine u8_k hc ?_ ?_ ?_ ; omega; omega; (clear hc; intro hc; subst hc)) | subst hc | skip)) | (apply Exists.intro; apply And.intro; (focus (repeat (first | assumption | exact AH.set_same _ _ _ | ((first | refine AH.get_ne ?_ ?_ | refine AH.getd_ne ?_ ?_); (first | assumption | omega | exact Ne.symm (by assumption) | exact AH.ne_none (by assumption) (by assumption) | exact AH.none_ne (by assumption) (by assumption) | exact (AH.none_set (by assumption)).1 | exact Ne.symm (AH.none_set (by assumption)).1)))); done)) | (apply Exists.intro; apply And.intro; first | (with_reducible assumption) | ((try simp only [List.getElem?_drop, Nat.mul_one, Nat.add_zero, Nat.zero_add]); first | (with_reducible assumption) | (refine u8s_get ?_; omega) | (refine iS_get ?_; omega) | assumption | rfl | fail)) | (apply And.intro; (first | rfl | (with_reducible assumption) | exact Nat.le_of_ble_eq_true rfl | omega | (exact Int.ofNat_lt.2 (Nat.lt_of_lt_of_eq (by with_reducible assumption) (by decide +kernel))) | assumption | (simp <;> fail) | (simp <;> omega) | (focus (repeat' (first | exact one_u8s _ | exact one_iS _ _ | rfl | apply one_take | apply one_drop | apply one_append)); done) | fail)) | fail)) <;> (try (conv => whnf))
  refine ⟨c, q, hc, hq, hn, rfl, ?_⟩
  unfold mdH
  rw [plc_ones]
  rfl
end Go.Proofs.Ytgmooalikccbiaa
/- The walks of the coder's models: places, and what is seen. -/
namespace Go.Proofs.Ytgmooalikccbiaa
open Go.Fw Go
set_option linter.unusedVariables false
set_option linter.unusedSimpArgs false

/-- Here stands a model. -/
structure MdAt (H : AH) (p q n : Nat) (c : Nat → Nat) : Prop where
  hp : H p = some (.row [.sl q 0 1 0 n none, .int .i64 (plc c n : Nat)] 0)
  hq : H q = some (.row (iL n fun k => (c k : Int)) 0)
  ne : p ≠ q
  ok : MdOk n c
theorem MdAt.set {H : AH} {p q n : Nat} {c d : Nat → Nat} (h : p ≠ q) (hd : MdOk n d) : MdAt (mdH H p q n d) p q n d := by
  refine ⟨AH.set_same _ _ _, ?_, h, hd⟩
  unfold mdH
  rw [AH.set_ne _ _ (Ne.symm h), AH.set_same]
theorem iL_gi {n i : Nat} (X : Ln) (h : i < n) : (iL n X)[(i : Int).toNat]? = some (.int .i64 (X i)) := iL_get X h

set_option maxRecDepth 8000 in
theorem place_c {H : AH} {p q n : Nat} {c : Nat → Nat} (h : MdAt H p q n c) (s : Nat) (hs : s ≤ n) :
    ACall Try.prog 62 [.ptr p 0 0, .int .i64 s] H (fun y H' => y = .int .i64 (plc c s : Nat) ∧ H' = H) := by
  obtain ⟨hp, hq, hne, hok⟩ := h
  have hn := hok.hn
  obtain ⟨T, hT⟩ : ∃ T : Nat, T = plc c n := ⟨_, rfl⟩
  have hTb : T ≤ 32768 := by rw [hT]; exact hok.sum
  rw [← hT] at hp
  have hcell := fun i (hi : i < n) => iL_gi (fun k => (c k : Int)) hi
  have hlen : (iL n fun k => (c k : Int)).length = n := iL_len _ _
  generalize (iL n fun k => (c k : Int)) = cells at *
  refine ACall_of tt_ok (dok _) Try.func62 rfl (by decide) rfl ?_
  (repeat' ((conv => whnf); first | refine Then.mk ?_ | left | refine OpsA.cons ?_ | refine OpsA.nil ?_ | refine AWq.seq ?_ | refine AWq.region ?_ | refine AWq.cond ?_ | refine AWq.block ?_ | refine AWq.skip ?_ | refine AWq.scope ?_ | refine AWq.label ?_ | refine AWq.ret ?_ | refine AWq.exit ?_ | refine AWq.loop ?_ | refine AWq.rangeFunc ?_ | refine DrawA.consD ?_ | refine DrawA.nil ?_ | refine DrawL.consD ?_ | refine DrawL.nil ?_ | refine DrawF.consD ?_ | refine DrawF.nil ?_ | refine AWq.draw (by decide +kernel) ?_ | (refine Both.mk ?_ ?_ <;> intro hc <;> (first | exact Bool.noConfusion hc | exact absurd (by with_reducible rfl) hc | exact (hc : False).elim | exact absurd (by assumption) hc | exact absurd hc (by assumption) | (exfalso; omega) | exact absurd hc (by decide) | skip)) | (intro c hc; (try (simp only [AH.none_iff] at hc; repeat (have hn := hc.1; replace hc := hc.2))); (first | (have hc2 := Eq.trans hc (by with_reducible assumption); clear hc; subst hc2) | (refine i64_k hc ?_ ?_ ?_ ; omega; omega; (clear hc; intro hc; subst hc)) | (refine u64_k hc ?_ ?_ ?_ ; omega; omega; (clear hc; intro hc; subst hc)) | (refine u8_k hc ?_ ?_ ?_ ; omega; omega; (clear hc; intro hc; subst hc)) | subst hc | skip)) | (apply Exists.intro; apply And.intro; (focus (repeat (first | assumption | exact AH.set_same _ _ _ | ((first | refine AH.get_ne ?_ ?_ | refine AH.getd_ne ?_ ?_); (first | assumption | omega | exact Ne.symm (by assumption) | exact AH.ne_none (by assumption) (by assumption) | exact AH.none_ne (by assumption) (by assumption) | exact (AH.none_set (by assumption)).1 | exact Ne.symm (AH.none_set (by assumption)).1)))); done)) | (apply Exists.intro; apply And.intro; first | (with_reducible assumption) | ((try simp only [List.getElem?_drop, Nat.mul_one, Nat.add_zero, Nat.zero_add]); first | (with_reducible assumption) | (refine u8s_get ?_; omega) | (refine iS_get ?_; omega) | assumption | rfl | fail)) | (apply And.intro; (first | rfl | (with_reducible assumption) | exact Nat.le_of_ble_eq_true rfl | omega | (exact Int.ofNat_lt.2 (Nat.lt_of_lt_of_eq (by with_reducible assumption) (by decide +kernel))) | assumption | (simp <;> fail) | (simp <;> omega) | (focus (repeat' (first | exact one_u8s _ | exact one_iS _ _ | rfl | apply one_take | apply one_drop | apply one_append)); done) | fail)) | fail)) <;> (try (conv => whnf))
  refine AWp_loop (σ := Nat) (5 :: 7 :: 15 :: 16 :: 17 :: 18 :: 19 :: 20 :: 21 :: 22 :: []) (fun i => [(15, .int .i64 i), (5, .int .i64 (plc c i : Nat))]) (fun _ => H) (fun i => i ≤ s) (fun i => s - i) 0 rfl ?_ ?_ ?_ ?_
  · exact Nat.zero_le _
  · exact ⟨rfl, rfl, trivial⟩
  · exact HLe.refl _
  · rintro i hi
    dsimp only at hi ⊢
    refine AWp.of tt_ok (dok _) rfl ?_
    have hpl : plc c i ≤ T := by rw [hT]; exact plc_le (by omega)
    by_cases his : i < s
    · have hg := hcell i (by omega)
      have hci := hok.le (show i < n by omega)
      (repeat' ((conv => whnf); first | refine Then.mk ?_ | left | refine OpsA.cons ?_ | refine OpsA.nil ?_ | refine AWq.seq ?_ | refine AWq.region ?_ | refine AWq.cond ?_ | refine AWq.block ?_ | refine AWq.skip ?_ | refine AWq.scope ?_ | refine AWq.label ?_ | refine AWq.ret ?_ | refine AWq.exit ?_ | refine AWq.loop ?_ | refine AWq.rangeFunc ?_ | refine DrawA.consD ?_ | refine DrawA.nil ?_ | refine DrawL.consD ?_ | refine DrawL.nil ?_ | refine DrawF.consD ?_ | refine DrawF.nil ?_ | refine AWq.draw (by decide +kernel) ?_ | (refine Both.mk ?_ ?_ <;> intro hc <;> (first | exact Bool.noConfusion hc | exact absurd (by with_reducible rfl) hc | exact (hc : False).elim | exact absurd (by assumption) hc | exact absurd hc (by assumption) | (exfalso; omega) | exact absurd hc (by decide) | skip)) | (intro c hc; (try (simp only [AH.none_iff] at hc; repeat (have hn := hc.1; replace hc := hc.2))); (first | (have hc2 := Eq.trans hc (by with_reducible assumption); clear hc; subst hc2) | (refine i64_k hc ?_ ?_ ?_ ; omega; omega; (clear hc; intro hc; subst hc)) | (refine u64_k hc ?_ ?_ ?_ ; omega; omega; (clear hc; intro hc; subst hc)) | (refine u8_k hc ?_ ?_ ?_ ; omega; omega; (clear hc; intro hc; subst hc)) | subst hc | skip)) | (apply Exists.intro; apply And.intro; (focus (repeat (first | assumption | exact AH.set_same _ _ _ | ((first | refine AH.get_ne ?_ ?_ | refine AH.getd_ne ?_ ?_); (first | assumption | omega | exact Ne.symm (by assumption) | exact AH.ne_none (by assumption) (by assumption) | exact AH.none_ne (by assumption) (by assumption) | exact (AH.none_set (by assumption)).1 | exact Ne.symm (AH.none_set (by assumption)).1)))); done)) | (apply Exists.intro; apply And.intro; first | (with_reducible assumption) | ((try simp only [List.getElem?_drop, Nat.mul_one, Nat.add_zero, Nat.zero_add]); first | (with_reducible assumption) | (refine u8s_get ?_; omega) | (refine iS_get ?_; omega) | assumption | rfl | fail)) | (apply And.intro; (first | rfl | (with_reducible assumption) | exact Nat.le_of_ble_eq_true rfl | omega | (exact Int.ofNat_lt.2 (Nat.lt_of_lt_of_eq (by with_reducible assumption) (by decide +kernel))) | assumption | (simp <;> fail) | (simp <;> omega) | (focus (repeat' (first | exact one_u8s _ | exact one_iS _ _ | rfl | apply one_take | apply one_drop | apply one_append)); done) | fail)) | fail)) <;> (try (conv => whnf))
      exact ⟨i + 1, by omega, by omega, ⟨congrArg (AV.int .i64) (by omega), congrArg (AV.int .i64) (by show ((plc c i : Nat) : Int) + (c i : Int) = ((plc c i + c i : Nat) : Int); omega), trivial⟩, HLe.refl _⟩
    · have hie : i = s := by omega
      subst hie
      (repeat' ((conv => whnf); first | refine Then.mk ?_ | left | refine OpsA.cons ?_ | refine OpsA.nil ?_ | refine AWq.seq ?_ | refine AWq.region ?_ | refine AWq.cond ?_ | refine AWq.block ?_ | refine AWq.skip ?_ | refine AWq.scope ?_ | refine AWq.label ?_ | refine AWq.ret ?_ | refine AWq.exit ?_ | refine AWq.loop ?_ | refine AWq.rangeFunc ?_ | refine DrawA.consD ?_ | refine DrawA.nil ?_ | refine DrawL.consD ?_ | refine DrawL.nil ?_ | refine DrawF.consD ?_ | refine DrawF.nil ?_ | refine AWq.draw (by decide +kernel) ?_ | (refine Both.mk ?_ ?_ <;> intro hc <;> (first | exact Bool.noConfusion hc | exact absurd (by with_reducible rfl) hc | exact (hc : False).elim | exact absurd (by assumption) hc | exact absurd hc (by assumption) | (exfalso; omega) | exact absurd hc (by decide) | skip)) | (intro c hc; (try (simp only [AH.none_iff] at hc; repeat (have hn := hc.1; replace hc := hc.2))); (first | (have hc2 := Eq.trans hc (by with_reducible assumption); clear hc; subst hc2) | (refine i64_k hc ?_ ?_ ?_ ; omega; omega; (clear hc; intro hc; subst hc)) | (refine u64_k hc ?_ ?_ ?_ ; omega; omega; (clear hc; intro hc; subst hc)) | (refine u8_k hc ?_ ?_ ?_ ; omega; omega; (clear hc; intro hc; subst hc)) | subst hc | skip)) | (apply Exists.intro; apply And.intro; (focus (repeat (first | assumption | exact AH.set_same _ _ _ | ((first | refine AH.get_ne ?_ ?_ | refine AH.getd_ne ?_ ?_); (first | assumption | omega | exact Ne.symm (by assumption) | exact AH.ne_none (by assumption) (by assumption) | exact AH.none_ne (by assumption) (by assumption) | exact (AH.none_set (by assumption)).1 | exact Ne.symm (AH.none_set (by assumption)).1)))); done)) | (apply Exists.intro; apply And.intro; first | (with_reducible assumption) | ((try simp only [List.getElem?_drop, Nat.mul_one, Nat.add_zero, Nat.zero_add]); first | (with_reducible assumption) | (refine u8s_get ?_; omega) | (refine iS_get ?_; omega) | assumption | rfl | fail)) | (apply And.intro; (first | rfl | (with_reducible assumption) | exact Nat.le_of_ble_eq_true rfl | omega | (exact Int.ofNat_lt.2 (Nat.lt_of_lt_of_eq (by with_reducible assumption) (by decide +kernel))) | assumption | (simp <;> fail) | (simp <;> omega) | (focus (repeat' (first | exact one_u8s _ | exact one_iS _ _ | rfl | apply one_take | apply one_drop | apply one_append)); done) | fail)) | fail)) <;> (try (conv => whnf))

theorem wrA_same' {l : List AV} {k : Nat} (v : AV) (h : k < l.length) : (wrA l k [v])[k]? = some v := by
  unfold wrA
  rw [List.append_assoc, List.getElem?_append_right (by rw [List.length_take]; omega), List.length_take, Nat.min_eq_left (by omega), Nat.sub_self]
  rfl
theorem plc_nn (c : Nat → Nat) (n : Nat) : (0 : Int) ≤ (plc c n : Nat) := Int.natCast_nonneg _
set_option maxRecDepth 8000 in
theorem see_c {H : AH} {p q n : Nat} {c : Nat → Nat} (h : MdAt H p q n c) (s : Nat) (hs : s < n) :
    ACall Try.prog 29 [.ptr p 0 0, .int .i64 s] H (fun y H' => y = .int .i64 0 ∧ H' = mdH H p q n (seeM n c s)) := by
  obtain ⟨hp, hq, hne, hok⟩ := h
  have hn := hok.hn
  have hu : plc (upM c s) n = plc c n + 32 := by
    have := plc_add (c := c) (s := s) (a := 32) (n := n)
    rw [if_pos hs] at this
    exact this
  have hTb := hok.sum
  have hcs := hok.le hs
  have hpu : ∀ k, k < n → upM c s k ≤ 32800 := fun k hk => by
    have := hok.le hk
    unfold upM; split <;> omega
  obtain ⟨T, hT⟩ : ∃ T : Nat, T = plc c n := ⟨_, rfl⟩
  rw [← hT] at hp hTb hu
  obtain ⟨cells, hce⟩ : ∃ cells, cells = iL n fun k => (c k : Int) := ⟨_, rfl⟩
  have hg : cells[(s : Int).toNat]? = some (.int .i64 (c s)) := by rw [hce]; exact iL_gi (fun k => (c k : Int)) hs
  have hlen : cells.length = n := by rw [hce]; exact iL_len _ _
  have hw : wrA cells (0 + (s : Int).toNat * 1) [.int .i64 ((c s : Int) + 32)] = iL n fun k => (upM c s k : Int) := by
    rw [Nat.zero_add, Nat.mul_one, Int.toNat_natCast, hce, iL_wr _ hs]
    refine iL_congr fun k hk => ?_
    unfold upM
    split
    · rename_i e; rw [e]; omega
    · rfl
  rw [← hce] at hq
  have hqp : q ≠ p := Ne.symm hne
  refine ACall_of tt_ok (dok _) Try.func29 rfl (by decide) rfl ?_
  by_cases hbig : 32768 < T + 32
  · (repeat' ((conv => whnf); first | refine Then.mk ?_ | left | refine OpsA.cons ?_ | refine OpsA.nil ?_ | refine AWq.seq ?_ | refine AWq.region ?_ | refine AWq.cond ?_ | refine AWq.block ?_ | refine AWq.skip ?_ | refine AWq.scope ?_ | refine AWq.label ?_ | refine AWq.ret ?_ | refine AWq.exit ?_ | refine AWq.loop ?_ | refine AWq.rangeFunc ?_ | refine DrawA.consD ?_ | refine DrawA.nil ?_ | refine DrawL.consD ?_ | refine DrawL.nil ?_ | refine DrawF.consD ?_ | refine DrawF.nil ?_ | refine AWq.draw (by decide +kernel) ?_ | (refine Both.mk ?_ ?_ <;> intro hc <;> (first | exact Bool.noConfusion hc | exact absurd (by with_reducible rfl) hc | exact (hc : False).elim | exact absurd (by assumption) hc | exact absurd hc (by assumption) | (exfalso; omega) | exact absurd hc (by decide) | skip)) | (intro c hc; (try (simp only [AH.none_iff] at hc; repeat (have hn := hc.1; replace hc := hc.2))); (first | (have hc2 := Eq.trans hc (by with_reducible assumption); clear hc; subst hc2) | (refine i64_k hc ?_ ?_ ?_ ; omega; omega; (clear hc; intro hc; subst hc)) | (refine u64_k hc ?_ ?_ ?_ ; omega; omega; (clear hc; intro hc; subst hc)) | (refine u8_k hc ?_ ?_ ?_ ; omega; omega; (clear hc; intro hc; subst hc)) | subst hc | skip)) | (apply Exists.intro; apply And.intro; (focus (repeat (first | assumption | exact AH.set_same _ _ _ | ((first | refine AH.get_ne ?_ ?_ | refine AH.getd_ne ?_ ?_); (first | assumption | omega | exact Ne.symm (by assumption) | exact AH.ne_none (by assumption) (by assumption) | exact AH.none_ne (by assumption) (by assumption) | exact (AH.none_set (by assumption)).1 | exact Ne.symm (AH.none_set (by assumption)).1)))); done)) | (apply Exists.intro; apply And.intro; first | (with_reducible assumption) | ((try simp only [List.getElem?_drop, Nat.mul_one, Nat.add_zero, Nat.zero_add]); first | (with_reducible assumption) | (refine u8s_get ?_; omega) | (refine iS_get ?_; omega) | assumption | rfl | fail)) | (apply And.intro; (first | rfl | (with_reducible assumption) | exact Nat.le_of_ble_eq_true rfl | omega | (exact Int.ofNat_lt.2 (Nat.lt_of_lt_of_eq (by with_reducible assumption) (by decide +kernel))) | assumption | (simp <;> fail) | (simp <;> omega) | (focus (repeat' (first | exact one_u8s _ | exact one_iS _ _ | rfl | apply one_take | apply one_drop | apply one_append)); done) | fail)) | fail)) <;> (try (conv => whnf))
    refine AWp_loop (σ := Nat) (5 :: 6 :: 47 :: 48 :: 49 :: 50 :: 51 :: 52 :: 53 :: 54 :: 55 :: 56 :: 57 :: 58 :: 59 :: 60 :: 61 :: 62 :: 63 :: 64 :: 65 :: 66 :: 67 :: 68 :: 69 :: 70 :: 71 :: 72 :: 73 :: 74 :: 75 :: []) (fun i => [(47, .int .i64 i)]) (fun i => (H.set q (.row (iL n fun k => ((if k < i then (upM c s k + 1) / 2 else upM c s k : Nat) : Int)) 0)).set p (.row [.sl q 0 1 0 n none, .int .i64 (plc (fun k => (upM c s k + 1) / 2) i : Nat)] 0)) (fun i => i ≤ n) (fun i => n - i) 0 rfl ?_ ?_ ?_ ?_
    · exact Nat.zero_le _
    · exact ⟨rfl, trivial⟩
    · refine HLe.of_eq ?_
      have e0 : (iL n fun k => ((if k < 0 then (upM c s k + 1) / 2 else upM c s k : Nat) : Int)) = wrA cells (0 + (s : Int).toNat * 1) [.int .i64 ((c s : Int) + 32)] := by
        rw [hw]; exact iL_congr fun k hk => by rw [if_neg (by omega)]
      rw [e0]
      ((funext s; simp only [AH.set, AH.del]; repeat' split) <;> (first | rfl | (exfalso; omega)))
    · rintro i hi
      dsimp only at hi ⊢
      refine AWp.of tt_ok (dok _) rfl ?_
      by_cases hin : i < n
      · have hh : 2 * plc (fun k => (upM c s k + 1) / 2) i ≤ plc (upM c s) i + i := plc_half
        have hh2 : plc (upM c s) i ≤ plc (upM c s) n := plc_le hi
        obtain ⟨hT2, hTT⟩ : ∃ x : Nat, x = plc (fun k => (upM c s k + 1) / 2) i := ⟨_, rfl⟩
        have hui := hpu i hin
        have ht : (((upM c s i : Int) + 1)).tdiv 2 = ((upM c s i + 1) / 2 : Nat) := by
          rw [Int.tdiv_eq_ediv_of_nonneg (by omega)]; omega
        have hx : (upM c s i + 1) / 2 ≤ 16400 := by omega
        obtain ⟨z, hz⟩ : ∃ z, z = iL n fun k => ((if k < i then (upM c s k + 1) / 2 else upM c s k : Nat) : Int) := ⟨_, rfl⟩
        have g1 : z[(i : Int).toNat]? = some (.int .i64 (upM c s i)) := by
          rw [hz]; refine (iL_gi _ hin).trans ?_
          rw [if_neg (by omega)]
        have hzl : z.length = n := by rw [hz]; exact iL_len _ _
        have g2 : (wrA z (i : Int).toNat [.int .i64 (((upM c s i : Int) + 1).tdiv 2)])[(i : Int).toNat]? = some (.int .i64 (((upM c s i : Int) + 1).tdiv 2)) := by
          rw [Int.toNat_natCast]
          exact wrA_same' _ (by omega)
        have w2 : wrA z (0 + (i : Int).toNat * 1) [.int .i64 (((upM c s i : Int) + 1).tdiv 2)] = iL n fun k => ((if k < i + 1 then (upM c s k + 1) / 2 else upM c s k : Nat) : Int) := by
          rw [Nat.zero_add, Nat.mul_one, Int.toNat_natCast, hz, iL_wr _ hin, ht]
          refine iL_congr fun k hk => ?_
          by_cases e : k = i
          · subst e; rw [if_pos rfl, if_pos (by omega)]
          · rw [if_neg e]
            by_cases e2 : k < i
            · rw [if_pos e2, if_pos (by omega)]
            · rw [if_neg e2, if_neg (by omega)]
        have w1 : (plc (fun k => (upM c s k + 1) / 2) i : Int) + ((upM c s i : Int) + 1).tdiv 2 = (plc (fun k => (upM c s k + 1) / 2) (i + 1) : Nat) := by
          rw [ht]
          show _ = ((plc (fun k => (upM c s k + 1) / 2) i + (upM c s i + 1) / 2 : Nat) : Int)
          omega
        rw [← hz]
        (repeat' ((conv => whnf); first | refine Then.mk ?_ | left | refine OpsA.cons ?_ | refine OpsA.nil ?_ | refine AWq.seq ?_ | refine AWq.region ?_ | refine AWq.cond ?_ | refine AWq.block ?_ | refine AWq.skip ?_ | refine AWq.scope ?_ | refine AWq.label ?_ | refine AWq.ret ?_ | refine AWq.exit ?_ | refine AWq.loop ?_ | refine AWq.rangeFunc ?_ | refine DrawA.consD ?_ | refine DrawA.nil ?_ | refine DrawL.consD ?_ | refine DrawL.nil ?_ | refine DrawF.consD ?_ | refine DrawF.nil ?_ | refine AWq.draw (by decide +kernel) ?_ | (refine Both.mk ?_ ?_ <;> intro hc <;> (first | exact Bool.noConfusion hc | exact absurd (by with_reducible rfl) hc | exact (hc : False).elim | exact absurd (by assumption) hc | exact absurd hc (by assumption) | (exfalso; omega) | exact absurd hc (by decide) | skip)) | (intro c hc; (try (simp only [AH.none_iff] at hc; repeat (have hn := hc.1; replace hc := hc.2))); (first | (have hc2 := Eq.trans hc (by with_reducible assumption); clear hc; subst hc2) | (refine i64_k hc ?_ ?_ ?_ ; omega; omega; (clear hc; intro hc; subst hc)) | (refine u64_k hc ?_ ?_ ?_ ; omega; omega; (clear hc; intro hc; subst hc)) | (refine u8_k hc ?_ ?_ ?_ ; omega; omega; (clear hc; intro hc; subst hc)) | subst hc | skip)) | (apply Exists.intro; apply And.intro; (focus (repeat (first | assumption | exact AH.set_same _ _ _ | ((first | refine AH.get_ne ?_ ?_ | refine AH.getd_ne ?_ ?_); (first | assumption | omega | exact Ne.symm (by assumption) | exact AH.ne_none (by assumption) (by assumption) | exact AH.none_ne (by assumption) (by assumption) | exact (AH.none_set (by assumption)).1 | exact Ne.symm (AH.none_set (by assumption)).1)))); done)) | (apply Exists.intro; apply And.intro; first | (with_reducible assumption) | ((try simp only [List.getElem?_drop, Nat.mul_one, Nat.add_zero, Nat.zero_add]); first | (with_reducible assumption) | (refine u8s_get ?_; omega) | (refine iS_get ?_; omega) | assumption | rfl | fail)) | (apply And.intro; (first | rfl | (with_reducible assumption) | exact Nat.le_of_ble_eq_true rfl | omega | (exact Int.ofNat_lt.2 (Nat.lt_of_lt_of_eq (by with_reducible assumption) (by decide +kernel))) | assumption | (simp <;> fail) | (simp <;> omega) | (focus (repeat' (first | exact one_u8s _ | exact one_iS _ _ | rfl | apply one_take | apply one_drop | apply one_append)); done) | fail)) | fail)) <;> (try (conv => whnf))
        refine ⟨i + 1, by omega, by omega, ⟨congrArg (AV.int .i64) (by omega), trivial⟩, HLe.of_eq ?_⟩
        rw [← w2, ← w1]
        ((funext s; simp only [AH.set, AH.del]; repeat' split) <;> (first | rfl | (exfalso; omega)))
      · have hie : i = n := by omega
        subst hie
        (repeat' ((conv => whnf); first | refine Then.mk ?_ | left | refine OpsA.cons ?_ | refine OpsA.nil ?_ | refine AWq.seq ?_ | refine AWq.region ?_ | refine AWq.cond ?_ | refine AWq.block ?_ | refine AWq.skip ?_ | refine AWq.scope ?_ | refine AWq.label ?_ | refine AWq.ret ?_ | refine AWq.exit ?_ | refine AWq.loop ?_ | refine AWq.rangeFunc ?_ | refine DrawA.consD ?_ | refine DrawA.nil ?_ | refine DrawL.consD ?_ | refine DrawL.nil ?_ | refine DrawF.consD ?_ | refine DrawF.nil ?_ | refine AWq.draw (by decide +kernel) ?_ | (refine Both.mk ?_ ?_ <;> intro hc <;> (first | exact Bool.noConfusion hc | exact absurd (by with_reducible rfl) hc | exact (hc : False).elim | exact absurd (by assumption) hc | exact absurd hc (by assumption) | (exfalso; omega) | exact absurd hc (by decide) | skip)) | (intro c hc; (try (simp only [AH.none_iff] at hc; repeat (have hn := hc.1; replace hc := hc.2))); (first | (have hc2 := Eq.trans hc (by with_reducible assumption); clear hc; subst hc2) | (refine i64_k hc ?_ ?_ ?_ ; omega; omega; (clear hc; intro hc; subst hc)) | (refine u64_k hc ?_ ?_ ?_ ; omega; omega; (clear hc; intro hc; subst hc)) | (refine u8_k hc ?_ ?_ ?_ ; omega; omega; (clear hc; intro hc; subst hc)) | subst hc | skip)) | (apply Exists.intro; apply And.intro; (focus (repeat (first | assumption | exact AH.set_same _ _ _ | ((first | refine AH.get_ne ?_ ?_ | refine AH.getd_ne ?_ ?_); (first | assumption | omega | exact Ne.symm (by assumption) | exact AH.ne_none (by assumption) (by assumption) | exact AH.none_ne (by assumption) (by assumption) | exact (AH.none_set (by assumption)).1 | exact Ne.symm (AH.none_set (by assumption)).1)))); done)) | (apply Exists.intro; apply And.intro; first | (with_reducible assumption) | ((try simp only [List.getElem?_drop, Nat.mul_one, Nat.add_zero, Nat.zero_add]); first | (with_reducible assumption) | (refine u8s_get ?_; omega) | (refine iS_get ?_; omega) | assumption | rfl | fail)) | (apply And.intro; (first | rfl | (with_reducible assumption) | exact Nat.le_of_ble_eq_true rfl | omega | (exact Int.ofNat_lt.2 (Nat.lt_of_lt_of_eq (by with_reducible assumption) (by decide +kernel))) | assumption | (simp <;> fail) | (simp <;> omega) | (focus (repeat' (first | exact one_u8s _ | exact one_iS _ _ | rfl | apply one_take | apply one_drop | apply one_append)); done) | fail)) | fail)) <;> (try (conv => whnf))
        have e : seeM i c s = fun k => (upM c s k + 1) / 2 := if_pos (by omega)
        unfold mdH
        rw [e]
        have e2 : (iL i fun k => ((if k < i then (upM c s k + 1) / 2 else upM c s k : Nat) : Int)) = iL i fun k => (((upM c s k + 1) / 2 : Nat) : Int) := iL_congr fun k hk => by rw [if_pos hk]
        rw [e2]
  · (repeat' ((conv => whnf); first | refine Then.mk ?_ | left | refine OpsA.cons ?_ | refine OpsA.nil ?_ | refine AWq.seq ?_ | refine AWq.region ?_ | refine AWq.cond ?_ | refine AWq.block ?_ | refine AWq.skip ?_ | refine AWq.scope ?_ | refine AWq.label ?_ | refine AWq.ret ?_ | refine AWq.exit ?_ | refine AWq.loop ?_ | refine AWq.rangeFunc ?_ | refine DrawA.consD ?_ | refine DrawA.nil ?_ | refine DrawL.consD ?_ | refine DrawL.nil ?_ | refine DrawF.consD ?_ | refine DrawF.nil ?_ | refine AWq.draw (by decide +kernel) ?_ | (refine Both.mk ?_ ?_ <;> intro hc <;> (first | exact Bool.noConfusion hc | exact absurd (by with_reducible rfl) hc | exact (hc : False).elim | exact absurd (by assumption) hc | exact absurd hc (by assumption) | (exfalso; omega) | exact absurd hc (by decide) | skip)) | (intro c hc; (try (simp only [AH.none_iff] at hc; repeat (have hn := hc.1; replace hc := hc.2))); (first | (have hc2 := Eq.trans hc (by with_reducible assumption); clear hc; subst hc2) | (refine i64_k hc ?_ ?_ ?_ ; omega; omega; (clear hc; intro hc; subst hc)) | (refine u64_k hc ?_ ?_ ?_ ; omega; omega; (clear hc; intro hc; subst hc)) | (refine u8_k hc ?_ ?_ ?_ ; omega; omega; (clear hc; intro hc; subst hc)) | subst hc | skip)) | (apply Exists.intro; apply And.intro; (focus (repeat (first | assumption | exact AH.set_same _ _ _ | ((first | refine AH.get_ne ?_ ?_ | refine AH.getd_ne ?_ ?_); (first | assumption | omega | exact Ne.symm (by assumption) | exact AH.ne_none (by assumption) (by assumption) | exact AH.none_ne (by assumption) (by assumption) | exact (AH.none_set (by assumption)).1 | exact Ne.symm (AH.none_set (by assumption)).1)))); done)) | (apply Exists.intro; apply And.intro; first | (with_reducible assumption) | ((try simp only [List.getElem?_drop, Nat.mul_one, Nat.add_zero, Nat.zero_add]); first | (with_reducible assumption) | (refine u8s_get ?_; omega) | (refine iS_get ?_; omega) | assumption | rfl | fail)) | (apply And.intro; (first | rfl | (with_reducible assumption) | exact Nat.le_of_ble_eq_true rfl | omega | (exact Int.ofNat_lt.2 (Nat.lt_of_lt_of_eq (by with_reducible assumption) (by decide +kernel))) | assumption | (simp <;> fail) | (simp <;> omega) | (focus (repeat' (first | exact one_u8s _ | exact one_iS _ _ | rfl | apply one_take | apply one_drop | apply one_append)); done) | fail)) | fail)) <;> (try (conv => whnf))
    show (H.set q (.row (wrA cells (0 + (s : Int).toNat * 1) [.int .i64 ((c s : Int) + 32)]) 0)).set p (.row [.sl q 0 1 0 n none, .int .i64 ((T : Int) + 32)] 0) = _
    have e : seeM n c s = upM c s := if_neg (by omega)
    unfold mdH
    rw [e, hw, hu]
    rfl

set_option maxRecDepth 8000 in
theorem see_bad {H : AH} {p q n : Nat} {c : Nat → Nat} (h : MdAt H p q n c) (s : Int) (hi : -9223372036854775808 ≤ s ∧ s ≤ 9223372036854775807) (hs : ¬ inN s n) :
    ACall Try.prog 29 [.ptr p 0 0, .int .i64 s] H (fun y H' => y = .int .i64 5 ∧ H' = H) := by
  obtain ⟨hp, hq, hne, hok⟩ := h
  have hn := hok.hn
  unfold inN at hs
  refine ACall_of tt_ok (dok _) Try.func29 rfl (by decide) rfl ?_
  by_cases h0 : s < 0
  · (repeat' ((conv => whnf); first | refine Then.mk ?_ | left | refine OpsA.cons ?_ | refine OpsA.nil ?_ | refine AWq.seq ?_ | refine AWq.region ?_ | refine AWq.cond ?_ | refine AWq.block ?_ | refine AWq.skip ?_ | refine AWq.scope ?_ | refine AWq.label ?_ | refine AWq.ret ?_ | refine AWq.exit ?_ | refine AWq.loop ?_ | refine AWq.rangeFunc ?_ | refine DrawA.consD ?_ | refine DrawA.nil ?_ | refine DrawL.consD ?_ | refine DrawL.nil ?_ | refine DrawF.consD ?_ | refine DrawF.nil ?_ | refine AWq.draw (by decide +kernel) ?_ | (refine Both.mk ?_ ?_ <;> intro hc <;> (first | exact Bool.noConfusion hc | exact absurd (by with_reducible rfl) hc | exact (hc : False).elim | exact absurd (by assumption) hc | exact absurd hc (by assumption) | (exfalso; omega) | exact absurd hc (by decide) | skip)) | (intro c hc; (try (simp only [AH.none_iff] at hc; repeat (have hn := hc.1; replace hc := hc.2))); (first | (have hc2 := Eq.trans hc (by with_reducible assumption); clear hc; subst hc2) | (refine i64_k hc ?_ ?_ ?_ ; omega; omega; (clear hc; intro hc; subst hc)) | (refine u64_k hc ?_ ?_ ?_ ; omega; omega; (clear hc; intro hc; subst hc)) | (refine u8_k hc ?_ ?_ ?_ ; omega; omega; (clear hc; intro hc; subst hc)) | subst hc | skip)) | (apply Exists.intro; apply And.intro; (focus (repeat (first | assumption | exact AH.set_same _ _ _ | ((first | refine AH.get_ne ?_ ?_ | refine AH.getd_ne ?_ ?_); (first | assumption | omega | exact Ne.symm (by assumption) | exact AH.ne_none (by assumption) (by assumption) | exact AH.none_ne (by assumption) (by assumption) | exact (AH.none_set (by assumption)).1 | exact Ne.symm (AH.none_set (by assumption)).1)))); done)) | (apply Exists.intro; apply And.intro; first | (with_reducible assumption) | ((try simp only [List.getElem?_drop, Nat.mul_one, Nat.add_zero, Nat.zero_add]); first | (with_reducible assumption) | (refine u8s_get ?_; omega) | (refine iS_get ?_; omega) | assumption | rfl | fail)) | (apply And.intro; (first | rfl | (with_reducible assumption) | exact Nat.le_of_ble_eq_true rfl | omega | (exact Int.ofNat_lt.2 (Nat.lt_of_lt_of_eq (by with_reducible assumption) (by decide +kernel))) | assumption | (simp <;> fail) | (simp <;> omega) | (focus (repeat' (first | exact one_u8s _ | exact one_iS _ _ | rfl | apply one_take | apply one_drop | apply one_append)); done) | fail)) | fail)) <;> (try (conv => whnf))
  · have h1 : (n : Int) ≤ s := by omega
    (repeat' ((conv => whnf); first | refine Then.mk ?_ | left | refine OpsA.cons ?_ | refine OpsA.nil ?_ | refine AWq.seq ?_ | refine AWq.region ?_ | refine AWq.cond ?_ | refine AWq.block ?_ | refine AWq.skip ?_ | refine AWq.scope ?_ | refine AWq.label ?_ | refine AWq.ret ?_ | refine AWq.exit ?_ | refine AWq.loop ?_ | refine AWq.rangeFunc ?_ | refine DrawA.consD ?_ | refine DrawA.nil ?_ | refine DrawL.consD ?_ | refine DrawL.nil ?_ | refine DrawF.consD ?_ | refine DrawF.nil ?_ | refine AWq.draw (by decide +kernel) ?_ | (refine Both.mk ?_ ?_ <;> intro hc <;> (first | exact Bool.noConfusion hc | exact absurd (by with_reducible rfl) hc | exact (hc : False).elim | exact absurd (by assumption) hc | exact absurd hc (by assumption) | (exfalso; omega) | exact absurd hc (by decide) | skip)) | (intro c hc; (try (simp only [AH.none_iff] at hc; repeat (have hn := hc.1; replace hc := hc.2))); (first | (have hc2 := Eq.trans hc (by with_reducible assumption); clear hc; subst hc2) | (refine i64_k hc ?_ ?_ ?_ ; omega; omega; (clear hc; intro hc; subst hc)) | (refine u64_k hc ?_ ?_ ?_ ; omega; omega; (clear hc; intro hc; subst hc)) | (refine u8_k hc ?_ ?_ ?_ ; omega; omega; (clear hc; intro hc; subst hc)) | subst hc | skip)) | (apply Exists.intro; apply And.intro; (focus (repeat (first | assumption | exact AH.set_same _ _ _ | ((first | refine AH.get_ne ?_ ?_ | refine AH.getd_ne ?_ ?_); (first | assumption | omega | exact Ne.symm (by assumption) | exact AH.ne_none (by assumption) (by assumption) | exact AH.none_ne (by assumption) (by assumption) | exact (AH.none_set (by assumption)).1 | exact Ne.symm (AH.none_set (by assumption)).1)))); done)) | (apply Exists.intro; apply And.intro; first | (with_reducible assumption) | ((try simp only [List.getElem?_drop, Nat.mul_one, Nat.add_zero, Nat.zero_add]); first | (with_reducible assumption) | (refine u8s_get ?_; omega) | (refine iS_get ?_; omega) | assumption | rfl | fail)) | (apply And.intro; (first | rfl | (with_reducible assumption) | exact Nat.le_of_ble_eq_true rfl | omega | (exact Int.ofNat_lt.2 (Nat.lt_of_lt_of_eq (by with_reducible assumption) (by decide +kernel))) | assumption | (simp <;> fail) | (simp <;> omega) | (focus (repeat' (first | exact one_u8s _ | exact one_iS _ _ | rfl | apply one_take | apply one_drop | apply one_append)); done) | fail)) | fail)) <;> (try (conv => whnf))

set_option maxRecDepth 8000 in
theorem newModel_c (n : Nat) (h1 : 1 ≤ n) (h2 : n ≤ 1024) (H : AH) :
    ACall Try.prog 27 [.int .i64 n] H (fun y H' => ∃ p q, H p = none ∧ H q = none ∧ p ≠ q ∧ y = .tup [.ptr p 0 0, .int .i64 0] ∧ H' = mdH H p q n fun _ => 1) := by
  refine ACall_of tt_ok (dok _) Try.func27 rfl (by decide) rfl ?_
  (repeat' ((conv => whnf); first | refine Then.mk ?_ | left | refine OpsA.cons ?_ | refine OpsA.nil ?_ | refine AWq.seq ?_ | refine AWq.region ?_ | refine AWq.cond ?_ | refine AWq.block ?_ | refine AWq.skip ?_ | refine AWq.scope ?_ | refine AWq.label ?_ | refine AWq.ret ?_ | refine AWq.exit ?_ | refine AWq.loop ?_ | refine AWq.rangeFunc ?_ | refine DrawA.consD ?_ | refine DrawA.nil ?_ | refine DrawL.consD ?_ | refine DrawL.nil ?_ | refine DrawF.consD ?_ | refine DrawF.nil ?_ | refine AWq.draw (by decide +kernel) ?_ | (refine Both.mk ?_ ?_ <;> intro hc <;> (first | exact Bool.noConfusion hc | exact absurd (by with_reducible rfl) hc | exact (hc : False).elim | exact absurd (by assumption) hc | exact absurd hc (by assumption) | (exfalso; omega) | exact absurd hc (by decide) | skip)) | (intro c hc; (try (simp only [AH.none_iff] at hc; repeat (have hn := hc.1; replace hc := hc.2))); (first | (have hc2 := Eq.trans hc (by with_reducible assumption); clear hc; subst hc2) | (refine i64_k hc ?_ ?_ ?_ ; omega; omega; (clear hc; intro hc; subst hc)) | (refine u64_k hc ?_ ?_ ?_ ; omega; omega; (clear hc; intro hc; subst hc)) | (refine u8_k hc ?_ ?_ ?_ ; omega; omega; (clear hc; intro hc; subst hc)) | subst hc | skip)) | (apply Exists.intro; apply And.intro; (focus (repeat (first | assumption | exact AH.set_same _ _ _ | ((first | refine AH.get_ne ?_ ?_ | refine AH.getd_ne ?_ ?_); (first | assumption | omega | exact Ne.symm (by assumption) | exact AH.ne_none (by assumption) (by assumption) | exact AH.none_ne (by assumption) (by assumption) | exact (AH.none_set (by assumption)).1 | exact Ne.symm (AH.none_set (by assumption)).1)))); done)) | (apply Exists.intro; apply And.intro; first | (with_reducible assumption) | ((try simp only [List.getElem?_drop, Nat.mul_one, Nat.add_zero, Nat.zero_add]); first | (with_reducible assumption) | (refine u8s_get ?_; omega) | (refine iS_get ?_; omega) | assumption | rfl | fail)) | (apply And.intro; (first | rfl | (with_reducible assumption) | exact Nat.le_of_ble_eq_true rfl | omega | (exact Int.ofNat_lt.2 (Nat.lt_of_lt_of_eq (by with_reducible assumption) (by decide +kernel))) | assumption | (simp <;> fail) | (simp <;> omega) | (focus (repeat' (first | exact one_u8s _ | exact one_iS _ _ | rfl | apply one_take | apply one_drop | apply one_append)); done) | fail)) | fail)) <;> (try (conv => whnf))
  refine (fresh_c n h1 (by omega) _).mono ?_
  rintro y H' ⟨p, q, hp, hq, hpq, rfl, rfl⟩
  (repeat' ((conv => whnf); first | refine Then.mk ?_ | left | refine OpsA.cons ?_ | refine OpsA.nil ?_ | refine AWq.seq ?_ | refine AWq.region ?_ | refine AWq.cond ?_ | refine AWq.block ?_ | refine AWq.skip ?_ | refine AWq.scope ?_ | refine AWq.label ?_ | refine AWq.ret ?_ | refine AWq.exit ?_ | refine AWq.loop ?_ | refine AWq.rangeFunc ?_ | refine DrawA.consD ?_ | refine DrawA.nil ?_ | refine DrawL.consD ?_ | refine DrawL.nil ?_ | refine DrawF.consD ?_ | refine DrawF.nil ?_ | refine AWq.draw (by decide +kernel) ?_ | (refine Both.mk ?_ ?_ <;> intro hc <;> (first | exact Bool.noConfusion hc | exact absurd (by with_reducible rfl) hc | exact (hc : False).elim | exact absurd (by assumption) hc | exact absurd hc (by assumption) | (exfalso; omega) | exact absurd hc (by decide) | skip)) | (intro c hc; (try (simp only [AH.none_iff] at hc; repeat (have hn := hc.1; replace hc := hc.2))); (first | (have hc2 := Eq.trans hc (by with_reducible assumption); clear hc; subst hc2) | (refine i64_k hc ?_ ?_ ?_ ; omega; omega; (clear hc; intro hc; subst hc)) | (refine u64_k hc ?_ ?_ ?_ ; omega; omega; (clear hc; intro hc; subst hc)) | (refine u8_k hc ?_ ?_ ?_ ; omega; omega; (clear hc; intro hc; subst hc)) | subst hc | skip)) | (apply Exists.intro; apply And.intro; (focus (repeat (first | assumption | exact AH.set_same _ _ _ | ((first | refine AH.get_ne ?_ ?_ | refine AH.getd_ne ?_ ?_); (first | assumption | omega | exact Ne.symm (by assumption) | exact AH.ne_none (by assumption) (by assumption) | exact AH.none_ne (by assumption) (by assumption) | exact (AH.none_set (by assumption)).1 | exact Ne.symm (AH.none_set (by assumption)).1)))); done)) | (apply Exists.intro; apply And.intro; first | (with_reducible assumption) | ((try simp only [List.getElem?_drop, Nat.mul_one, Nat.add_zero, Nat.zero_add]); first | (with_reducible assumption) | (refine u8s_get ?_; omega) | (refine iS_get ?_; omega) | assumption | rfl | fail)) | (apply And.intro; (first | rfl | (with_reducible assumption) | exact Nat.le_of_ble_eq_true rfl | omega | (exact Int.ofNat_lt.2 (Nat.lt_of_lt_of_eq (by with_reducible assumption) (by decide +kernel))) | assumption | (simp <;> fail) | (simp <;> omega) | (focus (repeat' (first | exact one_u8s _ | exact one_iS _ _ | rfl | apply one_take | apply one_drop | apply one_append)); done) | fail)) | fail)) <;> (try (conv => whnf))
  exact ⟨p, q, hp, hq, hpq, rfl, rfl⟩
set_option maxRecDepth 8000 in
theorem newModel_bad (n : Int) (hi : -9223372036854775808 ≤ n ∧ n ≤ 9223372036854775807) (hn : ¬ (1 ≤ n ∧ n ≤ 1024)) (H : AH) :
    ACall Try.prog 27 [.int .i64 n] H (fun y H' => y = .tup [.nilp, .int .i64 1] ∧ H' = H) := by
  refine ACall_of tt_ok (dok _) Try.func27 rfl (by decide) rfl ?_
  by_cases h0 : n < 1
  · (repeat' ((conv => whnf); first | refine Then.mk ?_ | left | refine OpsA.cons ?_ | refine OpsA.nil ?_ | refine AWq.seq ?_ | refine AWq.region ?_ | refine AWq.cond ?_ | refine AWq.block ?_ | refine AWq.skip ?_ | refine AWq.scope ?_ | refine AWq.label ?_ | refine AWq.ret ?_ | refine AWq.exit ?_ | refine AWq.loop ?_ | refine AWq.rangeFunc ?_ | refine DrawA.consD ?_ | refine DrawA.nil ?_ | refine DrawL.consD ?_ | refine DrawL.nil ?_ | refine DrawF.consD ?_ | refine DrawF.nil ?_ | refine AWq.draw (by decide +kernel) ?_ | (refine Both.mk ?_ ?_ <;> intro hc <;> (first | exact Bool.noConfusion hc | exact absurd (by with_reducible rfl) hc | exact (hc : False).elim | exact absurd (by assumption) hc | exact absurd hc (by assumption) | (exfalso; omega) | exact absurd hc (by decide) | skip)) | (intro c hc; (try (simp only [AH.none_iff] at hc; repeat (have hn := hc.1; replace hc := hc.2))); (first | (have hc2 := Eq.trans hc (by with_reducible assumption); clear hc; subst hc2) | (refine i64_k hc ?_ ?_ ?_ ; omega; omega; (clear hc; intro hc; subst hc)) | (refine u64_k hc ?_ ?_ ?_ ; omega; omega; (clear hc; intro hc; subst hc)) | (refine u8_k hc ?_ ?_ ?_ ; omega; omega; (clear hc; intro hc; subst hc)) | subst hc | skip)) | (apply Exists.intro; apply And.intro; (focus (repeat (first | assumption | exact AH.set_same _ _ _ | ((first | refine AH.get_ne ?_ ?_ | refine AH.getd_ne ?_ ?_); (first | assumption | omega | exact Ne.symm (by assumption) | exact AH.ne_none (by assumption) (by assumption) | exact AH.none_ne (by assumption) (by assumption) | exact (AH.none_set (by assumption)).1 | exact Ne.symm (AH.none_set (by assumption)).1)))); done)) | (apply Exists.intro; apply And.intro; first | (with_reducible assumption) | ((try simp only [List.getElem?_drop, Nat.mul_one, Nat.add_zero, Nat.zero_add]); first | (with_reducible assumption) | (refine u8s_get ?_; omega) | (refine iS_get ?_; omega) | assumption | rfl | fail)) | (apply And.intro; (first | rfl | (with_reducible assumption) | exact Nat.le_of_ble_eq_true rfl | omega | (exact Int.ofNat_lt.2 (Nat.lt_of_lt_of_eq (by with_reducible assumption) (by decide +kernel))) | assumption | (simp <;> fail) | (simp <;> omega) | (focus (repeat' (first | exact one_u8s _ | exact one_iS _ _ | rfl | apply one_take | apply one_drop | apply one_append)); done) | fail)) | fail)) <;> (try (conv => whnf))
  · have h1 : 1024 < n := by omega
    (repeat' ((conv => whnf); first | refine Then.mk ?_ | left | refine OpsA.cons ?_ | refine OpsA.nil ?_ | refine AWq.seq ?_ | refine AWq.region ?_ | refine AWq.cond ?_ | refine AWq.block ?_ | refine AWq.skip ?_ | refine AWq.scope ?_ | refine AWq.label ?_ | refine AWq.ret ?_ | refine AWq.exit ?_ | refine AWq.loop ?_ | refine AWq.rangeFunc ?_ | refine DrawA.consD ?_ | refine DrawA.nil ?_ | refine DrawL.consD ?_ | refine DrawL.nil ?_ | refine DrawF.consD ?_ | refine DrawF.nil ?_ | refine AWq.draw (by decide +kernel) ?_ | (refine Both.mk ?_ ?_ <;> intro hc <;> (first | exact Bool.noConfusion hc | exact absurd (by with_reducible rfl) hc | exact (hc : False).elim | exact absurd (by assumption) hc | exact absurd hc (by assumption) | (exfalso; omega) | exact absurd hc (by decide) | skip)) | (intro c hc; (try (simp only [AH.none_iff] at hc; repeat (have hn := hc.1; replace hc := hc.2))); (first | (have hc2 := Eq.trans hc (by with_reducible assumption); clear hc; subst hc2) | (refine i64_k hc ?_ ?_ ?_ ; omega; omega; (clear hc; intro hc; subst hc)) | (refine u64_k hc ?_ ?_ ?_ ; omega; omega; (clear hc; intro hc; subst hc)) | (refine u8_k hc ?_ ?_ ?_ ; omega; omega; (clear hc; intro hc; subst hc)) | subst hc | skip)) | (apply Exists.intro; apply And.intro; (focus (repeat (first | assumption | exact AH.set_same _ _ _ | ((first | refine AH.get_ne ?_ ?_ | refine AH.getd_ne ?_ ?_); (first | assumption | omega | exact Ne.symm (by assumption) | exact AH.ne_none (by assumption) (by assumption) | exact AH.none_ne (by assumption) (by assumption) | exact (AH.none_set (by assumption)).1 | exact Ne.symm (AH.none_set (by assumption)).1)))); done)) | (apply Exists.intro; apply And.intro; first | (with_reducible assumption) | ((try simp only [List.getElem?_drop, Nat.mul_one, Nat.add_zero, Nat.zero_add]); first | (with_reducible assumption) | (refine u8s_get ?_; omega) | (refine iS_get ?_; omega) | assumption | rfl | fail)) | (apply And.intro; (first | rfl | (with_reducible assumption) | exact Nat.le_of_ble_eq_true rfl | omega | (exact Int.ofNat_lt.2 (Nat.lt_of_lt_of_eq (by with_reducible assumption) (by decide +kernel))) | assumption | (simp <;> fail) | (simp <;> omega) | (focus (repeat' (first | exact one_u8s _ | exact one_iS _ _ | rfl | apply one_take | apply one_drop | apply one_append)); done) | fail)) | fail)) <;> (try (conv => whnf))
set_option maxRecDepth 8000 in
theorem clone_c {H : AH} {q n : Nat} (X : Ln) (hq : H q = some (.row (iL n X) 0)) (hn : n ≤ 1000000) :
    ACall Try.prog 61 [.sl q 0 1 0 n none] H (fun y H' => y = .cs (iL n X) n ∧ H' = H) := by
  refine ACall.coldX (es := 1) (Q := fun H' => H' = H) (by rw [iL_len, Nat.mul_one]) ?_
  have hone := iL_one n X
  have hlen : (iL n X).length = n := iL_len _ _
  generalize iL n X = cells at *
  have hone2 : (List.take (n * 1) (List.drop 0 cells)).all one = true := by
    rw [List.drop_zero, Nat.mul_one, ← hlen, List.take_length]; exact hone
  refine ACall_of tt_ok (dok _) Try.func61 rfl (by decide) rfl ?_
  (repeat' ((conv => whnf); first | refine Then.mk ?_ | refine Or.inr (Or.inl ?_) | refine OpsA.cons ?_ | refine OpsA.nil ?_ | refine AWq.seq ?_ | refine AWq.region ?_ | refine AWq.cond ?_ | refine AWq.block ?_ | refine AWq.skip ?_ | refine AWq.scope ?_ | refine AWq.label ?_ | refine AWq.ret ?_ | refine AWq.exit ?_ | refine AWq.loop ?_ | refine AWq.rangeFunc ?_ | refine DrawA.consD ?_ | refine DrawA.nil ?_ | refine DrawL.consD ?_ | refine DrawL.nil ?_ | refine DrawF.consD ?_ | refine DrawF.nil ?_ | refine AWq.draw (by decide +kernel) ?_ | (refine Both.mk ?_ ?_ <;> intro hc <;> (first | exact Bool.noConfusion hc | exact absurd (by with_reducible rfl) hc | exact (hc : False).elim | exact absurd (by assumption) hc | exact absurd hc (by assumption) | (exfalso; omega) | exact absurd hc (by decide) | skip)) | (intro c hc; (try (simp only [AH.none_iff] at hc; repeat (have hn := hc.1; replace hc := hc.2))); (first | (have hc2 := Eq.trans hc (by with_reducible assumption); clear hc; subst hc2) | (refine i64_k hc ?_ ?_ ?_ ; omega; omega; (clear hc; intro hc; subst hc)) | (refine u64_k hc ?_ ?_ ?_ ; omega; omega; (clear hc; intro hc; subst hc)) | (refine u8_k hc ?_ ?_ ?_ ; omega; omega; (clear hc; intro hc; subst hc)) | subst hc | skip)) | (apply Exists.intro; apply And.intro; (focus (repeat (first | assumption | exact AH.set_same _ _ _ | ((first | refine AH.get_ne ?_ ?_ | refine AH.getd_ne ?_ ?_); (first | assumption | omega | exact Ne.symm (by assumption) | exact AH.ne_none (by assumption) (by assumption) | exact AH.none_ne (by assumption) (by assumption) | exact (AH.none_set (by assumption)).1 | exact Ne.symm (AH.none_set (by assumption)).1)))); done)) | (apply Exists.intro; apply And.intro; first | (with_reducible assumption) | ((try simp only [List.getElem?_drop, Nat.mul_one, Nat.add_zero, Nat.zero_add]); first | (with_reducible assumption) | (refine u8s_get ?_; omega) | (refine iS_get ?_; omega) | assumption | rfl | fail)) | (apply And.intro; (first | rfl | (with_reducible assumption) | exact Nat.le_of_ble_eq_true rfl | omega | (exact Int.ofNat_lt.2 (Nat.lt_of_lt_of_eq (by with_reducible assumption) (by decide +kernel))) | assumption | (simp <;> fail) | (simp <;> omega) | (focus (repeat' (first | exact one_u8s _ | exact one_iS _ _ | rfl | apply one_take | apply one_drop | apply one_append)); done) | fail)) | fail)) <;> (try (conv => whnf))
  · refine .inl ⟨rfl, by assumption, HLe.refl _⟩
  · rename_i c hc
    refine .inr ⟨c, hc, 0 + 1, congrArg (fun k => AV.sl c (0 + 1) 1 0 k none) (Nat.zero_add n), ?_⟩
    refine (AH.set_set _ _ _ _).trans (congrArg (fun l => AH.set H c (.row l (0 + 1))) ?_)
    show [] ++ List.take (n * 1) (List.drop 0 cells) = cells
    rw [List.nil_append, List.drop_zero, Nat.mul_one, ← hlen, List.take_length]
set_option maxRecDepth 8000 in
theorem counts_c {H : AH} {p q n : Nat} {c : Nat → Nat} (h : MdAt H p q n c) :
    ACall Try.prog 31 [.ptr p 0 0] H (fun y H' => y = .cs (iL n fun k => (c k : Int)) n ∧ H' = H) := by
  have hc := clone_c _ h.hq (by have := h.ok.hn; omega)
  obtain ⟨hp, hq, hne, hok⟩ := h
  refine ACall_of tt_ok (dok _) Try.func31 rfl (by decide) rfl ?_
  (repeat' ((conv => whnf); first | refine Then.mk ?_ | left | refine OpsA.cons ?_ | refine OpsA.nil ?_ | refine AWq.seq ?_ | refine AWq.region ?_ | refine AWq.cond ?_ | refine AWq.block ?_ | refine AWq.skip ?_ | refine AWq.scope ?_ | refine AWq.label ?_ | refine AWq.ret ?_ | refine AWq.exit ?_ | refine AWq.loop ?_ | refine AWq.rangeFunc ?_ | refine DrawA.consD ?_ | refine DrawA.nil ?_ | refine DrawL.consD ?_ | refine DrawL.nil ?_ | refine DrawF.consD ?_ | refine DrawF.nil ?_ | refine AWq.draw (by decide +kernel) ?_ | (refine ACall.to (hc) ?_) | (apply Exists.intro; apply And.intro; exact hc) | (apply Exists.intro; apply Exists.intro; apply And.intro; exact hc) | (refine Both.mk ?_ ?_ <;> intro hc <;> (first | exact Bool.noConfusion hc | exact absurd (by with_reducible rfl) hc | exact (hc : False).elim | exact absurd (by assumption) hc | exact absurd hc (by assumption) | (exfalso; omega) | exact absurd hc (by decide) | skip)) | (intro c hc; (try (simp only [AH.none_iff] at hc; repeat (have hn := hc.1; replace hc := hc.2))); (first | (have hc2 := Eq.trans hc (by with_reducible assumption); clear hc; subst hc2) | (refine i64_k hc ?_ ?_ ?_ ; omega; omega; (clear hc; intro hc; subst hc)) | (refine u64_k hc ?_ ?_ ?_ ; omega; omega; (clear hc; intro hc; subst hc)) | (refine u8_k hc ?_ ?_ ?_ ; omega; omega; (clear hc; intro hc; subst hc)) | subst hc | skip)) | (apply Exists.intro; apply And.intro; (focus (repeat (first | assumption | exact AH.set_same _ _ _ | ((first | refine AH.get_ne ?_ ?_ | refine AH.getd_ne ?_ ?_); (first | assumption | omega | exact Ne.symm (by assumption) | exact AH.ne_none (by assumption) (by assumption) | exact AH.none_ne (by assumption) (by assumption) | exact (AH.none_set (by assumption)).1 | exact Ne.symm (AH.none_set (by assumption)).1)))); done)) | (apply Exists.intro; apply And.intro; first | (with_reducible assumption) | ((try simp only [List.getElem?_drop, Nat.mul_one, Nat.add_zero, Nat.zero_add]); first | (with_reducible assumption) | (refine u8s_get ?_; omega) | (refine iS_get ?_; omega) | assumption | rfl | fail)) | (apply And.intro; (first | rfl | (with_reducible assumption) | exact Nat.le_of_ble_eq_true rfl | omega | (exact Int.ofNat_lt.2 (Nat.lt_of_lt_of_eq (by with_reducible assumption) (by decide +kernel))) | assumption | (simp <;> fail) | (simp <;> omega) | (focus (repeat' (first | exact one_u8s _ | exact one_iS _ _ | rfl | apply one_take | apply one_drop | apply one_append)); done) | fail)) | fail)) <;> (try (conv => whnf))
end Go.Proofs.Ytgmooalikccbiaa
/- The walks of the coder's writer: steps. -/
namespace Go.Proofs.Ytgmooalikccbiaa
open Go.Fw Go
set_option linter.unusedVariables false
set_option linter.unusedSimpArgs false

theorem wr64 {r : Nat} (h : r < 18446744073709551616) : IntKind.u64.wrap (r : Int) = r := by rw [wrap_u64']; omega
theorem wrap_u8' (x : Int) : IntKind.u8.wrap x = x % 256 := by show x.emod (2 ^ 8) = _; rfl
set_option maxRecDepth 8000 in
theorem narrow_c {H : AH} {w : Nat} {x : AV} {low W p c t : Nat} (hw : H w = some (.row [.int .u64 low, .int .u64 W, x] 0)) (hs : StOk p c t) (hW : W ≤ 4294967296) :
    ACall Try.prog 66 [.ptr w 0 0, .int .i64 c, .int .i64 t, .int .i64 p] H (fun y H' => y = .int .u64 (W / t * p : Nat) ∧ H' = H.set w (.row [.int .u64 low, .int .u64 (W / t * c : Nat), x] 0)) := by
  obtain ⟨h1, h2, h3⟩ := hs
  have hd : (W : Int).tdiv (t : Int) = (W / t : Nat) := (Int.ofNat_tdiv W t).symm
  have a1 : W / t * p ≤ W := Nat.le_trans (Nat.mul_le_mul_left _ (show p ≤ t by omega)) (Nat.div_mul_le_self _ _)
  have a2 : W / t * c ≤ W := Nat.le_trans (Nat.mul_le_mul_left _ (show c ≤ t by omega)) (Nat.div_mul_le_self _ _)
  have a3 : W / t ≤ W := Nat.div_le_self _ _
  have b1 := Int.natCast_mul (W / t) p
  have b2 := Int.natCast_mul (W / t) c
  have e1 : IntKind.u64.wrap ((W : Int).tdiv (t : Int)) = (W / t : Nat) := by rw [hd]; exact wr64 (by omega)
  have e2 : IntKind.u64.wrap (((W / t : Nat) : Int) * p) = (W / t * p : Nat) := by rw [← b1]; exact wr64 (by omega)
  have e3 : IntKind.u64.wrap (((W / t : Nat) : Int) * c) = (W / t * c : Nat) := by rw [← b2]; exact wr64 (by omega)
  refine ACall_of tt_ok (dok _) Try.func66 rfl (by decide) rfl ?_
  (repeat' ((conv => whnf); first | refine Then.mk ?_ | left | refine OpsA.cons ?_ | refine OpsA.nil ?_ | refine AWq.seq ?_ | refine AWq.region ?_ | refine AWq.cond ?_ | refine AWq.block ?_ | refine AWq.skip ?_ | refine AWq.scope ?_ | refine AWq.label ?_ | refine AWq.ret ?_ | refine AWq.exit ?_ | refine AWq.loop ?_ | refine AWq.rangeFunc ?_ | refine DrawA.consD ?_ | refine DrawA.nil ?_ | refine DrawL.consD ?_ | refine DrawL.nil ?_ | refine DrawF.consD ?_ | refine DrawF.nil ?_ | refine AWq.draw (by decide +kernel) ?_ | (refine Both.mk ?_ ?_ <;> intro hc <;> (first | exact Bool.noConfusion hc | exact absurd (by with_reducible rfl) hc | exact (hc : False).elim | exact absurd (by assumption) hc | exact absurd hc (by assumption) | (exfalso; omega) | exact absurd hc (by decide) | skip)) | (intro c hc; (try (simp only [AH.none_iff] at hc; repeat (have hn := hc.1; replace hc := hc.2))); (first | (have hc2 := Eq.trans hc (by with_reducible assumption); clear hc; subst hc2) | (refine i64_k hc ?_ ?_ ?_ ; omega; omega; (clear hc; intro hc; subst hc)) | (refine u64_k hc ?_ ?_ ?_ ; omega; omega; (clear hc; intro hc; subst hc)) | (refine u8_k hc ?_ ?_ ?_ ; omega; omega; (clear hc; intro hc; subst hc)) | subst hc | skip)) | (apply Exists.intro; apply And.intro; (focus (repeat (first | assumption | exact AH.set_same _ _ _ | ((first | refine AH.get_ne ?_ ?_ | refine AH.getd_ne ?_ ?_); (first | assumption | omega | exact Ne.symm (by assumption) | exact AH.ne_none (by assumption) (by assumption) | exact AH.none_ne (by assumption) (by assumption) | exact (AH.none_set (by assumption)).1 | exact Ne.symm (AH.none_set (by assumption)).1)))); done)) | (apply Exists.intro; apply And.intro; first | (with_reducible assumption) | ((try simp only [List.getElem?_drop, Nat.mul_one, Nat.add_zero, Nat.zero_add]); first | (with_reducible assumption) | (refine u8s_get ?_; omega) | (refine iS_get ?_; omega) | assumption | rfl | fail)) | (apply And.intro; (first | rfl | (with_reducible assumption) | exact Nat.le_of_ble_eq_true rfl | omega | (exact Int.ofNat_lt.2 (Nat.lt_of_lt_of_eq (by with_reducible assumption) (by decide +kernel))) | assumption | (simp <;> fail) | (simp <;> omega) | (focus (repeat' (first | exact one_u8s _ | exact one_iS _ _ | rfl | apply one_take | apply one_drop | apply one_append)); done) | fail)) | fail)) <;> (try (conv => whnf))
  rfl

/-- A heap with a writer: its three cells, and the row of its bytes. -/
def wtH (H : AH) (w r v : Nat) (bs : List UInt8) (low W : Nat) : AH := (H.set r (.row (u8s bs) v)).set w (.row [.int .u64 low, .int .u64 W, .sl r v 1 0 bs.length none] 0)
/-- The writer of a coder. -/
def wcH (H : AH) (w r : Nat) (σ : Cs) : AH := wtH H w r σ.L (dig σ.L (σ.V / 4294967296)) (σ.V % 4294967296) σ.W

set_option maxRecDepth 8000 in
theorem k_write_c (H : AH) : ACall Try.prog 40 [] H (fun y H' => ∃ w, H w = none ∧ y = .ptr w 0 0 ∧ H' = H.set w (.row [.int .u64 0, .int .u64 4294967296, .nils] 0)) := by
  refine ACall_of tt_ok (dok _) Try.func40 rfl (by decide) rfl ?_
  (repeat' ((conv => whnf); first | refine Then.mk ?_ | left | refine OpsA.cons ?_ | refine OpsA.nil ?_ | refine AWq.seq ?_ | refine AWq.region ?_ | refine AWq.cond ?_ | refine AWq.block ?_ | refine AWq.skip ?_ | refine AWq.scope ?_ | refine AWq.label ?_ | refine AWq.ret ?_ | refine AWq.exit ?_ | refine AWq.loop ?_ | refine AWq.rangeFunc ?_ | refine DrawA.consD ?_ | refine DrawA.nil ?_ | refine DrawL.consD ?_ | refine DrawL.nil ?_ | refine DrawF.consD ?_ | refine DrawF.nil ?_ | refine AWq.draw (by decide +kernel) ?_ | (refine Both.mk ?_ ?_ <;> intro hc <;> (first | exact Bool.noConfusion hc | exact absurd (by with_reducible rfl) hc | exact (hc : False).elim | exact absurd (by assumption) hc | exact absurd hc (by assumption) | (exfalso; omega) | exact absurd hc (by decide) | skip)) | (intro c hc; (try (simp only [AH.none_iff] at hc; repeat (have hn := hc.1; replace hc := hc.2))); (first | (have hc2 := Eq.trans hc (by with_reducible assumption); clear hc; subst hc2) | (refine i64_k hc ?_ ?_ ?_ ; omega; omega; (clear hc; intro hc; subst hc)) | (refine u64_k hc ?_ ?_ ?_ ; omega; omega; (clear hc; intro hc; subst hc)) | (refine u8_k hc ?_ ?_ ?_ ; omega; omega; (clear hc; intro hc; subst hc)) | subst hc | skip)) | (apply Exists.intro; apply And.intro; (focus (repeat (first | assumption | exact AH.set_same _ _ _ | ((first | refine AH.get_ne ?_ ?_ | refine AH.getd_ne ?_ ?_); (first | assumption | omega | exact Ne.symm (by assumption) | exact AH.ne_none (by assumption) (by assumption) | exact AH.none_ne (by assumption) (by assumption) | exact (AH.none_set (by assumption)).1 | exact Ne.symm (AH.none_set (by assumption)).1)))); done)) | (apply Exists.intro; apply And.intro; first | (with_reducible assumption) | ((try simp only [List.getElem?_drop, Nat.mul_one, Nat.add_zero, Nat.zero_add]); first | (with_reducible assumption) | (refine u8s_get ?_; omega) | (refine iS_get ?_; omega) | assumption | rfl | fail)) | (apply And.intro; (first | rfl | (with_reducible assumption) | exact Nat.le_of_ble_eq_true rfl | omega | (exact Int.ofNat_lt.2 (Nat.lt_of_lt_of_eq (by with_reducible assumption) (by decide +kernel))) | assumption | (simp <;> fail) | (simp <;> omega) | (focus (repeat' (first | exact one_u8s _ | exact one_iS _ _ | rfl | apply one_take | apply one_drop | apply one_append)); done) | fail)) | fail)) <;> (try (conv => whnf))

/-- The last digits are 255: the bytes with these set to zero. -/
def car (L top k : Nat) : List UInt8 := dig (L - k) (top / 256 ^ k) ++ List.replicate k 0
theorem car_len {L top k : Nat} (h : k ≤ L) : (car L top k).length = L := by simp [car]; omega
theorem car_zero (L top : Nat) : car L top 0 = dig L top := by simp [car]
theorem dig_succ (m y : Nat) : dig (m + 1) y = dig m (y / 256) ++ [UInt8.ofNat (y % 256)] := rfl
theorem car_get {L top k : Nat} (h : k < L) : (u8s (car L top k))[L - 1 - k]? = some (.int .u8 ((top / 256 ^ k % 256 : Nat) : Int)) := by
  have e : L - k = (L - 1 - k) + 1 := by omega
  have hd : (UInt8.ofNat (top / 256 ^ k % 256)).toNat = top / 256 ^ k % 256 := by simp
  unfold car u8s
  rw [e, dig_succ, List.append_assoc, List.getElem?_map, List.getElem?_append_right (by simp), dig_len, Nat.sub_self]
  show some (AV.int .u8 ((UInt8.ofNat (top / 256 ^ k % 256)).toNat : Int)) = _
  rw [hd]
theorem set_mid {α : Type} (a c : List α) (x y : α) : (a ++ [x] ++ c).set a.length y = a ++ [y] ++ c := by
  rw [List.append_assoc, List.set_append_right _ _ (Nat.le_refl _), Nat.sub_self, List.append_assoc]; rfl
theorem car_wr {L top k : Nat} (h : k < L) (y : UInt8) : wrA (u8s (car L top k)) (L - 1 - k) [.int .u8 y.toNat] = u8s (dig (L - 1 - k) (top / 256 ^ (k + 1)) ++ [y] ++ List.replicate k 0) := by
  have e : L - k = (L - 1 - k) + 1 := by omega
  have hl : (dig (L - 1 - k) (top / 256 ^ k / 256)).length = L - 1 - k := dig_len _ _
  rw [wr_u8s (by rw [car_len (by omega)]; omega)]
  congr 1
  unfold car
  rw [e, dig_succ, Nat.pow_succ, ← Nat.div_div_eq_div_mul]
  have := set_mid (dig (L - 1 - k) (top / 256 ^ k / 256)) (List.replicate k 0) (UInt8.ofNat (top / 256 ^ k % 256)) y
  rw [hl] at this
  exact this
theorem car_next {L top k : Nat} (h : k < L) : dig (L - 1 - k) (top / 256 ^ (k + 1)) ++ [0] ++ List.replicate k 0 = car L top (k + 1) := by
  unfold car
  rw [List.append_assoc, show L - (k + 1) = L - 1 - k by omega]
  congr 1
theorem car_end {L top k : Nat} (h : k < L) (h1 : top + 1 = (top / 256 ^ k + 1) * 256 ^ k) (h2 : top / 256 ^ k % 256 ≠ 255) :
    dig (L - 1 - k) (top / 256 ^ (k + 1)) ++ [UInt8.ofNat (top / 256 ^ k % 256 + 1)] ++ List.replicate k 0 = dig L (top + 1) := by
  rw [h1]
  have e : L = (L - 1 - k + 1) + k := by omega
  have := dig_zeros (L - 1 - k + 1) (top / 256 ^ k + 1) k
  rw [← e] at this
  rw [this, Nat.pow_succ, ← Nat.div_div_eq_div_mul, dig_succ]
  have hb : top / 256 ^ k % 256 < 256 := Nat.mod_lt _ (by decide)
  rw [show (top / 256 ^ k + 1) / 256 = top / 256 ^ k / 256 by omega, show (top / 256 ^ k + 1) % 256 = top / 256 ^ k % 256 + 1 by omega]
theorem car_inv {top k : Nat} (h1 : top + 1 = (top / 256 ^ k + 1) * 256 ^ k) (h2 : top / 256 ^ k % 256 = 255) : top + 1 = (top / 256 ^ (k + 1) + 1) * 256 ^ (k + 1) := by
  have e : top / 256 ^ (k + 1) = top / 256 ^ k / 256 := by rw [Nat.pow_succ, Nat.div_div_eq_div_mul]
  have e2 : top / 256 ^ k + 1 = (top / 256 ^ k / 256 + 1) * 256 := by omega
  rw [e, Nat.pow_succ, Nat.mul_comm (256 ^ k) 256, ← Nat.mul_assoc, ← e2]
  exact h1


set_option maxHeartbeats 4000000 in
set_option maxRecDepth 8000 in
theorem wstep_c {H : AH} {w r : Nat} {σ : Cs} {p c t : Nat} (hwr : w ≠ r) (hc : CsOk σ) (hs : StOk p c t) (hL : σ.L ≤ 1000000000000) :
    ACall Try.prog 49 [.ptr w 0 0, .int .i64 p, .int .i64 c, .int .i64 t] (wcH H w r σ) (fun y H' => y = .tup [] ∧ H' = wcH H w r (stp σ p c t)) := by
  obtain ⟨v, hv⟩ : ∃ v, v = σ.L := ⟨_, rfl⟩
  obtain ⟨low, hlow⟩ : ∃ low, low = σ.V % 4294967296 := ⟨_, rfl⟩
  obtain ⟨top, htop⟩ : ∃ top, top = σ.V / 4294967296 := ⟨_, rfl⟩
  have hw : wcH H w r σ w = some (.row [.int .u64 low, .int .u64 σ.W, .sl r v 1 0 (dig σ.L top).length none] 0) := by
    rw [hlow, htop, hv]; exact AH.set_same _ _ _
  have hn := narrow_c hw hs hc.hi
  obtain ⟨k1, k2, k3, k4⟩ := nrw_ok hc hs
  have hi := hc.hi
  have hroom := hc.room
  have k3 : σ.V + σ.W / t * p + σ.W / t * c ≤ σ.V + σ.W := k3
  have k1 : 512 ≤ σ.W / t * c := k1
  have k2 : σ.W / t * c ≤ σ.W := k2
  have hst : stp σ p c t = shf 3 ⟨σ.V + σ.W / t * p, σ.W / t * c, σ.L⟩ := rfl
  rw [hst]
  have hrw : r ≠ w := Ne.symm hwr
  obtain ⟨X, hX⟩ : ∃ X, X = σ.W / t * p := ⟨_, rfl⟩
  obtain ⟨Y, hY⟩ : ∃ Y, Y = σ.W / t * c := ⟨_, rfl⟩
  rw [← hX, ← hY] at k3 ⊢
  rw [← hX] at k4 hn
  rw [← hY] at k1 k2 hn
  have hH : wcH H w r σ = wtH H w r v (dig σ.L top) low σ.W := by rw [hlow, htop, hv]; rfl
  rw [hH] at hw hn ⊢
  clear hst hH
  refine ACall_of tt_ok (dok _) Try.func49 rfl (by decide) rfl ?_
  refine AWq.seq ?_
  refine AWq.drawF mo ([20], [13]) (fun G => ∃ W' x, G w = some (.row [.int .u64 low, W', x] 0)) ⟨_, _, hw⟩ (by decide +kernel) ?_
  (repeat' ((conv => whnf); first | refine Then.mk ?_ | left | refine OpsA.cons ?_ | refine OpsA.nil ?_ | refine AWq.seq ?_ | refine AWq.region ?_ | refine AWq.cond ?_ | refine AWq.block ?_ | refine AWq.skip ?_ | refine AWq.scope ?_ | refine AWq.label ?_ | refine AWq.ret ?_ | refine AWq.exit ?_ | refine AWq.loop ?_ | refine AWq.rangeFunc ?_ | refine DrawA.consD ?_ | refine DrawA.nil ?_ | refine DrawL.consD ?_ | refine DrawL.nil ?_ | refine DrawF.consD ?_ | refine DrawF.nil ?_ | refine AWq.draw (by decide +kernel) ?_ | (refine ACall.to (hn) ?_) | (apply Exists.intro; apply And.intro; exact hn) | (apply Exists.intro; apply Exists.intro; apply And.intro; exact hn) | (refine Both.mk ?_ ?_ <;> intro hc <;> (first | exact Bool.noConfusion hc | exact absurd (by with_reducible rfl) hc | exact (hc : False).elim | exact absurd (by assumption) hc | exact absurd hc (by assumption) | (exfalso; omega) | exact absurd hc (by decide) | skip)) | (intro c hc; (try (simp only [AH.none_iff] at hc; repeat (have hn := hc.1; replace hc := hc.2))); (first | (have hc2 := Eq.trans hc (by with_reducible assumption); clear hc; subst hc2) | (refine i64_k hc ?_ ?_ ?_ ; omega; omega; (clear hc; intro hc; subst hc)) | (refine u64_k hc ?_ ?_ ?_ ; omega; omega; (clear hc; intro hc; subst hc)) | (refine u8_k hc ?_ ?_ ?_ ; omega; omega; (clear hc; intro hc; subst hc)) | subst hc | skip)) | (apply Exists.intro; apply And.intro; (focus (repeat (first | assumption | exact AH.set_same _ _ _ | ((first | refine AH.get_ne ?_ ?_ | refine AH.getd_ne ?_ ?_); (first | assumption | omega | exact Ne.symm (by assumption) | exact AH.ne_none (by assumption) (by assumption) | exact AH.none_ne (by assumption) (by assumption) | exact (AH.none_set (by assumption)).1 | exact Ne.symm (AH.none_set (by assumption)).1)))); done)) | (apply Exists.intro; apply And.intro; first | (with_reducible assumption) | ((try simp only [List.getElem?_drop, Nat.mul_one, Nat.add_zero, Nat.zero_add]); first | (with_reducible assumption) | (refine u8s_get ?_; omega) | (refine iS_get ?_; omega) | assumption | rfl | fail)) | (apply And.intro; (first | rfl | (with_reducible assumption) | exact Nat.le_of_ble_eq_true rfl | omega | (exact Int.ofNat_lt.2 (Nat.lt_of_lt_of_eq (by with_reducible assumption) (by decide +kernel))) | assumption | (simp <;> fail) | (simp <;> omega) | (focus (repeat' (first | exact one_u8s _ | exact one_iS _ _ | rfl | apply one_take | apply one_drop | apply one_append)); done) | fail)) | fail)) <;> (try (conv => whnf))
  refine ⟨.int .u64 low, ?_, ?_, ?_⟩
  · (repeat' ((conv => whnf); first | refine Then.mk ?_ | left | refine OpsA.cons ?_ | refine OpsA.nil ?_ | refine AWq.seq ?_ | refine AWq.region ?_ | refine AWq.cond ?_ | refine AWq.block ?_ | refine AWq.skip ?_ | refine AWq.scope ?_ | refine AWq.label ?_ | refine AWq.ret ?_ | refine AWq.exit ?_ | refine AWq.loop ?_ | refine AWq.rangeFunc ?_ | refine DrawA.consD ?_ | refine DrawA.nil ?_ | refine DrawL.consD ?_ | refine DrawL.nil ?_ | refine DrawF.consD ?_ | refine DrawF.nil ?_ | refine AWq.draw (by decide +kernel) ?_ | (refine Both.mk ?_ ?_ <;> intro hc <;> (first | exact Bool.noConfusion hc | exact absurd (by with_reducible rfl) hc | exact (hc : False).elim | exact absurd (by assumption) hc | exact absurd hc (by assumption) | (exfalso; omega) | exact absurd hc (by decide) | skip)) | (intro c hc; (try (simp only [AH.none_iff] at hc; repeat (have hn := hc.1; replace hc := hc.2))); (first | (have hc2 := Eq.trans hc (by with_reducible assumption); clear hc; subst hc2) | (refine i64_k hc ?_ ?_ ?_ ; omega; omega; (clear hc; intro hc; subst hc)) | (refine u64_k hc ?_ ?_ ?_ ; omega; omega; (clear hc; intro hc; subst hc)) | (refine u8_k hc ?_ ?_ ?_ ; omega; omega; (clear hc; intro hc; subst hc)) | subst hc | skip)) | (apply Exists.intro; apply And.intro; (focus (repeat (first | assumption | exact AH.set_same _ _ _ | ((first | refine AH.get_ne ?_ ?_ | refine AH.getd_ne ?_ ?_); (first | assumption | omega | exact Ne.symm (by assumption) | exact AH.ne_none (by assumption) (by assumption) | exact AH.none_ne (by assumption) (by assumption) | exact (AH.none_set (by assumption)).1 | exact Ne.symm (AH.none_set (by assumption)).1)))); done)) | (apply Exists.intro; apply And.intro; first | (with_reducible assumption) | ((try simp only [List.getElem?_drop, Nat.mul_one, Nat.add_zero, Nat.zero_add]); first | (with_reducible assumption) | (refine u8s_get ?_; omega) | (refine iS_get ?_; omega) | assumption | rfl | fail)) | (apply And.intro; (first | rfl | (with_reducible assumption) | exact Nat.le_of_ble_eq_true rfl | omega | (exact Int.ofNat_lt.2 (Nat.lt_of_lt_of_eq (by with_reducible assumption) (by decide +kernel))) | assumption | (simp <;> fail) | (simp <;> omega) | (focus (repeat' (first | exact one_u8s _ | exact one_iS _ _ | rfl | apply one_take | apply one_drop | apply one_append)); done) | fail)) | fail)) <;> (try (conv => whnf))
  · intro G hG
    obtain ⟨W', x, hG⟩ : ∃ W' x, G w = some (.row [.int .u64 low, W', x] 0) := hG
    (repeat' ((conv => whnf); first | refine Then.mk ?_ | left | refine OpsA.cons ?_ | refine OpsA.nil ?_ | refine AWq.seq ?_ | refine AWq.region ?_ | refine AWq.cond ?_ | refine AWq.block ?_ | refine AWq.skip ?_ | refine AWq.scope ?_ | refine AWq.label ?_ | refine AWq.ret ?_ | refine AWq.exit ?_ | refine AWq.loop ?_ | refine AWq.rangeFunc ?_ | refine DrawA.consD ?_ | refine DrawA.nil ?_ | refine DrawL.consD ?_ | refine DrawL.nil ?_ | refine DrawF.consD ?_ | refine DrawF.nil ?_ | refine AWq.draw (by decide +kernel) ?_ | (refine Both.mk ?_ ?_ <;> intro hc <;> (first | exact Bool.noConfusion hc | exact absurd (by with_reducible rfl) hc | exact (hc : False).elim | exact absurd (by assumption) hc | exact absurd hc (by assumption) | (exfalso; omega) | exact absurd hc (by decide) | skip)) | (intro c hc; (try (simp only [AH.none_iff] at hc; repeat (have hn := hc.1; replace hc := hc.2))); (first | (have hc2 := Eq.trans hc (by with_reducible assumption); clear hc; subst hc2) | (refine i64_k hc ?_ ?_ ?_ ; omega; omega; (clear hc; intro hc; subst hc)) | (refine u64_k hc ?_ ?_ ?_ ; omega; omega; (clear hc; intro hc; subst hc)) | (refine u8_k hc ?_ ?_ ?_ ; omega; omega; (clear hc; intro hc; subst hc)) | subst hc | skip)) | (apply Exists.intro; apply And.intro; (focus (repeat (first | assumption | exact AH.set_same _ _ _ | ((first | refine AH.get_ne ?_ ?_ | refine AH.getd_ne ?_ ?_); (first | assumption | omega | exact Ne.symm (by assumption) | exact AH.ne_none (by assumption) (by assumption) | exact AH.none_ne (by assumption) (by assumption) | exact (AH.none_set (by assumption)).1 | exact Ne.symm (AH.none_set (by assumption)).1)))); done)) | (apply Exists.intro; apply And.intro; first | (with_reducible assumption) | ((try simp only [List.getElem?_drop, Nat.mul_one, Nat.add_zero, Nat.zero_add]); first | (with_reducible assumption) | (refine u8s_get ?_; omega) | (refine iS_get ?_; omega) | assumption | rfl | fail)) | (apply And.intro; (first | rfl | (with_reducible assumption) | exact Nat.le_of_ble_eq_true rfl | omega | (exact Int.ofNat_lt.2 (Nat.lt_of_lt_of_eq (by with_reducible assumption) (by decide +kernel))) | assumption | (simp <;> fail) | (simp <;> omega) | (focus (repeat' (first | exact one_u8s _ | exact one_iS _ _ | rfl | apply one_take | apply one_drop | apply one_append)); done) | fail)) | fail)) <;> (try (conv => whnf))
  (repeat' ((conv => whnf); first | refine Then.mk ?_ | left | refine OpsA.cons ?_ | refine OpsA.nil ?_ | refine AWq.seq ?_ | refine AWq.region ?_ | refine AWq.cond ?_ | refine AWq.block ?_ | refine AWq.skip ?_ | refine AWq.scope ?_ | refine AWq.label ?_ | refine AWq.ret ?_ | refine AWq.exit ?_ | refine AWq.loop ?_ | refine AWq.rangeFunc ?_ | refine DrawA.consD ?_ | refine DrawA.nil ?_ | refine DrawL.consD ?_ | refine DrawL.nil ?_ | refine DrawF.consD ?_ | refine DrawF.nil ?_ | refine AWq.draw (by decide +kernel) ?_ | (refine ACall.to (hn) ?_) | (apply Exists.intro; apply And.intro; exact hn) | (apply Exists.intro; apply Exists.intro; apply And.intro; exact hn) | (refine Both.mk ?_ ?_ <;> intro hc <;> (first | exact Bool.noConfusion hc | exact absurd (by with_reducible rfl) hc | exact (hc : False).elim | exact absurd (by assumption) hc | exact absurd hc (by assumption) | (exfalso; omega) | exact absurd hc (by decide) | skip)) | (intro c hc; (try (simp only [AH.none_iff] at hc; repeat (have hn := hc.1; replace hc := hc.2))); (first | (have hc2 := Eq.trans hc (by with_reducible assumption); clear hc; subst hc2) | (refine i64_k hc ?_ ?_ ?_ ; omega; omega; (clear hc; intro hc; subst hc)) | (refine u64_k hc ?_ ?_ ?_ ; omega; omega; (clear hc; intro hc; subst hc)) | (refine u8_k hc ?_ ?_ ?_ ; omega; omega; (clear hc; intro hc; subst hc)) | subst hc | skip)) | (apply Exists.intro; apply And.intro; (focus (repeat (first | assumption | exact AH.set_same _ _ _ | ((first | refine AH.get_ne ?_ ?_ | refine AH.getd_ne ?_ ?_); (first | assumption | omega | exact Ne.symm (by assumption) | exact AH.ne_none (by assumption) (by assumption) | exact AH.none_ne (by assumption) (by assumption) | exact (AH.none_set (by assumption)).1 | exact Ne.symm (AH.none_set (by assumption)).1)))); done)) | (apply Exists.intro; apply And.intro; first | (with_reducible assumption) | ((try simp only [List.getElem?_drop, Nat.mul_one, Nat.add_zero, Nat.zero_add]); first | (with_reducible assumption) | (refine u8s_get ?_; omega) | (refine iS_get ?_; omega) | assumption | rfl | fail)) | (apply And.intro; (first | rfl | (with_reducible assumption) | exact Nat.le_of_ble_eq_true rfl | omega | (exact Int.ofNat_lt.2 (Nat.lt_of_lt_of_eq (by with_reducible assumption) (by decide +kernel))) | assumption | (simp <;> fail) | (simp <;> omega) | (focus (repeat' (first | exact one_u8s _ | exact one_iS _ _ | rfl | apply one_take | apply one_drop | apply one_append)); done) | fail)) | fail)) <;> (try (conv => whnf))
  refine And.intro (show ∃ W' x, _ = _ from ⟨_, _, AH.set_same _ _ _⟩) ?_
  (repeat' ((conv => whnf); first | left | refine OpsA.cons ?_ | refine OpsA.nil ?_ | refine AWq.seq ?_ | refine AWq.region ?_ | refine AWq.cond ?_ | refine AWq.block ?_ | refine AWq.skip ?_ | refine AWq.scope ?_ | refine AWq.label ?_ | refine AWq.ret ?_ | refine AWq.exit ?_ | refine AWq.loop ?_ | refine AWq.rangeFunc ?_ | refine DrawA.consD ?_ | refine DrawA.nil ?_ | refine DrawL.consD ?_ | refine DrawL.nil ?_ | refine DrawF.consD ?_ | refine DrawF.nil ?_ | refine AWq.draw (by decide +kernel) ?_ | (refine Both.mk ?_ ?_ <;> intro hc <;> (first | exact Bool.noConfusion hc | exact absurd (by with_reducible rfl) hc | exact (hc : False).elim | exact absurd (by assumption) hc | exact absurd hc (by assumption) | (exfalso; omega) | exact absurd hc (by decide) | skip)) | (intro c hc; (try (simp only [AH.none_iff] at hc; repeat (have hn := hc.1; replace hc := hc.2))); (first | (have hc2 := Eq.trans hc (by with_reducible assumption); clear hc; subst hc2) | (refine i64_k hc ?_ ?_ ?_ ; omega; omega; (clear hc; intro hc; subst hc)) | (refine u64_k hc ?_ ?_ ?_ ; omega; omega; (clear hc; intro hc; subst hc)) | (refine u8_k hc ?_ ?_ ?_ ; omega; omega; (clear hc; intro hc; subst hc)) | subst hc | skip)) | (apply Exists.intro; apply And.intro; (focus (repeat (first | assumption | exact AH.set_same _ _ _ | ((first | refine AH.get_ne ?_ ?_ | refine AH.getd_ne ?_ ?_); (first | assumption | omega | exact Ne.symm (by assumption) | exact AH.ne_none (by assumption) (by assumption) | exact AH.none_ne (by assumption) (by assumption) | exact (AH.none_set (by assumption)).1 | exact Ne.symm (AH.none_set (by assumption)).1)))); done)) | (apply Exists.intro; apply And.intro; first | (with_reducible assumption) | ((try simp only [List.getElem?_drop, Nat.mul_one, Nat.add_zero, Nat.zero_add]); first | (with_reducible assumption) | (refine u8s_get ?_; omega) | (refine iS_get ?_; omega) | assumption | rfl | fail)) | (apply And.intro; (first | rfl | (with_reducible assumption) | exact Nat.le_of_ble_eq_true rfl | omega | (exact Int.ofNat_lt.2 (Nat.lt_of_lt_of_eq (by with_reducible assumption) (by decide +kernel))) | assumption | (simp <;> fail) | (simp <;> omega) | (focus (repeat' (first | exact one_u8s _ | exact one_iS _ _ | rfl | apply one_take | apply one_drop | apply one_append)); done) | fail)) | fail)) <;> (try (conv => whnf))
  refine Then.mk (AWq.in ?_)
  refine AWp_cutd (H2 := wtH H w r v (dig σ.L top) (low + X) Y) [(0, .ptr w 0 0)] rfl ⟨rfl, trivial⟩ (fun _ => rfl) (HLe.of_eq ?_) ?_
  · refine Eq.trans ?_ (Eq.symm ((congrArg (fun G => AH.set G w _) (AH.set_set _ _ _ _)).trans (AH.set_set _ _ _ _)))
    exact congrArg (fun z => AH.set _ w (.row [.int .u64 z, .int .u64 Y, .sl r v 1 0 (dig σ.L top).length none] 0)) (Int.natCast_add low X)
  have hlb : low < 4294967296 := by omega
  have htl : 4294967296 ≤ low + X → top + 1 < 256 ^ σ.L := fun h => by
    generalize 256 ^ σ.L = P at hroom ⊢
    omega
  refine AWp.of tt_ok (dok _) rfl ?_
  apply Kept_split
  case main =>
    intro tail
    by_cases hca : 4294967296 ≤ low + X
    · have htl := htl hca
      have hdl := dig_len σ.L top
      (repeat' ((conv => whnf); first | refine Then.mk ?_ | left | refine OpsA.cons ?_ | refine OpsA.nil ?_ | refine AWq.seq ?_ | refine AWq.region ?_ | refine AWq.cond ?_ | refine AWq.block ?_ | refine AWq.skip ?_ | refine AWq.scope ?_ | refine AWq.label ?_ | refine AWq.ret ?_ | refine AWq.exit ?_ | refine AWq.loop ?_ | refine AWq.rangeFunc ?_ | refine DrawA.consD ?_ | refine DrawA.nil ?_ | refine DrawL.consD ?_ | refine DrawL.nil ?_ | refine DrawF.consD ?_ | refine DrawF.nil ?_ | refine AWq.draw (by decide +kernel) ?_ | (refine Both.mk ?_ ?_ <;> intro hc <;> (first | exact Bool.noConfusion hc | exact absurd (by with_reducible rfl) hc | exact (hc : False).elim | exact absurd (by assumption) hc | exact absurd hc (by assumption) | (exfalso; omega) | exact absurd hc (by decide) | skip)) | (intro c hc; (try (simp only [AH.none_iff] at hc; repeat (have hn := hc.1; replace hc := hc.2))); (first | (have hc2 := Eq.trans hc (by with_reducible assumption); clear hc; subst hc2) | (refine i64_k hc ?_ ?_ ?_ ; omega; omega; (clear hc; intro hc; subst hc)) | (refine u64_k hc ?_ ?_ ?_ ; omega; omega; (clear hc; intro hc; subst hc)) | (refine u8_k hc ?_ ?_ ?_ ; omega; omega; (clear hc; intro hc; subst hc)) | subst hc | skip)) | (apply Exists.intro; apply And.intro; (focus (repeat (first | assumption | exact AH.set_same _ _ _ | ((first | refine AH.get_ne ?_ ?_ | refine AH.getd_ne ?_ ?_); (first | assumption | omega | exact Ne.symm (by assumption) | exact AH.ne_none (by assumption) (by assumption) | exact AH.none_ne (by assumption) (by assumption) | exact (AH.none_set (by assumption)).1 | exact Ne.symm (AH.none_set (by assumption)).1)))); done)) | (apply Exists.intro; apply And.intro; first | (with_reducible assumption) | ((try simp only [List.getElem?_drop, Nat.mul_one, Nat.add_zero, Nat.zero_add]); first | (with_reducible assumption) | (refine u8s_get ?_; omega) | (refine iS_get ?_; omega) | assumption | rfl | fail)) | (apply And.intro; (first | rfl | (with_reducible assumption) | exact Nat.le_of_ble_eq_true rfl | omega | (exact Int.ofNat_lt.2 (Nat.lt_of_lt_of_eq (by with_reducible assumption) (by decide +kernel))) | assumption | (simp <;> fail) | (simp <;> omega) | (focus (repeat' (first | exact one_u8s _ | exact one_iS _ _ | rfl | apply one_take | apply one_drop | apply one_append)); done) | fail)) | fail)) <;> (try (conv => whnf))
      refine AWp_loop (σ := Nat) (8 :: 46 :: 47 :: 48 :: 49 :: 50 :: 51 :: 52 :: 53 :: 54 :: 55 :: 56 :: 57 :: 58 :: 59 :: 60 :: 61 :: []) (fun k => [(8, .int .i64 ((σ.L : Int) - 1 - k))]) (fun k => wtH H w r v (car σ.L top k) (low + X - 4294967296) Y) (fun k => k < σ.L ∧ top + 1 = (top / 256 ^ k + 1) * 256 ^ k) (fun k => σ.L - k) 0 rfl ?_ ?_ ?_ ?_
      · refine ⟨?_, by simp⟩
        by_cases h : σ.L = 0
        · rw [h] at htl; simp at htl
        · omega
      · refine ⟨congrArg (AV.int .i64) ?_, trivial⟩
        omega
      · refine HLe.of_eq ?_
        rw [car_zero]
        refine Eq.trans ?_ (Eq.symm (AH.set_set _ _ _ _))
        exact congrArg (fun z => AH.set _ w (.row [.int .u64 z, .int .u64 Y, .sl r v 1 0 (dig σ.L top).length none] 0)) (by omega)
      · rintro k ⟨hk1, hk2⟩
        refine AWp.of tt_ok (dok _) rfl ?_
        have hll : (car σ.L top k).length = σ.L := car_len (by omega)
        obtain ⟨z, hz⟩ : ∃ z, z = u8s (car σ.L top k) := ⟨_, rfl⟩
        have hzl : z.length = σ.L := by rw [hz]; simp [u8s, hll]
        have hix : ((σ.L : Int) - 1 - k).toNat = σ.L - 1 - k := by omega
        have hg : z[((σ.L : Int) - 1 - k).toNat]? = some (.int .u8 ((top / 256 ^ k % 256 : Nat) : Int)) := by rw [hix, hz]; exact car_get hk1
        have hw1 : wtH H w r v (car σ.L top k) (low + X - 4294967296) Y w = some (.row [.int .u64 ((low + X - 4294967296 : Nat) : Int), .int .u64 Y, .sl r v 1 0 σ.L none] 0) := by
          unfold wtH; rw [hll]; exact AH.set_same _ _ _
        have hr1 : wtH H w r v (car σ.L top k) (low + X - 4294967296) Y r = some (.row z v) := by
          unfold wtH; rw [AH.set_ne _ _ hrw, AH.set_same, hz]
        have hdm : top / 256 ^ k % 256 < 256 := Nat.mod_lt _ (by decide)
        have hset : ∀ bs : List UInt8, bs.length = σ.L → (wtH H w r v (car σ.L top k) (low + X - 4294967296) Y).set r (.row (u8s bs) v) = wtH H w r v bs (low + X - 4294967296) Y := fun bs hb => by
          unfold wtH
          rw [hll, hb, AH.set_comm _ _ _ hwr, AH.set_set]
        by_cases h255 : top / 256 ^ k % 256 = 255
        · rw [h255] at hg
          have hk3 := car_inv hk2 h255
          have hkl : k + 1 < σ.L := by
            by_cases e : k + 1 = σ.L
            · exfalso
              rw [← e] at htl
              exact absurd htl (Nat.not_lt.2 (by rw [hk3]; exact Nat.le_mul_of_pos_left _ (Nat.succ_pos _)))
            · omega
          (repeat' ((conv => whnf); first | refine Then.mk ?_ | left | refine OpsA.cons ?_ | refine OpsA.nil ?_ | refine AWq.seq ?_ | refine AWq.region ?_ | refine AWq.cond ?_ | refine AWq.block ?_ | refine AWq.skip ?_ | refine AWq.scope ?_ | refine AWq.label ?_ | refine AWq.ret ?_ | refine AWq.exit ?_ | refine AWq.loop ?_ | refine AWq.rangeFunc ?_ | refine DrawA.consD ?_ | refine DrawA.nil ?_ | refine DrawL.consD ?_ | refine DrawL.nil ?_ | refine DrawF.consD ?_ | refine DrawF.nil ?_ | refine AWq.draw (by decide +kernel) ?_ | (refine Both.mk ?_ ?_ <;> intro hc <;> (first | exact Bool.noConfusion hc | exact absurd (by with_reducible rfl) hc | exact (hc : False).elim | exact absurd (by assumption) hc | exact absurd hc (by assumption) | (exfalso; omega) | exact absurd hc (by decide) | skip)) | (intro c hc; (try (simp only [AH.none_iff] at hc; repeat (have hn := hc.1; replace hc := hc.2))); (first | (have hc2 := Eq.trans hc (by with_reducible assumption); clear hc; subst hc2) | (refine i64_k hc ?_ ?_ ?_ ; omega; omega; (clear hc; intro hc; subst hc)) | (refine u64_k hc ?_ ?_ ?_ ; omega; omega; (clear hc; intro hc; subst hc)) | (refine u8_k hc ?_ ?_ ?_ ; omega; omega; (clear hc; intro hc; subst hc)) | subst hc | skip)) | (apply Exists.intro; apply And.intro; (focus (repeat (first | assumption | exact AH.set_same _ _ _ | ((first | refine AH.get_ne ?_ ?_ | refine AH.getd_ne ?_ ?_); (first | assumption | omega | exact Ne.symm (by assumption) | exact AH.ne_none (by assumption) (by assumption) | exact AH.none_ne (by assumption) (by assumption) | exact (AH.none_set (by assumption)).1 | exact Ne.symm (AH.none_set (by assumption)).1)))); done)) | (apply Exists.intro; apply And.intro; first | (with_reducible assumption) | ((try simp only [List.getElem?_drop, Nat.mul_one, Nat.add_zero, Nat.zero_add]); first | (with_reducible assumption) | (refine u8s_get ?_; omega) | (refine iS_get ?_; omega) | assumption | rfl | fail)) | (apply And.intro; (first | rfl | (with_reducible assumption) | exact Nat.le_of_ble_eq_true rfl | omega | (exact Int.ofNat_lt.2 (Nat.lt_of_lt_of_eq (by with_reducible assumption) (by decide +kernel))) | assumption | (simp <;> fail) | (simp <;> omega) | (focus (repeat' (first | exact one_u8s _ | exact one_iS _ _ | rfl | apply one_take | apply one_drop | apply one_append)); done) | fail)) | fail)) <;> (try (conv => whnf))
          refine ⟨k + 1, ⟨hkl, hk3⟩, by show σ.L - (k + 1) < σ.L - k; omega, ⟨congrArg (AV.int .i64) (by omega), trivial⟩, HLe.of_eq ?_⟩
          rw [← hset _ (car_len (by omega)), ← car_next hk1, ← car_wr hk1 0]
          show _ = (wtH H w r v (car σ.L top k) (low + X - 4294967296) Y).set r (.row (wrA z (0 + ((σ.L : Int) - 1 - k).toNat * 1) [.int .u8 0]) v)
          rw [Nat.zero_add, Nat.mul_one, hix, hz]
          rfl
        · have hne : ¬ ((top / 256 ^ k % 256 : Nat) : Int) = 255 := by omega
          (repeat' ((conv => whnf); first | left | refine OpsA.cons ?_ | refine OpsA.nil ?_ | refine AWq.seq ?_ | refine AWq.region ?_ | refine AWq.cond ?_ | refine AWq.block ?_ | refine AWq.skip ?_ | refine AWq.scope ?_ | refine AWq.label ?_ | refine AWq.ret ?_ | refine AWq.exit ?_ | refine AWq.loop ?_ | refine AWq.rangeFunc ?_ | refine DrawA.consD ?_ | refine DrawA.nil ?_ | refine DrawL.consD ?_ | refine DrawL.nil ?_ | refine DrawF.consD ?_ | refine DrawF.nil ?_ | refine AWq.draw (by decide +kernel) ?_ | (refine Both.mk ?_ ?_ <;> intro hc <;> (first | exact Bool.noConfusion hc | exact absurd (by with_reducible rfl) hc | exact (hc : False).elim | exact absurd (by assumption) hc | exact absurd hc (by assumption) | (exfalso; omega) | exact absurd hc (by decide) | skip)) | (intro c hc; (try (simp only [AH.none_iff] at hc; repeat (have hn := hc.1; replace hc := hc.2))); (first | (have hc2 := Eq.trans hc (by with_reducible assumption); clear hc; subst hc2) | (refine i64_k hc ?_ ?_ ?_ ; omega; omega; (clear hc; intro hc; subst hc)) | (refine u64_k hc ?_ ?_ ?_ ; omega; omega; (clear hc; intro hc; subst hc)) | (refine u8_k hc ?_ ?_ ?_ ; omega; omega; (clear hc; intro hc; subst hc)) | subst hc | skip)) | (apply Exists.intro; apply And.intro; (focus (repeat (first | assumption | exact AH.set_same _ _ _ | ((first | refine AH.get_ne ?_ ?_ | refine AH.getd_ne ?_ ?_); (first | assumption | omega | exact Ne.symm (by assumption) | exact AH.ne_none (by assumption) (by assumption) | exact AH.none_ne (by assumption) (by assumption) | exact (AH.none_set (by assumption)).1 | exact Ne.symm (AH.none_set (by assumption)).1)))); done)) | (apply Exists.intro; apply And.intro; first | (with_reducible assumption) | ((try simp only [List.getElem?_drop, Nat.mul_one, Nat.add_zero, Nat.zero_add]); first | (with_reducible assumption) | (refine u8s_get ?_; omega) | (refine iS_get ?_; omega) | assumption | rfl | fail)) | (apply And.intro; (first | rfl | (with_reducible assumption) | exact Nat.le_of_ble_eq_true rfl | omega | (exact Int.ofNat_lt.2 (Nat.lt_of_lt_of_eq (by with_reducible assumption) (by decide +kernel))) | assumption | (simp <;> fail) | (simp <;> omega) | (focus (repeat' (first | exact one_u8s _ | exact one_iS _ _ | rfl | apply one_take | apply one_drop | apply one_append)); done) | fail)) | fail)) <;> (try (conv => whnf))
          refine Then.mk ?_
          (repeat' ((conv => whnf); first | left | refine OpsA.cons ?_ | refine OpsA.nil ?_ | refine AWq.seq ?_ | refine AWq.region ?_ | refine AWq.cond ?_ | refine AWq.block ?_ | refine AWq.skip ?_ | refine AWq.scope ?_ | refine AWq.label ?_ | refine AWq.ret ?_ | refine AWq.exit ?_ | refine AWq.loop ?_ | refine AWq.rangeFunc ?_ | refine DrawA.consD ?_ | refine DrawA.nil ?_ | refine DrawL.consD ?_ | refine DrawL.nil ?_ | refine DrawF.consD ?_ | refine DrawF.nil ?_ | refine AWq.draw (by decide +kernel) ?_ | (refine Both.mk ?_ ?_ <;> intro hc <;> (first | exact Bool.noConfusion hc | exact absurd (by with_reducible rfl) hc | exact (hc : False).elim | exact absurd (by assumption) hc | exact absurd hc (by assumption) | (exfalso; omega) | exact absurd hc (by decide) | skip)) | (intro c hc; (try (simp only [AH.none_iff] at hc; repeat (have hn := hc.1; replace hc := hc.2))); (first | (have hc2 := Eq.trans hc (by with_reducible assumption); clear hc; subst hc2) | (refine i64_k hc ?_ ?_ ?_ ; omega; omega; (clear hc; intro hc; subst hc)) | (refine u64_k hc ?_ ?_ ?_ ; omega; omega; (clear hc; intro hc; subst hc)) | (refine u8_k hc ?_ ?_ ?_ ; omega; omega; (clear hc; intro hc; subst hc)) | subst hc | skip)) | (apply Exists.intro; apply And.intro; (focus (repeat (first | assumption | exact AH.set_same _ _ _ | ((first | refine AH.get_ne ?_ ?_ | refine AH.getd_ne ?_ ?_); (first | assumption | omega | exact Ne.symm (by assumption) | exact AH.ne_none (by assumption) (by assumption) | exact AH.none_ne (by assumption) (by assumption) | exact (AH.none_set (by assumption)).1 | exact Ne.symm (AH.none_set (by assumption)).1)))); done)) | (apply Exists.intro; apply And.intro; first | (with_reducible assumption) | ((try simp only [List.getElem?_drop, Nat.mul_one, Nat.add_zero, Nat.zero_add]); first | (with_reducible assumption) | (refine u8s_get ?_; omega) | (refine iS_get ?_; omega) | assumption | rfl | fail)) | (apply And.intro; (first | rfl | (with_reducible assumption) | exact Nat.le_of_ble_eq_true rfl | omega | (exact Int.ofNat_lt.2 (Nat.lt_of_lt_of_eq (by with_reducible assumption) (by decide +kernel))) | assumption | (simp <;> fail) | (simp <;> omega) | (focus (repeat' (first | exact one_u8s _ | exact one_iS _ _ | rfl | apply one_take | apply one_drop | apply one_append)); done) | fail)) | fail)) <;> (try (conv => whnf))
          refine Then.mk ?_
          (repeat' ((conv => whnf); first | left | refine OpsA.cons ?_ | refine OpsA.nil ?_ | refine AWq.seq ?_ | refine AWq.region ?_ | refine AWq.cond ?_ | refine AWq.block ?_ | refine AWq.skip ?_ | refine AWq.scope ?_ | refine AWq.label ?_ | refine AWq.ret ?_ | refine AWq.exit ?_ | refine AWq.loop ?_ | refine AWq.rangeFunc ?_ | refine DrawA.consD ?_ | refine DrawA.nil ?_ | refine DrawL.consD ?_ | refine DrawL.nil ?_ | refine DrawF.consD ?_ | refine DrawF.nil ?_ | refine AWq.draw (by decide +kernel) ?_ | (refine Both.mk ?_ ?_ <;> intro hc <;> (first | exact Bool.noConfusion hc | exact absurd (by with_reducible rfl) hc | exact (hc : False).elim | exact absurd (by assumption) hc | exact absurd hc (by assumption) | (exfalso; omega) | exact absurd hc (by decide) | skip)) | (intro c hc; (try (simp only [AH.none_iff] at hc; repeat (have hn := hc.1; replace hc := hc.2))); (first | (have hc2 := Eq.trans hc (by with_reducible assumption); clear hc; subst hc2) | (refine i64_k hc ?_ ?_ ?_ ; omega; omega; (clear hc; intro hc; subst hc)) | (refine u64_k hc ?_ ?_ ?_ ; omega; omega; (clear hc; intro hc; subst hc)) | (refine u8_k hc ?_ ?_ ?_ ; omega; omega; (clear hc; intro hc; subst hc)) | subst hc | skip)) | (apply Exists.intro; apply And.intro; (focus (repeat (first | assumption | exact AH.set_same _ _ _ | ((first | refine AH.get_ne ?_ ?_ | refine AH.getd_ne ?_ ?_); (first | assumption | omega | exact Ne.symm (by assumption) | exact AH.ne_none (by assumption) (by assumption) | exact AH.none_ne (by assumption) (by assumption) | exact (AH.none_set (by assumption)).1 | exact Ne.symm (AH.none_set (by assumption)).1)))); done)) | (apply Exists.intro; apply And.intro; first | (with_reducible assumption) | ((try simp only [List.getElem?_drop, Nat.mul_one, Nat.add_zero, Nat.zero_add]); first | (with_reducible assumption) | (refine u8s_get ?_; omega) | (refine iS_get ?_; omega) | assumption | rfl | fail)) | (apply And.intro; (first | rfl | (with_reducible assumption) | exact Nat.le_of_ble_eq_true rfl | omega | (exact Int.ofNat_lt.2 (Nat.lt_of_lt_of_eq (by with_reducible assumption) (by decide +kernel))) | assumption | (simp <;> fail) | (simp <;> omega) | (focus (repeat' (first | exact one_u8s _ | exact one_iS _ _ | rfl | apply one_take | apply one_drop | apply one_append)); done) | fail)) | fail)) <;> (try (conv => whnf))
          refine Then.mk (AWq.in ?_)
          refine AWp_cutd (H2 := wcH H w r ⟨σ.V + X, Y, σ.L⟩) [(0, .ptr w 0 0)] rfl ⟨rfl, trivial⟩ (fun _ => rfl) (HLe.of_eq ?_) ?_
          · have hd8 : (UInt8.ofNat (top / 256 ^ k % 256 + 1)).toNat = top / 256 ^ k % 256 + 1 := by simp; omega
            have e : wcH H w r ⟨σ.V + X, Y, σ.L⟩ = wtH H w r v (dig σ.L (top + 1)) (low + X - 4294967296) Y := by
              unfold wcH
              dsimp only
              rw [hv, show (σ.V + X) / 4294967296 = top + 1 by omega, show (σ.V + X) % 4294967296 = low + X - 4294967296 by omega]
            rw [e, ← hset _ (dig_len _ _), ← car_end hk1 hk2 h255, ← car_wr hk1, hd8]
            show _ = (wtH H w r v (car σ.L top k) (low + X - 4294967296) Y).set r (.row (wrA z (0 + ((σ.L : Int) - 1 - k).toNat * 1) [.int .u8 (((top / 256 ^ k % 256 : Nat) : Int) + 1)]) v)
            rw [Nat.zero_add, Nat.mul_one, hix, hz]
            rfl
          exact tail.out
    · (repeat' ((conv => whnf); first | left | refine OpsA.cons ?_ | refine OpsA.nil ?_ | refine AWq.seq ?_ | refine AWq.region ?_ | refine AWq.cond ?_ | refine AWq.block ?_ | refine AWq.skip ?_ | refine AWq.scope ?_ | refine AWq.label ?_ | refine AWq.ret ?_ | refine AWq.exit ?_ | refine AWq.loop ?_ | refine AWq.rangeFunc ?_ | refine DrawA.consD ?_ | refine DrawA.nil ?_ | refine DrawL.consD ?_ | refine DrawL.nil ?_ | refine DrawF.consD ?_ | refine DrawF.nil ?_ | refine AWq.draw (by decide +kernel) ?_ | (refine Both.mk ?_ ?_ <;> intro hc <;> (first | exact Bool.noConfusion hc | exact absurd (by with_reducible rfl) hc | exact (hc : False).elim | exact absurd (by assumption) hc | exact absurd hc (by assumption) | (exfalso; omega) | exact absurd hc (by decide) | skip)) | (intro c hc; (try (simp only [AH.none_iff] at hc; repeat (have hn := hc.1; replace hc := hc.2))); (first | (have hc2 := Eq.trans hc (by with_reducible assumption); clear hc; subst hc2) | (refine i64_k hc ?_ ?_ ?_ ; omega; omega; (clear hc; intro hc; subst hc)) | (refine u64_k hc ?_ ?_ ?_ ; omega; omega; (clear hc; intro hc; subst hc)) | (refine u8_k hc ?_ ?_ ?_ ; omega; omega; (clear hc; intro hc; subst hc)) | subst hc | skip)) | (apply Exists.intro; apply And.intro; (focus (repeat (first | assumption | exact AH.set_same _ _ _ | ((first | refine AH.get_ne ?_ ?_ | refine AH.getd_ne ?_ ?_); (first | assumption | omega | exact Ne.symm (by assumption) | exact AH.ne_none (by assumption) (by assumption) | exact AH.none_ne (by assumption) (by assumption) | exact (AH.none_set (by assumption)).1 | exact Ne.symm (AH.none_set (by assumption)).1)))); done)) | (apply Exists.intro; apply And.intro; first | (with_reducible assumption) | ((try simp only [List.getElem?_drop, Nat.mul_one, Nat.add_zero, Nat.zero_add]); first | (with_reducible assumption) | (refine u8s_get ?_; omega) | (refine iS_get ?_; omega) | assumption | rfl | fail)) | (apply And.intro; (first | rfl | (with_reducible assumption) | exact Nat.le_of_ble_eq_true rfl | omega | (exact Int.ofNat_lt.2 (Nat.lt_of_lt_of_eq (by with_reducible assumption) (by decide +kernel))) | assumption | (simp <;> fail) | (simp <;> omega) | (focus (repeat' (first | exact one_u8s _ | exact one_iS _ _ | rfl | apply one_take | apply one_drop | apply one_append)); done) | fail)) | fail)) <;> (try (conv => whnf))
      refine Then.mk ?_
      (repeat' ((conv => whnf); first | left | refine OpsA.cons ?_ | refine OpsA.nil ?_ | refine AWq.seq ?_ | refine AWq.region ?_ | refine AWq.cond ?_ | refine AWq.block ?_ | refine AWq.skip ?_ | refine AWq.scope ?_ | refine AWq.label ?_ | refine AWq.ret ?_ | refine AWq.exit ?_ | refine AWq.loop ?_ | refine AWq.rangeFunc ?_ | refine DrawA.consD ?_ | refine DrawA.nil ?_ | refine DrawL.consD ?_ | refine DrawL.nil ?_ | refine DrawF.consD ?_ | refine DrawF.nil ?_ | refine AWq.draw (by decide +kernel) ?_ | (refine Both.mk ?_ ?_ <;> intro hc <;> (first | exact Bool.noConfusion hc | exact absurd (by with_reducible rfl) hc | exact (hc : False).elim | exact absurd (by assumption) hc | exact absurd hc (by assumption) | (exfalso; omega) | exact absurd hc (by decide) | skip)) | (intro c hc; (try (simp only [AH.none_iff] at hc; repeat (have hn := hc.1; replace hc := hc.2))); (first | (have hc2 := Eq.trans hc (by with_reducible assumption); clear hc; subst hc2) | (refine i64_k hc ?_ ?_ ?_ ; omega; omega; (clear hc; intro hc; subst hc)) | (refine u64_k hc ?_ ?_ ?_ ; omega; omega; (clear hc; intro hc; subst hc)) | (refine u8_k hc ?_ ?_ ?_ ; omega; omega; (clear hc; intro hc; subst hc)) | subst hc | skip)) | (apply Exists.intro; apply And.intro; (focus (repeat (first | assumption | exact AH.set_same _ _ _ | ((first | refine AH.get_ne ?_ ?_ | refine AH.getd_ne ?_ ?_); (first | assumption | omega | exact Ne.symm (by assumption) | exact AH.ne_none (by assumption) (by assumption) | exact AH.none_ne (by assumption) (by assumption) | exact (AH.none_set (by assumption)).1 | exact Ne.symm (AH.none_set (by assumption)).1)))); done)) | (apply Exists.intro; apply And.intro; first | (with_reducible assumption) | ((try simp only [List.getElem?_drop, Nat.mul_one, Nat.add_zero, Nat.zero_add]); first | (with_reducible assumption) | (refine u8s_get ?_; omega) | (refine iS_get ?_; omega) | assumption | rfl | fail)) | (apply And.intro; (first | rfl | (with_reducible assumption) | exact Nat.le_of_ble_eq_true rfl | omega | (exact Int.ofNat_lt.2 (Nat.lt_of_lt_of_eq (by with_reducible assumption) (by decide +kernel))) | assumption | (simp <;> fail) | (simp <;> omega) | (focus (repeat' (first | exact one_u8s _ | exact one_iS _ _ | rfl | apply one_take | apply one_drop | apply one_append)); done) | fail)) | fail)) <;> (try (conv => whnf))
      refine Then.mk (AWq.in ?_)
      refine AWp_cutd (H2 := wcH H w r ⟨σ.V + X, Y, σ.L⟩) [(0, .ptr w 0 0)] rfl ⟨rfl, trivial⟩ (fun _ => rfl) (HLe.of_eq ?_) ?_
      · unfold wcH
        dsimp only
        rw [hv, show (σ.V + X) / 4294967296 = top by omega, show (σ.V + X) % 4294967296 = low + X by omega]
      exact tail.out
  case tl =>
  have hP : 4294967296 * 256 ^ σ.L = 4294967296 * 256 ^ σ.L := rfl
  refine AWp.of tt_ok (dok _) rfl ?_
  clear hn hw htl hlb hlow htop
  (repeat' ((conv => whnf); first | refine Then.mk ?_ | left | refine OpsA.cons ?_ | refine OpsA.nil ?_ | refine AWq.seq ?_ | refine AWq.region ?_ | refine AWq.cond ?_ | refine AWq.block ?_ | refine AWq.skip ?_ | refine AWq.scope ?_ | refine AWq.label ?_ | refine AWq.ret ?_ | refine AWq.exit ?_ | refine AWq.loop ?_ | refine AWq.rangeFunc ?_ | refine DrawA.consD ?_ | refine DrawA.nil ?_ | refine DrawL.consD ?_ | refine DrawL.nil ?_ | refine DrawF.consD ?_ | refine DrawF.nil ?_ | refine AWq.draw (by decide +kernel) ?_ | (refine Both.mk ?_ ?_ <;> intro hc <;> (first | exact Bool.noConfusion hc | exact absurd (by with_reducible rfl) hc | exact (hc : False).elim | exact absurd (by assumption) hc | exact absurd hc (by assumption) | (exfalso; omega) | exact absurd hc (by decide) | skip)) | (intro c hc; (try (simp only [AH.none_iff] at hc; repeat (have hn := hc.1; replace hc := hc.2))); (first | (have hc2 := Eq.trans hc (by with_reducible assumption); clear hc; subst hc2) | (refine i64_k hc ?_ ?_ ?_ ; omega; omega; (clear hc; intro hc; subst hc)) | (refine u64_k hc ?_ ?_ ?_ ; omega; omega; (clear hc; intro hc; subst hc)) | (refine u8_k hc ?_ ?_ ?_ ; omega; omega; (clear hc; intro hc; subst hc)) | subst hc | skip)) | (apply Exists.intro; apply And.intro; (focus (repeat (first | assumption | exact AH.set_same _ _ _ | ((first | refine AH.get_ne ?_ ?_ | refine AH.getd_ne ?_ ?_); (first | assumption | omega | exact Ne.symm (by assumption) | exact AH.ne_none (by assumption) (by assumption) | exact AH.none_ne (by assumption) (by assumption) | exact (AH.none_set (by assumption)).1 | exact Ne.symm (AH.none_set (by assumption)).1)))); done)) | (apply Exists.intro; apply And.intro; first | (with_reducible assumption) | ((try simp only [List.getElem?_drop, Nat.mul_one, Nat.add_zero, Nat.zero_add]); first | (with_reducible assumption) | (refine u8s_get ?_; omega) | (refine iS_get ?_; omega) | assumption | rfl | fail)) | (apply And.intro; (first | rfl | (with_reducible assumption) | exact Nat.le_of_ble_eq_true rfl | omega | (exact Int.ofNat_lt.2 (Nat.lt_of_lt_of_eq (by with_reducible assumption) (by decide +kernel))) | assumption | (simp <;> fail) | (simp <;> omega) | (focus (repeat' (first | exact one_u8s _ | exact one_iS _ _ | rfl | apply one_take | apply one_drop | apply one_append)); done) | fail)) | fail)) <;> (try (conv => whnf))
  refine AWp_loop (σ := Nat × Cs) (71 :: 72 :: 73 :: 74 :: 75 :: 76 :: 77 :: 78 :: 79 :: 80 :: 81 :: 82 :: 83 :: 84 :: 85 :: 86 :: 87 :: 88 :: 89 :: 90 :: 91 :: 92 :: 93 :: 94 :: 95 :: 96 :: 97 :: 98 :: 99 :: 100 :: 101 :: 102 :: 103 :: 104 :: 105 :: 106 :: 107 :: 108 :: 109 :: 110 :: 111 :: 112 :: []) (fun (f, τ) => []) (fun (f, τ) => wcH H w r τ) (fun (f, τ) => shf f τ = shf 3 ⟨σ.V + X, Y, σ.L⟩ ∧ 16777216 ≤ τ.W * 256 ^ f ∧ τ.W ≤ 4294967296 ∧ τ.L + f ≤ σ.L + 3) (fun (f, τ) => f) (3, ⟨σ.V + X, Y, σ.L⟩) rfl ?_ ?_ ?_ ?_
  · refine ⟨rfl, ?_, by show Y ≤ _; omega, Nat.le_refl _⟩
    show 16777216 ≤ Y * 256 ^ 3
    rw [show (256 : Nat) ^ 3 = 16777216 by decide]; omega
  · exact trivial
  · exact HLe.refl _
  · rintro ⟨f, τ⟩ ⟨h1, h2, h3, h4⟩
    dsimp only at h1 h2 h3 h4 ⊢
    refine AWp.of tt_ok (dok _) rfl ?_
    obtain ⟨lo, hlo⟩ : ∃ lo, lo = τ.V % 4294967296 := ⟨_, rfl⟩
    obtain ⟨tp, htp⟩ : ∃ tp, tp = τ.V / 4294967296 := ⟨_, rfl⟩
    obtain ⟨v', hv'⟩ : ∃ v', v' = τ.L := ⟨_, rfl⟩
    have hH : wcH H w r τ = wtH H w r v' (dig τ.L tp) lo τ.W := by rw [hlo, htp, hv']; rfl
    rw [hH]
    have hw1 : wtH H w r v' (dig τ.L tp) lo τ.W w = some (.row [.int .u64 lo, .int .u64 τ.W, .sl r v' 1 0 τ.L none] 0) := by
      unfold wtH; rw [dig_len]; exact AH.set_same _ _ _
    have hr1 : wtH H w r v' (dig τ.L tp) lo τ.W r = some (.row (u8s (dig τ.L tp)) v') := by
      unfold wtH; rw [AH.set_ne _ _ hrw, AH.set_same]
    have hll : (u8s (dig τ.L tp)).length = τ.L := by simp [u8s]
    have hlb : lo < 4294967296 := by omega
    by_cases hsm : τ.W < 16777216
    · have hf : f ≠ 0 := fun e => by subst e; simp at h2; omega
      obtain ⟨z, hz⟩ : ∃ z, z = u8s (dig τ.L tp) := ⟨_, rfl⟩
      rw [← hz] at hr1 hll
      obtain ⟨G, hG⟩ : ∃ G, G = wtH H w r v' (dig τ.L tp) lo τ.W := ⟨_, rfl⟩
      rw [← hG] at hw1 hr1 ⊢
      obtain ⟨L, hLe⟩ : ∃ L, L = τ.L := ⟨_, rfl⟩
      rw [← hLe] at hw1 hll h4
      have hLb : L ≤ 2000000000000 := by omega
      have s1 : (lo : Int).fdiv (2 ^ min (Int.toNat 24) IntKind.u64.bits) = (lo / 16777216 : Nat) := by
        rw [show (2 : Int) ^ min (Int.toNat 24) IntKind.u64.bits = 16777216 by decide, Int.fdiv_eq_ediv_of_nonneg _ (by omega)]; omega
      have s2 : IntKind.u8.wrap (lo / 16777216 : Nat) = (lo / 16777216 : Nat) := by rw [wrap_u8']; omega
      have s3 : IntKind.u64.wrap ((lo : Int) * 2 ^ min (Int.toNat 8) IntKind.u64.bits) = (lo * 256 : Nat) := by
        rw [show (2 : Int) ^ min (Int.toNat 8) IntKind.u64.bits = 256 by decide, wrap_u64']; omega
      have s4 : ((lo * 256 : Nat) : Int).tmod 4294967296 = (lo * 256 % 4294967296 : Nat) := by
        rw [Int.tmod_eq_emod_of_nonneg (by omega)]; omega
      have s5 : IntKind.u64.wrap ((τ.W : Int) * 2 ^ min (Int.toNat 8) IntKind.u64.bits) = (τ.W * 256 : Nat) := by
        rw [show (2 : Int) ^ min (Int.toNat 8) IntKind.u64.bits = 256 by decide, wrap_u64']; omega
      have kk := Kept.mk (And.intro h1 (And.intro h2 (And.intro h4 (And.intro hlo (And.intro htp (And.intro hz (And.intro hG (And.intro hLe hv'))))))))
      clear h1 h2 h4 hlo htp hz hG hLe hv' hv hX hY k1 k2 k3 k4 hi hL hP hroom
      (repeat' ((conv => whnf); first | refine Then.mk ?_ | left | refine OpsA.cons ?_ | refine OpsA.nil ?_ | refine AWq.seq ?_ | refine AWq.region ?_ | refine AWq.cond ?_ | refine AWq.block ?_ | refine AWq.skip ?_ | refine AWq.scope ?_ | refine AWq.label ?_ | refine AWq.ret ?_ | refine AWq.exit ?_ | refine AWq.loop ?_ | refine AWq.rangeFunc ?_ | refine DrawA.consD ?_ | refine DrawA.nil ?_ | refine DrawL.consD ?_ | refine DrawL.nil ?_ | refine DrawF.consD ?_ | refine DrawF.nil ?_ | refine AWq.draw (by decide +kernel) ?_ | (refine Both.mk ?_ ?_ <;> intro hc <;> (first | exact Bool.noConfusion hc | exact absurd (by with_reducible rfl) hc | exact (hc : False).elim | exact absurd (by assumption) hc | exact absurd hc (by assumption) | (exfalso; omega) | exact absurd hc (by decide) | skip)) | (intro c hc; (try (simp only [AH.none_iff] at hc; repeat (have hn := hc.1; replace hc := hc.2))); (first | (have hc2 := Eq.trans hc (by with_reducible assumption); clear hc; subst hc2) | (refine i64_k hc ?_ ?_ ?_ ; omega; omega; (clear hc; intro hc; subst hc)) | (refine u64_k hc ?_ ?_ ?_ ; omega; omega; (clear hc; intro hc; subst hc)) | (refine u8_k hc ?_ ?_ ?_ ; omega; omega; (clear hc; intro hc; subst hc)) | subst hc | skip)) | (apply Exists.intro; apply And.intro; (focus (repeat (first | assumption | exact AH.set_same _ _ _ | ((first | refine AH.get_ne ?_ ?_ | refine AH.getd_ne ?_ ?_); (first | assumption | omega | exact Ne.symm (by assumption) | exact AH.ne_none (by assumption) (by assumption) | exact AH.none_ne (by assumption) (by assumption) | exact (AH.none_set (by assumption)).1 | exact Ne.symm (AH.none_set (by assumption)).1)))); done)) | (apply Exists.intro; apply And.intro; first | (with_reducible assumption) | ((try simp only [List.getElem?_drop, Nat.mul_one, Nat.add_zero, Nat.zero_add]); first | (with_reducible assumption) | (refine u8s_get ?_; omega) | (refine iS_get ?_; omega) | assumption | rfl | fail)) | (apply And.intro; (first | rfl | (with_reducible assumption) | exact Nat.le_of_ble_eq_true rfl | omega | (exact Int.ofNat_lt.2 (Nat.lt_of_lt_of_eq (by with_reducible assumption) (by decide +kernel))) | assumption | (simp <;> fail) | (simp <;> omega) | (focus (repeat' (first | exact one_u8s _ | exact one_iS _ _ | rfl | apply one_take | apply one_drop | apply one_append)); done) | fail)) | fail)) <;> (try (conv => whnf))
      obtain ⟨h1, h2, h4, hlo, htp, hz, hG, hLe, hv'⟩ := kk.out
      have hsf : shf f τ = shf (f - 1) ⟨τ.V * 256, τ.W * 256, τ.L + 1⟩ := by
        obtain ⟨g, rfl⟩ : ∃ g, f = g + 1 := ⟨f - 1, by omega⟩
        exact if_pos hsm
      refine ⟨(f - 1, ⟨τ.V * 256, τ.W * 256, τ.L + 1⟩), ⟨?_, ?_, ?_, ?_⟩, ?_, trivial, HLe.of_eq ?_⟩
      · dsimp only; rw [← hsf]; exact h1
      · show 16777216 ≤ τ.W * 256 * 256 ^ (f - 1)
        rw [Nat.mul_assoc, ← Nat.pow_succ', show (f - 1).succ = f by omega]; exact h2
      · show τ.W * 256 ≤ 4294967296
        omega
      · show τ.L + 1 + (f - 1) ≤ _
        omega
      · show f - 1 < f
        omega
      · have b1 : z ++ [AV.int .u8 ((lo / 16777216 : Nat) : Int)] = u8s (dig (τ.L + 1) (τ.V * 256 / 4294967296)) := by
          rw [show τ.V * 256 / 4294967296 = tp * 256 + lo / 16777216 by omega, dig_snoc _ _ _ (by omega), hz, ← u8s_append]
          have : (UInt8.ofNat (lo / 16777216)).toNat = lo / 16777216 := by simp; omega
          show _ = _ ++ [AV.int .u8 ((UInt8.ofNat (lo / 16777216)).toNat : Int)]
          rw [this]
        show wcH H w r ⟨τ.V * 256, τ.W * 256, τ.L + 1⟩ = (((G.set r (.row (z ++ [AV.int .u8 ((lo / 16777216 : Nat) : Int)]) (v' + 1))).set w (.row [.int .u64 lo, .int .u64 τ.W, .sl r (v' + 1) 1 0 (L + 1) none] 0)).set w (.row [.int .u64 (lo * 256 % 4294967296 : Nat), .int .u64 τ.W, .sl r (v' + 1) 1 0 (L + 1) none] 0)).set w (.row [.int .u64 (lo * 256 % 4294967296 : Nat), .int .u64 (τ.W * 256 : Nat), .sl r (v' + 1) 1 0 (L + 1) none] 0)
        rw [b1, AH.set_set, AH.set_set, hG, hLe, hv']
        unfold wcH wtH
        dsimp only
        rw [AH.set_back _ hrw, AH.set_set, dig_len, show τ.V * 256 % 4294967296 = lo * 256 % 4294967296 by omega]
    · (repeat' ((conv => whnf); first | refine Then.mk ?_ | left | refine OpsA.cons ?_ | refine OpsA.nil ?_ | refine AWq.seq ?_ | refine AWq.region ?_ | refine AWq.cond ?_ | refine AWq.block ?_ | refine AWq.skip ?_ | refine AWq.scope ?_ | refine AWq.label ?_ | refine AWq.ret ?_ | refine AWq.exit ?_ | refine AWq.loop ?_ | refine AWq.rangeFunc ?_ | refine DrawA.consD ?_ | refine DrawA.nil ?_ | refine DrawL.consD ?_ | refine DrawL.nil ?_ | refine DrawF.consD ?_ | refine DrawF.nil ?_ | refine AWq.draw (by decide +kernel) ?_ | (refine Both.mk ?_ ?_ <;> intro hc <;> (first | exact Bool.noConfusion hc | exact absurd (by with_reducible rfl) hc | exact (hc : False).elim | exact absurd (by assumption) hc | exact absurd hc (by assumption) | (exfalso; omega) | exact absurd hc (by decide) | skip)) | (intro c hc; (try (simp only [AH.none_iff] at hc; repeat (have hn := hc.1; replace hc := hc.2))); (first | (have hc2 := Eq.trans hc (by with_reducible assumption); clear hc; subst hc2) | (refine i64_k hc ?_ ?_ ?_ ; omega; omega; (clear hc; intro hc; subst hc)) | (refine u64_k hc ?_ ?_ ?_ ; omega; omega; (clear hc; intro hc; subst hc)) | (refine u8_k hc ?_ ?_ ?_ ; omega; omega; (clear hc; intro hc; subst hc)) | subst hc | skip)) | (apply Exists.intro; apply And.intro; (focus (repeat (first | assumption | exact AH.set_same _ _ _ | ((first | refine AH.get_ne ?_ ?_ | refine AH.getd_ne ?_ ?_); (first | assumption | omega | exact Ne.symm (by assumption) | exact AH.ne_none (by assumption) (by assumption) | exact AH.none_ne (by assumption) (by assumption) | exact (AH.none_set (by assumption)).1 | exact Ne.symm (AH.none_set (by assumption)).1)))); done)) | (apply Exists.intro; apply And.intro; first | (with_reducible assumption) | ((try simp only [List.getElem?_drop, Nat.mul_one, Nat.add_zero, Nat.zero_add]); first | (with_reducible assumption) | (refine u8s_get ?_; omega) | (refine iS_get ?_; omega) | assumption | rfl | fail)) | (apply And.intro; (first | rfl | (with_reducible assumption) | exact Nat.le_of_ble_eq_true rfl | omega | (exact Int.ofNat_lt.2 (Nat.lt_of_lt_of_eq (by with_reducible assumption) (by decide +kernel))) | assumption | (simp <;> fail) | (simp <;> omega) | (focus (repeat' (first | exact one_u8s _ | exact one_iS _ _ | rfl | apply one_take | apply one_drop | apply one_append)); done) | fail)) | fail)) <;> (try (conv => whnf))
      rw [← hH, ← h1, shf_done (by omega)]
end Go.Proofs.Ytgmooalikccbiaa
/- The walks of the coder's writer: symbols, the code. -/
namespace Go.Proofs.Ytgmooalikccbiaa
open Go.Fw Go
set_option linter.unusedVariables false
set_option linter.unusedSimpArgs false

set_option maxRecDepth 8000 in
theorem writer_c (H : AH) : ACall Try.prog 40 [] H (fun y H' => ∃ w r, H w = none ∧ H r = none ∧ w ≠ r ∧ y = .ptr w 0 0 ∧ H' = wcH H w r cs0) := by
  refine ACall_of tt_ok (dok _) Try.func40 rfl (by decide) rfl ?_
  (repeat' ((conv => whnf); first | left | refine OpsA.cons ?_ | refine OpsA.nil ?_ | refine AWq.seq ?_ | refine AWq.region ?_ | refine AWq.cond ?_ | refine AWq.block ?_ | refine AWq.skip ?_ | refine AWq.scope ?_ | refine AWq.label ?_ | refine AWq.ret ?_ | refine AWq.exit ?_ | refine AWq.loop ?_ | refine AWq.rangeFunc ?_ | refine DrawA.consD ?_ | refine DrawA.nil ?_ | refine DrawL.consD ?_ | refine DrawL.nil ?_ | refine DrawF.consD ?_ | refine DrawF.nil ?_ | refine AWq.draw (by decide +kernel) ?_ | (refine Both.mk ?_ ?_ <;> intro hc <;> (first | exact Bool.noConfusion hc | exact absurd (by with_reducible rfl) hc | exact (hc : False).elim | exact absurd (by assumption) hc | exact absurd hc (by assumption) | (exfalso; omega) | exact absurd hc (by decide) | skip)) | (intro c hc; (try (simp only [AH.none_iff] at hc; repeat (have hn := hc.1; replace hc := hc.2))); (first | (have hc2 := Eq.trans hc (by with_reducible assumption); clear hc; subst hc2) | (refine i64_k hc ?_ ?_ ?_ ; omega; omega; (clear hc; intro hc; subst hc)) | (refine u64_k hc ?_ ?_ ?_ ; omega; omega; (clear hc; intro hc; subst hc)) | (refine u8_k hc ?_ ?_ ?_ ; omega; omega; (clear hc; intro hc; subst hc)) | subst hc | skip)) | (apply Exists.intro; apply And.intro; (focus (repeat (first | assumption | exact AH.set_same _ _ _ | ((first | refine AH.get_ne ?_ ?_ | refine AH.getd_ne ?_ ?_); (first | assumption | omega | exact Ne.symm (by assumption) | exact AH.ne_none (by assumption) (by assumption) | exact AH.none_ne (by assumption) (by assumption) | exact (AH.none_set (by assumption)).1 | exact Ne.symm (AH.none_set (by assumption)).1)))); done)) | (apply Exists.intro; apply And.intro; first | (with_reducible assumption) | ((try simp only [List.getElem?_drop, Nat.mul_one, Nat.add_zero, Nat.zero_add]); first | (with_reducible assumption) | (refine u8s_get ?_; omega) | (refine iS_get ?_; omega) | assumption | rfl | fail)) | (apply And.intro; (first | rfl | (with_reducible assumption) | exact Nat.le_of_ble_eq_true rfl | omega | (exact Int.ofNat_lt.2 (Nat.lt_of_lt_of_eq (by with_reducible assumption) (by decide +kernel))) | assumption | (simp <;> fail) | (simp <;> omega) | (focus (repeat' (first | exact one_u8s _ | exact one_iS _ _ | rfl | apply one_take | apply one_drop | apply one_append)); done) | fail)) | fail)) <;> (try (conv => whnf))
  refine Then.mk ?_
  (repeat' ((conv => whnf); first | left | refine OpsA.cons ?_ | refine OpsA.nil ?_ | refine AWq.seq ?_ | refine AWq.region ?_ | refine AWq.cond ?_ | refine AWq.block ?_ | refine AWq.skip ?_ | refine AWq.scope ?_ | refine AWq.label ?_ | refine AWq.ret ?_ | refine AWq.exit ?_ | refine AWq.loop ?_ | refine AWq.rangeFunc ?_ | refine DrawA.consD ?_ | refine DrawA.nil ?_ | refine DrawL.consD ?_ | refine DrawL.nil ?_ | refine DrawF.consD ?_ | refine DrawF.nil ?_ | refine AWq.draw (by decide +kernel) ?_ | (refine Both.mk ?_ ?_ <;> intro hc <;> (first | exact Bool.noConfusion hc | exact absurd (by with_reducible rfl) hc | exact (hc : False).elim | exact absurd (by assumption) hc | exact absurd hc (by assumption) | (exfalso; omega) | exact absurd hc (by decide) | skip)) | (intro c hc; (try (simp only [AH.none_iff] at hc; repeat (have hn := hc.1; replace hc := hc.2))); (first | (have hc2 := Eq.trans hc (by with_reducible assumption); clear hc; subst hc2) | (refine i64_k hc ?_ ?_ ?_ ; omega; omega; (clear hc; intro hc; subst hc)) | (refine u64_k hc ?_ ?_ ?_ ; omega; omega; (clear hc; intro hc; subst hc)) | (refine u8_k hc ?_ ?_ ?_ ; omega; omega; (clear hc; intro hc; subst hc)) | subst hc | skip)) | (apply Exists.intro; apply And.intro; (focus (repeat (first | assumption | exact AH.set_same _ _ _ | ((first | refine AH.get_ne ?_ ?_ | refine AH.getd_ne ?_ ?_); (first | assumption | omega | exact Ne.symm (by assumption) | exact AH.ne_none (by assumption) (by assumption) | exact AH.none_ne (by assumption) (by assumption) | exact (AH.none_set (by assumption)).1 | exact Ne.symm (AH.none_set (by assumption)).1)))); done)) | (apply Exists.intro; apply And.intro; first | (with_reducible assumption) | ((try simp only [List.getElem?_drop, Nat.mul_one, Nat.add_zero, Nat.zero_add]); first | (with_reducible assumption) | (refine u8s_get ?_; omega) | (refine iS_get ?_; omega) | assumption | rfl | fail)) | (apply And.intro; (first | rfl | (with_reducible assumption) | exact Nat.le_of_ble_eq_true rfl | omega | (exact Int.ofNat_lt.2 (Nat.lt_of_lt_of_eq (by with_reducible assumption) (by decide +kernel))) | assumption | (simp <;> fail) | (simp <;> omega) | (focus (repeat' (first | exact one_u8s _ | exact one_iS _ _ | rfl | apply one_take | apply one_drop | apply one_append)); done) | fail)) | fail)) <;> (try (conv => whnf))
  refine Then.mk (AWq.in ?_)
  refine AWp_nilC 1 [.int .u64 0, .int .u64 4294967296] [] (p := c) (u := 0) (AH.set_same _ _ _) fun r hr hrw => ?_
  have hrH := (AH.none_set hr).2
  refine AWp.of tt_ok (dok _) rfl ?_
  (repeat' ((conv => whnf); first | refine Then.mk ?_ | left | refine OpsA.cons ?_ | refine OpsA.nil ?_ | refine AWq.seq ?_ | refine AWq.region ?_ | refine AWq.cond ?_ | refine AWq.block ?_ | refine AWq.skip ?_ | refine AWq.scope ?_ | refine AWq.label ?_ | refine AWq.ret ?_ | refine AWq.exit ?_ | refine AWq.loop ?_ | refine AWq.rangeFunc ?_ | refine DrawA.consD ?_ | refine DrawA.nil ?_ | refine DrawL.consD ?_ | refine DrawL.nil ?_ | refine DrawF.consD ?_ | refine DrawF.nil ?_ | refine AWq.draw (by decide +kernel) ?_ | (refine Both.mk ?_ ?_ <;> intro hc <;> (first | exact Bool.noConfusion hc | exact absurd (by with_reducible rfl) hc | exact (hc : False).elim | exact absurd (by assumption) hc | exact absurd hc (by assumption) | (exfalso; omega) | exact absurd hc (by decide) | skip)) | (intro c hc; (try (simp only [AH.none_iff] at hc; repeat (have hn := hc.1; replace hc := hc.2))); (first | (have hc2 := Eq.trans hc (by with_reducible assumption); clear hc; subst hc2) | (refine i64_k hc ?_ ?_ ?_ ; omega; omega; (clear hc; intro hc; subst hc)) | (refine u64_k hc ?_ ?_ ?_ ; omega; omega; (clear hc; intro hc; subst hc)) | (refine u8_k hc ?_ ?_ ?_ ; omega; omega; (clear hc; intro hc; subst hc)) | subst hc | skip)) | (apply Exists.intro; apply And.intro; (focus (repeat (first | assumption | exact AH.set_same _ _ _ | ((first | refine AH.get_ne ?_ ?_ | refine AH.getd_ne ?_ ?_); (first | assumption | omega | exact Ne.symm (by assumption) | exact AH.ne_none (by assumption) (by assumption) | exact AH.none_ne (by assumption) (by assumption) | exact (AH.none_set (by assumption)).1 | exact Ne.symm (AH.none_set (by assumption)).1)))); done)) | (apply Exists.intro; apply And.intro; first | (with_reducible assumption) | ((try simp only [List.getElem?_drop, Nat.mul_one, Nat.add_zero, Nat.zero_add]); first | (with_reducible assumption) | (refine u8s_get ?_; omega) | (refine iS_get ?_; omega) | assumption | rfl | fail)) | (apply And.intro; (first | rfl | (with_reducible assumption) | exact Nat.le_of_ble_eq_true rfl | omega | (exact Int.ofNat_lt.2 (Nat.lt_of_lt_of_eq (by with_reducible assumption) (by decide +kernel))) | assumption | (simp <;> fail) | (simp <;> omega) | (focus (repeat' (first | exact one_u8s _ | exact one_iS _ _ | rfl | apply one_take | apply one_drop | apply one_append)); done) | fail)) | fail)) <;> (try (conv => whnf))
  refine ⟨c, r, hc, hrH, Ne.symm hrw, rfl, ?_⟩
  exact (AH.set_back H (Ne.symm hrw) _ _ _).trans (AH.set_comm _ _ _ (Ne.symm hrw))

/-- A writer stands here. -/
structure WrAt (H : AH) (w r : Nat) (σ : Cs) : Prop where
  hw : H w = some (.row [.int .u64 (σ.V % 4294967296 : Nat), .int .u64 σ.W, .sl r σ.L 1 0 σ.L none] 0)
  hr : H r = some (.row (u8s (dig σ.L (σ.V / 4294967296))) σ.L)
  ne : w ≠ r
theorem WrAt.eq {H : AH} {w r : Nat} {σ : Cs} (h : WrAt H w r σ) : wcH H w r σ = H := by
  unfold wcH wtH
  rw [AH.set_id h.hr, dig_len]
  exact AH.set_id h.hw
theorem WrAt.set {H : AH} {w r : Nat} {σ : Cs} (h : w ≠ r) : WrAt (wcH H w r σ) w r σ := by
  refine ⟨?_, ?_, h⟩
  · unfold wcH wtH; rw [AH.set_same, dig_len]
  · unfold wcH wtH; rw [AH.set_ne _ _ (Ne.symm h), AH.set_same]
theorem wcH_set {H : AH} {w r : Nat} {σ τ : Cs} (h : w ≠ r) : wcH (wcH H w r σ) w r τ = wcH H w r τ := by
  unfold wcH wtH
  rw [AH.set_back _ (Ne.symm h), AH.set_set]
theorem wcH_ne {H : AH} {w r a : Nat} {σ : Cs} (h1 : a ≠ w) (h2 : a ≠ r) : wcH H w r σ a = H a := by
  unfold wcH wtH
  rw [AH.set_ne _ _ h1, AH.set_ne _ _ h2]
theorem mdH_ne {H : AH} {p q n a : Nat} {c : Nat → Nat} (h1 : a ≠ p) (h2 : a ≠ q) : mdH H p q n c a = H a := by
  unfold mdH
  rw [AH.set_ne _ _ h1, AH.set_ne _ _ h2]
theorem MdAt.same {H G : AH} {p q n : Nat} {c : Nat → Nat} (h : MdAt H p q n c) (h1 : G p = H p) (h2 : G q = H q) : MdAt G p q n c :=
  ⟨by rw [h1]; exact h.hp, by rw [h2]; exact h.hq, h.ne, h.ok⟩
theorem WrAt.same {H G : AH} {w r : Nat} {σ : Cs} (h : WrAt H w r σ) (h1 : G w = H w) (h2 : G r = H r) : WrAt G w r σ :=
  ⟨by rw [h1]; exact h.hw, by rw [h2]; exact h.hr, h.ne⟩
theorem k_step_c {G : AH} {w r : Nat} {σ : Cs} {p c t : Nat} (hw : WrAt G w r σ) (hc : CsOk σ) (hs : StOk p c t) (hL : σ.L ≤ 1000000000000) :
    ACall Try.prog 49 [.ptr w 0 0, .int .i64 p, .int .i64 c, .int .i64 t] G (fun y H' => y = .tup [] ∧ H' = wcH G w r (stp σ p c t)) := by
  have := wstep_c (H := G) hw.ne hc hs hL
  rwa [hw.eq] at this

set_option maxRecDepth 8000 in
theorem symbol_c {G : AH} {w r p q n : Nat} {σ : Cs} {c : Nat → Nat} {s : Nat} (hw : WrAt G w r σ) (hm : MdAt G p q n c) (h1 : p ≠ w) (h2 : p ≠ r) (h3 : q ≠ w) (h4 : q ≠ r) (hs : s < n) (hc : CsOk σ) (hL : σ.L ≤ 1000000000000) :
    ACall Try.prog 41 [.ptr w 0 0, .ptr p 0 0, .int .i64 s] G (fun y H' => y = .tup [] ∧ H' = mdH (wcH G w r (stp σ (plc c s) (c s) (plc c n))) p q n (seeM n c s)) := by
  have hp := place_c hm s (by omega)
  have hst : StOk (plc c s) (c s) (plc c n) := ⟨hm.ok.pos s hs, plc_one hs, hm.ok.sum⟩
  have hstep := k_step_c hw hc hst hL
  have hsee := see_c (hm.same (G := wcH G w r (stp σ (plc c s) (c s) (plc c n))) (wcH_ne h1 h2) (wcH_ne h3 h4)) s hs
  have hmp := hm.hp
  have hmq := hm.hq
  have hcell := iL_gi (fun k => (c k : Int)) hs
  have hlen : (iL n fun k => (c k : Int)).length = n := iL_len _ _
  generalize (iL n fun k => (c k : Int)) = cells at *
  have hts := hm.ok.sum
  obtain ⟨T, hT⟩ : ∃ T, T = plc c n := ⟨_, rfl⟩
  obtain ⟨A, hA⟩ : ∃ A, A = plc c s := ⟨_, rfl⟩
  rw [← hT] at hmp hstep hsee hts ⊢
  rw [← hA] at hp hstep hsee ⊢
  refine ACall_of tt_ok (dok _) Try.func41 rfl (by decide) rfl ?_
  (repeat' ((conv => whnf); first | refine AWq.drawM ([21], []) (by decide +kernel) ?_ | refine Then.mk ?_ | left | refine OpsA.cons ?_ | refine OpsA.nil ?_ | refine AWq.seq ?_ | refine AWq.region ?_ | refine AWq.cond ?_ | refine AWq.block ?_ | refine AWq.skip ?_ | refine AWq.scope ?_ | refine AWq.label ?_ | refine AWq.ret ?_ | refine AWq.exit ?_ | refine AWq.loop ?_ | refine AWq.rangeFunc ?_ | refine DrawA.consD ?_ | refine DrawA.nil ?_ | refine DrawL.consD ?_ | refine DrawL.nil ?_ | refine DrawF.consD ?_ | refine DrawF.nil ?_ | refine AWq.draw (by decide +kernel) ?_ | (refine ACall.to (hp) ?_) | (refine ACall.to (hstep) ?_) | (refine ACall.to (hsee) ?_) | (apply Exists.intro; apply And.intro; exact hp) | (apply Exists.intro; apply And.intro; exact hstep) | (apply Exists.intro; apply And.intro; exact hsee) | (apply Exists.intro; apply Exists.intro; apply And.intro; exact hp) | (apply Exists.intro; apply Exists.intro; apply And.intro; exact hstep) | (apply Exists.intro; apply Exists.intro; apply And.intro; exact hsee) | (refine Both.mk ?_ ?_ <;> intro hc <;> (first | exact Bool.noConfusion hc | exact absurd (by with_reducible rfl) hc | exact (hc : False).elim | exact absurd (by assumption) hc | exact absurd hc (by assumption) | (exfalso; omega) | exact absurd hc (by decide) | skip)) | (intro c hc; (try (simp only [AH.none_iff] at hc; repeat (have hn := hc.1; replace hc := hc.2))); (first | (have hc2 := Eq.trans hc (by with_reducible assumption); clear hc; subst hc2) | (refine i64_k hc ?_ ?_ ?_ ; omega; omega; (clear hc; intro hc; subst hc)) | (refine u64_k hc ?_ ?_ ?_ ; omega; omega; (clear hc; intro hc; subst hc)) | (refine u8_k hc ?_ ?_ ?_ ; omega; omega; (clear hc; intro hc; subst hc)) | subst hc | skip)) | (apply Exists.intro; apply And.intro; (focus (repeat (first | assumption | exact AH.set_same _ _ _ | ((first | refine AH.get_ne ?_ ?_ | refine AH.getd_ne ?_ ?_); (first | assumption | omega | exact Ne.symm (by assumption) | exact AH.ne_none (by assumption) (by assumption) | exact AH.none_ne (by assumption) (by assumption) | exact (AH.none_set (by assumption)).1 | exact Ne.symm (AH.none_set (by assumption)).1)))); done)) | (apply Exists.intro; apply And.intro; first | (with_reducible assumption) | ((try simp only [List.getElem?_drop, Nat.mul_one, Nat.add_zero, Nat.zero_add]); first | (with_reducible assumption) | (refine u8s_get ?_; omega) | (refine iS_get ?_; omega) | assumption | rfl | fail)) | (apply And.intro; (first | rfl | (with_reducible assumption) | exact Nat.le_of_ble_eq_true rfl | omega | (exact Int.ofNat_lt.2 (Nat.lt_of_lt_of_eq (by with_reducible assumption) (by decide +kernel))) | assumption | (simp <;> fail) | (simp <;> omega) | (focus (repeat' (first | exact one_u8s _ | exact one_iS _ _ | rfl | apply one_take | apply one_drop | apply one_append)); done) | fail)) | fail)) <;> (try (conv => whnf))

set_option maxRecDepth 8000 in
theorem code_c {H : AH} {w r : Nat} {σ : Cs} (hne : w ≠ r) (hL : σ.L ≤ 1000000000000) :
    ACall Try.prog 42 [.ptr w 0 0] (wcH H w r σ) (fun y H' => y = .cs (u8s (codeS σ)) (codeS σ).length ∧ H' = (wcH H w r σ).del r) := by
  have hwa : WrAt (wcH H w r σ) w r σ := WrAt.set hne
  have hw := hwa.hw
  have hr := hwa.hr
  generalize wcH H w r σ = G at *
  obtain ⟨lo, hlo⟩ : ∃ lo, lo = σ.V % 4294967296 := ⟨_, rfl⟩
  rw [← hlo] at hw
  have hlb : lo < 4294967296 := by omega
  obtain ⟨z, hz⟩ : ∃ z, z = u8s (dig σ.L (σ.V / 4294967296)) := ⟨_, rfl⟩
  have hzl : z.length = σ.L := by rw [hz]; simp
  rw [← hz] at hr
  have a1 : (lo : Int).fdiv (2 ^ min (Int.toNat 24) IntKind.u64.bits) = (lo / 16777216 : Nat) := by
    rw [show (2 : Int) ^ min (Int.toNat 24) IntKind.u64.bits = 16777216 by decide, Int.fdiv_eq_ediv_of_nonneg _ (by omega)]; omega
  have a2 : IntKind.u8.wrap (lo / 16777216 : Nat) = (lo / 16777216 : Nat) := by rw [wrap_u8']; omega
  have b1 : (lo : Int).fdiv (2 ^ min (Int.toNat 16) IntKind.u64.bits) = (lo / 65536 : Nat) := by
    rw [show (2 : Int) ^ min (Int.toNat 16) IntKind.u64.bits = 65536 by decide, Int.fdiv_eq_ediv_of_nonneg _ (by omega)]; omega
  have b2 : IntKind.u8.wrap (lo / 65536 : Nat) = (lo / 65536 % 256 : Nat) := by rw [wrap_u8']; omega
  have c1 : (lo : Int).fdiv (2 ^ min (Int.toNat 8) IntKind.u64.bits) = (lo / 256 : Nat) := by
    rw [show (2 : Int) ^ min (Int.toNat 8) IntKind.u64.bits = 256 by decide, Int.fdiv_eq_ediv_of_nonneg _ (by omega)]; omega
  have c2 : IntKind.u8.wrap (lo / 256 : Nat) = (lo / 256 % 256 : Nat) := by rw [wrap_u8']; omega
  have d2 : IntKind.u8.wrap (lo : Nat) = (lo % 256 : Nat) := by rw [wrap_u8']; omega
  have hall : z ++ [AV.int .u8 (lo / 16777216 : Nat), AV.int .u8 (lo / 65536 % 256 : Nat), AV.int .u8 (lo / 256 % 256 : Nat), AV.int .u8 (lo % 256 : Nat)] = u8s (dig (σ.L + 4) σ.V) := by
    have e : σ.V = (((σ.V / 4294967296 * 256 + lo / 16777216) * 256 + lo / 65536 % 256) * 256 + lo / 256 % 256) * 256 + lo % 256 := by omega
    conv => rhs; rw [e]
    rw [show σ.L + 4 = σ.L + 1 + 1 + 1 + 1 from rfl, dig_snoc _ _ _ (by omega), dig_snoc _ _ _ (by omega), dig_snoc _ _ _ (by omega), dig_snoc _ _ _ (by omega), hz]
    have t : ∀ x, x < 256 → (UInt8.ofNat x).toNat = x := fun x h => by simp; omega
    simp only [u8s, List.map_append, List.map_cons, List.map_nil, List.append_assoc]
    rw [t _ (by omega), t _ (by omega), t _ (by omega), t _ (by omega)]
    rfl
  clear hz
  refine ACall_of tt_ok (dok _) Try.func42 rfl (by decide) rfl ?_
  (repeat' ((conv => whnf); first | left | refine OpsA.cons ?_ | refine OpsA.nil ?_ | refine AWq.seq ?_ | refine AWq.region ?_ | refine AWq.cond ?_ | refine AWq.block ?_ | refine AWq.skip ?_ | refine AWq.scope ?_ | refine AWq.label ?_ | refine AWq.ret ?_ | refine AWq.exit ?_ | refine AWq.loop ?_ | refine AWq.rangeFunc ?_ | refine DrawA.consD ?_ | refine DrawA.nil ?_ | refine DrawL.consD ?_ | refine DrawL.nil ?_ | refine DrawF.consD ?_ | refine DrawF.nil ?_ | refine AWq.draw (by decide +kernel) ?_ | (refine Both.mk ?_ ?_ <;> intro hc <;> (first | exact Bool.noConfusion hc | exact absurd (by with_reducible rfl) hc | exact (hc : False).elim | exact absurd (by assumption) hc | exact absurd hc (by assumption) | (exfalso; omega) | exact absurd hc (by decide) | skip)) | (intro c hc; (try (simp only [AH.none_iff] at hc; repeat (have hn := hc.1; replace hc := hc.2))); (first | (have hc2 := Eq.trans hc (by with_reducible assumption); clear hc; subst hc2) | (refine i64_k hc ?_ ?_ ?_ ; omega; omega; (clear hc; intro hc; subst hc)) | (refine u64_k hc ?_ ?_ ?_ ; omega; omega; (clear hc; intro hc; subst hc)) | (refine u8_k hc ?_ ?_ ?_ ; omega; omega; (clear hc; intro hc; subst hc)) | subst hc | skip)) | (apply Exists.intro; apply And.intro; (focus (repeat (first | assumption | exact AH.set_same _ _ _ | ((first | refine AH.get_ne ?_ ?_ | refine AH.getd_ne ?_ ?_); (first | assumption | omega | exact Ne.symm (by assumption) | exact AH.ne_none (by assumption) (by assumption) | exact AH.none_ne (by assumption) (by assumption) | exact (AH.none_set (by assumption)).1 | exact Ne.symm (AH.none_set (by assumption)).1)))); done)) | (apply Exists.intro; apply And.intro; first | (with_reducible assumption) | ((try simp only [List.getElem?_drop, Nat.mul_one, Nat.add_zero, Nat.zero_add]); first | (with_reducible assumption) | (refine u8s_get ?_; omega) | (refine iS_get ?_; omega) | assumption | rfl | fail)) | (apply And.intro; (first | rfl | (with_reducible assumption) | exact Nat.le_of_ble_eq_true rfl | omega | (exact Int.ofNat_lt.2 (Nat.lt_of_lt_of_eq (by with_reducible assumption) (by decide +kernel))) | assumption | (simp <;> fail) | (simp <;> omega) | (focus (repeat' (first | exact one_u8s _ | exact one_iS _ _ | rfl | apply one_take | apply one_drop | apply one_append)); done) | fail)) | fail)) <;> (try (conv => whnf))
  refine Then.mk ?_
  (repeat' ((conv => whnf); first | left | refine OpsA.cons ?_ | refine OpsA.nil ?_ | refine AWq.seq ?_ | refine AWq.region ?_ | refine AWq.cond ?_ | refine AWq.block ?_ | refine AWq.skip ?_ | refine AWq.scope ?_ | refine AWq.label ?_ | refine AWq.ret ?_ | refine AWq.exit ?_ | refine AWq.loop ?_ | refine AWq.rangeFunc ?_ | refine DrawA.consD ?_ | refine DrawA.nil ?_ | refine DrawL.consD ?_ | refine DrawL.nil ?_ | refine DrawF.consD ?_ | refine DrawF.nil ?_ | refine AWq.draw (by decide +kernel) ?_ | (refine Both.mk ?_ ?_ <;> intro hc <;> (first | exact Bool.noConfusion hc | exact absurd (by with_reducible rfl) hc | exact (hc : False).elim | exact absurd (by assumption) hc | exact absurd hc (by assumption) | (exfalso; omega) | exact absurd hc (by decide) | skip)) | (intro c hc; (try (simp only [AH.none_iff] at hc; repeat (have hn := hc.1; replace hc := hc.2))); (first | (have hc2 := Eq.trans hc (by with_reducible assumption); clear hc; subst hc2) | (refine i64_k hc ?_ ?_ ?_ ; omega; omega; (clear hc; intro hc; subst hc)) | (refine u64_k hc ?_ ?_ ?_ ; omega; omega; (clear hc; intro hc; subst hc)) | (refine u8_k hc ?_ ?_ ?_ ; omega; omega; (clear hc; intro hc; subst hc)) | subst hc | skip)) | (apply Exists.intro; apply And.intro; (focus (repeat (first | assumption | exact AH.set_same _ _ _ | ((first | refine AH.get_ne ?_ ?_ | refine AH.getd_ne ?_ ?_); (first | assumption | omega | exact Ne.symm (by assumption) | exact AH.ne_none (by assumption) (by assumption) | exact AH.none_ne (by assumption) (by assumption) | exact (AH.none_set (by assumption)).1 | exact Ne.symm (AH.none_set (by assumption)).1)))); done)) | (apply Exists.intro; apply And.intro; first | (with_reducible assumption) | ((try simp only [List.getElem?_drop, Nat.mul_one, Nat.add_zero, Nat.zero_add]); first | (with_reducible assumption) | (refine u8s_get ?_; omega) | (refine iS_get ?_; omega) | assumption | rfl | fail)) | (apply And.intro; (first | rfl | (with_reducible assumption) | exact Nat.le_of_ble_eq_true rfl | omega | (exact Int.ofNat_lt.2 (Nat.lt_of_lt_of_eq (by with_reducible assumption) (by decide +kernel))) | assumption | (simp <;> fail) | (simp <;> omega) | (focus (repeat' (first | exact one_u8s _ | exact one_iS _ _ | rfl | apply one_take | apply one_drop | apply one_append)); done) | fail)) | fail)) <;> (try (conv => whnf))
  refine Then.mk (AWq.in ?_)
  refine AWp_freeze1 (r := r) (v := σ.L + 1) (es := 1) (n := σ.L + 4) (lim := none) (cells := u8s (dig (σ.L + 4) σ.V)) 3 rfl rfl ?_ (by simp) ?_
  · show AH.set G r (.row (z ++ _) _) r = _
    rw [AH.set_same]
    exact congrArg (fun l => some (AO.row l (σ.L + 1))) hall
  have hG : ∀ o, (AH.set G r o).del r = G.del r := fun o => by
    funext a; simp only [AH.del, AH.set]; split <;> rfl
  rw [hG]
  have hbl : (dig (σ.L + 4) σ.V).length = σ.L + 4 := dig_len _ _
  have hcs : codeS σ = (dig (σ.L + 4) σ.V).take (trimN (dig (σ.L + 4) σ.V) (σ.L + 4)) := by
    unfold codeS trim
    rw [hbl]
  rw [hcs]
  generalize dig (σ.L + 4) σ.V = bs at *
  obtain ⟨L4, hL4⟩ : ∃ L4, L4 = σ.L + 4 := ⟨_, rfl⟩
  rw [← hL4] at hbl ⊢
  have hul : (u8s bs).length = L4 * 1 := by simp [hbl]
  clear hall hcs a1 a2 b1 b2 c1 c2 d2
  refine AWp.of tt_ok (dok _) rfl ?_
  (repeat' ((conv => whnf); first | refine Then.mk ?_ | left | refine OpsA.cons ?_ | refine OpsA.nil ?_ | refine AWq.seq ?_ | refine AWq.region ?_ | refine AWq.cond ?_ | refine AWq.block ?_ | refine AWq.skip ?_ | refine AWq.scope ?_ | refine AWq.label ?_ | refine AWq.ret ?_ | refine AWq.exit ?_ | refine AWq.loop ?_ | refine AWq.rangeFunc ?_ | refine DrawA.consD ?_ | refine DrawA.nil ?_ | refine DrawL.consD ?_ | refine DrawL.nil ?_ | refine DrawF.consD ?_ | refine DrawF.nil ?_ | refine AWq.draw (by decide +kernel) ?_ | (refine Both.mk ?_ ?_ <;> intro hc <;> (first | exact Bool.noConfusion hc | exact absurd (by with_reducible rfl) hc | exact (hc : False).elim | exact absurd (by assumption) hc | exact absurd hc (by assumption) | (exfalso; omega) | exact absurd hc (by decide) | skip)) | (intro c hc; (try (simp only [AH.none_iff] at hc; repeat (have hn := hc.1; replace hc := hc.2))); (first | (have hc2 := Eq.trans hc (by with_reducible assumption); clear hc; subst hc2) | (refine i64_k hc ?_ ?_ ?_ ; omega; omega; (clear hc; intro hc; subst hc)) | (refine u64_k hc ?_ ?_ ?_ ; omega; omega; (clear hc; intro hc; subst hc)) | (refine u8_k hc ?_ ?_ ?_ ; omega; omega; (clear hc; intro hc; subst hc)) | subst hc | skip)) | (apply Exists.intro; apply And.intro; (focus (repeat (first | assumption | exact AH.set_same _ _ _ | ((first | refine AH.get_ne ?_ ?_ | refine AH.getd_ne ?_ ?_); (first | assumption | omega | exact Ne.symm (by assumption) | exact AH.ne_none (by assumption) (by assumption) | exact AH.none_ne (by assumption) (by assumption) | exact (AH.none_set (by assumption)).1 | exact Ne.symm (AH.none_set (by assumption)).1)))); done)) | (apply Exists.intro; apply And.intro; first | (with_reducible assumption) | ((try simp only [List.getElem?_drop, Nat.mul_one, Nat.add_zero, Nat.zero_add]); first | (with_reducible assumption) | (refine u8s_get ?_; omega) | (refine iS_get ?_; omega) | assumption | rfl | fail)) | (apply And.intro; (first | rfl | (with_reducible assumption) | exact Nat.le_of_ble_eq_true rfl | omega | (exact Int.ofNat_lt.2 (Nat.lt_of_lt_of_eq (by with_reducible assumption) (by decide +kernel))) | assumption | (simp <;> fail) | (simp <;> omega) | (focus (repeat' (first | exact one_u8s _ | exact one_iS _ _ | rfl | apply one_take | apply one_drop | apply one_append)); done) | fail)) | fail)) <;> (try (conv => whnf))
  refine AWp_loop (σ := Nat) (4 :: 40 :: 41 :: 42 :: 43 :: 44 :: 45 :: 46 :: 47 :: 48 :: 49 :: 50 :: 51 :: []) (fun n => [(4, .int .i64 n)]) (fun _ => G.del r) (fun n => n ≤ L4 ∧ trimN bs L4 = trimN bs n) (fun n => n) L4 rfl ?_ ?_ ?_ ?_
  · exact ⟨Nat.le_refl _, rfl⟩
  · exact ⟨rfl, trivial⟩
  · exact HLe.refl _
  · rintro n ⟨h1, h2⟩
    refine AWp.of tt_ok (dok _) rfl ?_
    have fin : ∀ m, m ≤ L4 → trimN bs L4 = m → AV.cs (List.take ((m : Int).toNat * 1) (u8s bs)) (m : Int).toNat = AV.cs (u8s (List.take (trimN bs L4) bs)) (List.take (trimN bs L4) bs).length ∧ G.del r = G.del r := fun m hm he => by
      refine ⟨?_, rfl⟩
      rw [he, Int.toNat_natCast, Nat.mul_one, u8s_take, List.length_take, Nat.min_eq_left (by omega)]
    by_cases h0 : n = 0
    · subst h0
      (repeat' ((conv => whnf); first | refine Then.mk ?_ | left | refine OpsA.cons ?_ | refine OpsA.nil ?_ | refine AWq.seq ?_ | refine AWq.region ?_ | refine AWq.cond ?_ | refine AWq.block ?_ | refine AWq.skip ?_ | refine AWq.scope ?_ | refine AWq.label ?_ | refine AWq.ret ?_ | refine AWq.exit ?_ | refine AWq.loop ?_ | refine AWq.rangeFunc ?_ | refine DrawA.consD ?_ | refine DrawA.nil ?_ | refine DrawL.consD ?_ | refine DrawL.nil ?_ | refine DrawF.consD ?_ | refine DrawF.nil ?_ | refine AWq.draw (by decide +kernel) ?_ | (refine Both.mk ?_ ?_ <;> intro hc <;> (first | exact Bool.noConfusion hc | exact absurd (by with_reducible rfl) hc | exact (hc : False).elim | exact absurd (by assumption) hc | exact absurd hc (by assumption) | (exfalso; omega) | exact absurd hc (by decide) | skip)) | (intro c hc; (try (simp only [AH.none_iff] at hc; repeat (have hn := hc.1; replace hc := hc.2))); (first | (have hc2 := Eq.trans hc (by with_reducible assumption); clear hc; subst hc2) | (refine i64_k hc ?_ ?_ ?_ ; omega; omega; (clear hc; intro hc; subst hc)) | (refine u64_k hc ?_ ?_ ?_ ; omega; omega; (clear hc; intro hc; subst hc)) | (refine u8_k hc ?_ ?_ ?_ ; omega; omega; (clear hc; intro hc; subst hc)) | subst hc | skip)) | (apply Exists.intro; apply And.intro; (focus (repeat (first | assumption | exact AH.set_same _ _ _ | ((first | refine AH.get_ne ?_ ?_ | refine AH.getd_ne ?_ ?_); (first | assumption | omega | exact Ne.symm (by assumption) | exact AH.ne_none (by assumption) (by assumption) | exact AH.none_ne (by assumption) (by assumption) | exact (AH.none_set (by assumption)).1 | exact Ne.symm (AH.none_set (by assumption)).1)))); done)) | (apply Exists.intro; apply And.intro; first | (with_reducible assumption) | ((try simp only [List.getElem?_drop, Nat.mul_one, Nat.add_zero, Nat.zero_add]); first | (with_reducible assumption) | (refine u8s_get ?_; omega) | (refine iS_get ?_; omega) | assumption | rfl | fail)) | (apply And.intro; (first | rfl | (with_reducible assumption) | exact Nat.le_of_ble_eq_true rfl | omega | (exact Int.ofNat_lt.2 (Nat.lt_of_lt_of_eq (by with_reducible assumption) (by decide +kernel))) | assumption | (simp <;> fail) | (simp <;> omega) | (focus (repeat' (first | exact one_u8s _ | exact one_iS _ _ | rfl | apply one_take | apply one_drop | apply one_append)); done) | fail)) | fail)) <;> (try (conv => whnf))
      exact fin 0 (by omega) (by rw [h2]; rfl)
    · obtain ⟨k, rfl⟩ : ∃ k, n = k + 1 := ⟨n - 1, by omega⟩
      have hg : (u8s bs)[((k + 1 : Nat) - 1 : Int).toNat]? = some (.int .u8 (bs.getD k 0).toNat) := by
        rw [show ((k + 1 : Nat) - 1 : Int).toNat = k by omega]
        exact u8s_get (by omega)
      have hb := u8_range (bs.getD k 0)
      obtain ⟨b, hbe⟩ : ∃ b, b = bs.getD k 0 := ⟨_, rfl⟩
      have h2' : trimN bs (k + 1) = if b = 0 then trimN bs k else k + 1 := by rw [hbe]; rfl
      rw [← hbe] at hg hb
      obtain ⟨B, hB⟩ : ∃ B : Int, B = (b.toNat : Int) := ⟨_, rfl⟩
      rw [← hB] at hg hb
      by_cases hz : B = 0
      · have hb0 : b = 0 := UInt8.toNat_inj.1 (by show b.toNat = 0; omega)
        rw [if_pos hb0] at h2'
        subst hz
        (repeat' ((conv => whnf); first | refine Then.mk ?_ | left | refine OpsA.cons ?_ | refine OpsA.nil ?_ | refine AWq.seq ?_ | refine AWq.region ?_ | refine AWq.cond ?_ | refine AWq.block ?_ | refine AWq.skip ?_ | refine AWq.scope ?_ | refine AWq.label ?_ | refine AWq.ret ?_ | refine AWq.exit ?_ | refine AWq.loop ?_ | refine AWq.rangeFunc ?_ | refine DrawA.consD ?_ | refine DrawA.nil ?_ | refine DrawL.consD ?_ | refine DrawL.nil ?_ | refine DrawF.consD ?_ | refine DrawF.nil ?_ | refine AWq.draw (by decide +kernel) ?_ | (refine Both.mk ?_ ?_ <;> intro hc <;> (first | exact Bool.noConfusion hc | exact absurd (by with_reducible rfl) hc | exact (hc : False).elim | exact absurd (by assumption) hc | exact absurd hc (by assumption) | (exfalso; omega) | exact absurd hc (by decide) | skip)) | (intro c hc; (try (simp only [AH.none_iff] at hc; repeat (have hn := hc.1; replace hc := hc.2))); (first | (have hc2 := Eq.trans hc (by with_reducible assumption); clear hc; subst hc2) | (refine i64_k hc ?_ ?_ ?_ ; omega; omega; (clear hc; intro hc; subst hc)) | (refine u64_k hc ?_ ?_ ?_ ; omega; omega; (clear hc; intro hc; subst hc)) | (refine u8_k hc ?_ ?_ ?_ ; omega; omega; (clear hc; intro hc; subst hc)) | subst hc | skip)) | (apply Exists.intro; apply And.intro; (focus (repeat (first | assumption | exact AH.set_same _ _ _ | ((first | refine AH.get_ne ?_ ?_ | refine AH.getd_ne ?_ ?_); (first | assumption | omega | exact Ne.symm (by assumption) | exact AH.ne_none (by assumption) (by assumption) | exact AH.none_ne (by assumption) (by assumption) | exact (AH.none_set (by assumption)).1 | exact Ne.symm (AH.none_set (by assumption)).1)))); done)) | (apply Exists.intro; apply And.intro; first | (with_reducible assumption) | ((try simp only [List.getElem?_drop, Nat.mul_one, Nat.add_zero, Nat.zero_add]); first | (with_reducible assumption) | (refine u8s_get ?_; omega) | (refine iS_get ?_; omega) | assumption | rfl | fail)) | (apply And.intro; (first | rfl | (with_reducible assumption) | exact Nat.le_of_ble_eq_true rfl | omega | (exact Int.ofNat_lt.2 (Nat.lt_of_lt_of_eq (by with_reducible assumption) (by decide +kernel))) | assumption | (simp <;> fail) | (simp <;> omega) | (focus (repeat' (first | exact one_u8s _ | exact one_iS _ _ | rfl | apply one_take | apply one_drop | apply one_append)); done) | fail)) | fail)) <;> (try (conv => whnf))
        exact ⟨k, ⟨by omega, by omega⟩, by omega, ⟨congrArg (AV.int .i64) (by omega), trivial⟩, HLe.refl _⟩
      · have hb0 : ¬ b = 0 := fun e => hz (by rw [hB, e]; rfl)
        rw [if_neg hb0] at h2'
        (repeat' ((conv => whnf); first | refine Then.mk ?_ | left | refine OpsA.cons ?_ | refine OpsA.nil ?_ | refine AWq.seq ?_ | refine AWq.region ?_ | refine AWq.cond ?_ | refine AWq.block ?_ | refine AWq.skip ?_ | refine AWq.scope ?_ | refine AWq.label ?_ | refine AWq.ret ?_ | refine AWq.exit ?_ | refine AWq.loop ?_ | refine AWq.rangeFunc ?_ | refine DrawA.consD ?_ | refine DrawA.nil ?_ | refine DrawL.consD ?_ | refine DrawL.nil ?_ | refine DrawF.consD ?_ | refine DrawF.nil ?_ | refine AWq.draw (by decide +kernel) ?_ | (refine Both.mk ?_ ?_ <;> intro hc <;> (first | exact Bool.noConfusion hc | exact absurd (by with_reducible rfl) hc | exact (hc : False).elim | exact absurd (by assumption) hc | exact absurd hc (by assumption) | (exfalso; omega) | exact absurd hc (by decide) | skip)) | (intro c hc; (try (simp only [AH.none_iff] at hc; repeat (have hn := hc.1; replace hc := hc.2))); (first | (have hc2 := Eq.trans hc (by with_reducible assumption); clear hc; subst hc2) | (refine i64_k hc ?_ ?_ ?_ ; omega; omega; (clear hc; intro hc; subst hc)) | (refine u64_k hc ?_ ?_ ?_ ; omega; omega; (clear hc; intro hc; subst hc)) | (refine u8_k hc ?_ ?_ ?_ ; omega; omega; (clear hc; intro hc; subst hc)) | subst hc | skip)) | (apply Exists.intro; apply And.intro; (focus (repeat (first | assumption | exact AH.set_same _ _ _ | ((first | refine AH.get_ne ?_ ?_ | refine AH.getd_ne ?_ ?_); (first | assumption | omega | exact Ne.symm (by assumption) | exact AH.ne_none (by assumption) (by assumption) | exact AH.none_ne (by assumption) (by assumption) | exact (AH.none_set (by assumption)).1 | exact Ne.symm (AH.none_set (by assumption)).1)))); done)) | (apply Exists.intro; apply And.intro; first | (with_reducible assumption) | ((try simp only [List.getElem?_drop, Nat.mul_one, Nat.add_zero, Nat.zero_add]); first | (with_reducible assumption) | (refine u8s_get ?_; omega) | (refine iS_get ?_; omega) | assumption | rfl | fail)) | (apply And.intro; (first | rfl | (with_reducible assumption) | exact Nat.le_of_ble_eq_true rfl | omega | (exact Int.ofNat_lt.2 (Nat.lt_of_lt_of_eq (by with_reducible assumption) (by decide +kernel))) | assumption | (simp <;> fail) | (simp <;> omega) | (focus (repeat' (first | exact one_u8s _ | exact one_iS _ _ | rfl | apply one_take | apply one_drop | apply one_append)); done) | fail)) | fail)) <;> (try (conv => whnf))
        exact fin (k + 1) (by omega) (by omega)
end Go.Proofs.Ytgmooalikccbiaa
