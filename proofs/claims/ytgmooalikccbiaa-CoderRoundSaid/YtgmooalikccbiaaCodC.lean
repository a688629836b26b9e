/- The plain law of the coder, on: integers. -/
import Derived.Test.YtgmooalikccbiaaCodB
namespace Go.Proofs.Ytgmooalikccbiaa
open Go.Fw Go
set_option linter.unusedVariables false
set_option linter.unusedSimpArgs false

/-- How many binary digits. -/
def lenB (u : Nat) : Nat := if u = 0 then 0 else Nat.log2 u + 1
theorem lenB_le {u : Nat} (h : u < 2 ^ 64) : lenB u ≤ 64 := by
  unfold lenB
  split
  · omega
  · rename_i h0
    have := (Nat.log2_lt h0).2 h
    omega
theorem lenB_lt (u : Nat) : u < 2 ^ lenB u := by
  unfold lenB
  split
  · rename_i h; rw [h]; decide
  · exact Nat.lt_log2_self
theorem lenB_top {u : Nat} (h : u ≠ 0) : 2 ^ (lenB u - 1) ≤ u := by
  unfold lenB
  rw [if_neg h]
  exact Nat.log2_self_le h

/-- The integers folded. -/
def fold (x : Int) : Nat := if 0 ≤ x then (2 * x).toNat else (-2 * x - 1).toNat
def unfold' (u : Nat) : Int := if u % 2 = 0 then ((u / 2 : Nat) : Int) else -((u / 2 : Nat) : Int) - 1
theorem unfold_fold (x : Int) : unfold' (fold x) = x := by
  unfold unfold' fold
  split <;> split <;> omega
theorem fold_unfold (u : Nat) : fold (unfold' u) = u := by
  unfold unfold' fold
  split <;> split <;> omega
theorem fold_lt {x : Int} (h : -9223372036854775808 ≤ x ∧ x ≤ 9223372036854775807) : fold x < 2 ^ 64 := by
  unfold fold
  have : (2 : Nat) ^ 64 = 18446744073709551616 := by decide
  split <;> omega

/-- The digits below the first one, so many of them, written. -/
def bitE (σ : Cs) (u k : Nat) : Cs := stp σ (u / 2 ^ k % 2) 1 2
def bitsE (u : Nat) : Nat → Cs → Cs
  | 0, σ => σ
  | k + 1, σ => bitsE u k (bitE σ u k)
theorem bit_st (u k : Nat) : StOk (u / 2 ^ k % 2) 1 2 := ⟨by omega, by omega, by omega⟩
theorem bitE_ok {σ : Cs} (h : CsOk σ) (u k : Nat) : CsOk (bitE σ u k) := stp_ok h (bit_st u k)
theorem bitsE_ok (u : Nat) : ∀ (k : Nat) {σ : Cs}, CsOk σ → CsOk (bitsE u k σ)
  | 0, _, h => h
  | k + 1, _, h => bitsE_ok u k (bitE_ok h u k)

/-- Models, the coder, and the last class. -/
structure Is where
  E : Es
  b : Nat
def is0 : Is := ⟨es0, 0⟩
structure IsOk (I : Is) : Prop where
  es : EsOk 65 I.E
  b : I.b ≤ 64
theorem is0_ok : IsOk is0 := ⟨es0_ok (by omega), by decide⟩
def intI (I : Is) (u : Nat) : Is :=
  ⟨⟨(symE 65 I.E I.b (lenB u)).M, bitsE u (lenB u - 1) (symE 65 I.E I.b (lenB u)).σ⟩, lenB u⟩
theorem IsOk.step {I : Is} (h : IsOk I) {u : Nat} (hu : u < 2 ^ 64) : IsOk (intI I u) := by
  have hl := lenB_le hu
  have := h.es.sym I.b (s := lenB u) (by omega)
  exact ⟨⟨this.md, bitsE_ok u _ this.cs⟩, hl⟩
def intsI (us : List Nat) (I : Is) : Is := us.foldl intI I
theorem intsI_ok : ∀ {us : List Nat} {I : Is}, (∀ u ∈ us, u < 2 ^ 64) → IsOk I → IsOk (intsI us I)
  | [], _, _, h => h
  | u :: us, I, hu, h => intsI_ok (us := us) (fun v hv => hu v (by simp [hv])) (h.step (hu u (by simp)))
theorem intsI_snoc (us : List Nat) (u : Nat) (I : Is) : intsI (us ++ [u]) I = intI (intsI us I) u := by
  unfold intsI; rw [List.foldl_append]; rfl

def intsS (l : List Int) : List UInt8 × Int :=
  if l.length ≤ 65536 then (codeS (intsI (l.map fold) is0).E.σ, 0) else ([], 4)

/-- One is led to another by steps. -/
inductive Leads : Cs → Cs → Prop
  | refl {σ : Cs} : Leads σ σ
  | step {σ τ : Cs} {p c t : Nat} (h : StOk p c t) (r : Leads (stp σ p c t) τ) : Leads σ τ
theorem Leads.trans {a b c : Cs} (h : Leads a b) (k : Leads b c) : Leads a c := by
  induction h with
  | refl => exact k
  | step h _ ih => exact .step h (ih k)
theorem Leads.lies {σ τ : Cs} (h : Leads σ τ) (hc : CsOk σ) (ht : CsOk τ) : Lies σ τ := by
  induction h with
  | refl => exact Lies.refl hc
  | step h _ ih => exact (Lies.step hc h (ih (stp_ok hc h) ht)).1
theorem bitsE_leads (u : Nat) : ∀ (k : Nat) (σ : Cs), Leads σ (bitsE u k σ)
  | 0, _ => .refl
  | k + 1, σ => .step (bit_st u k) (bitsE_leads u k _)
theorem intI_leads {I : Is} (h : IsOk I) {u : Nat} (hu : u < 2 ^ 64) : Leads I.E.σ (intI I u).E.σ := by
  have hl := lenB_le hu
  exact .step (h.es.st I.b (s := lenB u) (by omega)) (bitsE_leads u _ _)
theorem intsI_leads : ∀ {us : List Nat} {I : Is}, (∀ u ∈ us, u < 2 ^ 64) → IsOk I → Leads I.E.σ (intsI us I).E.σ
  | [], _, _, _ => .refl
  | u :: us, I, hu, h => (intI_leads h (hu u (by simp))).trans (intsI_leads (us := us) (fun v hv => hu v (by simp [hv])) (h.step (hu u (by simp))))

/-- So many digits are read behind a number. -/
def rdBits (b : List UInt8) : Nat → Nat × Cs → Option (Nat × Cs)
  | 0, x => some x
  | k + 1, (u, σ) => if atR b σ 2 < 2 then rdBits b k (u * 2 + atR b σ 2, stp σ (atR b σ 2) 1 2) else none
def rdInt (b : List UInt8) (I : Is) : Option (Nat × Is) :=
  match decSym 65 b I.E I.b with
  | none => none
  | some (s, E) => match rdBits b (s - 1) (min s 1, E.σ) with
    | none => none
    | some (u, σ) => some (u, ⟨⟨E.M, σ⟩, s⟩)
def rdSt (b : List UInt8) : Nat → Option (Is × List Int)
  | 0 => some (is0, [])
  | i + 1 => match rdSt b i with
    | none => none
    | some (I, out) => match rdInt b I with
      | none => none
      | some (u, I') => some (I', out ++ [unfold' u])
def readS (b : List UInt8) (count : Int) : List Int × Int :=
  if 0 ≤ count ∧ count ≤ 65536 then
    match rdSt b count.toNat with
    | none => ([], 2)
    | some (_, out) => if (intsS out).1 = b then (out, 0) else ([], 2)
  else ([], 4)

theorem rdBits_ok {b : List UInt8} : ∀ (k : Nat) {u v : Nat} {σ τ : Cs}, CsOk σ → RdOk b σ → rdBits b k (u, σ) = some (v, τ) →
    CsOk τ ∧ RdOk b τ ∧ v / 2 ^ k = u ∧ τ = bitsE v k σ
  | 0, u, v, σ, τ, hc, hr, h => by
    cases h
    exact ⟨hc, hr, by simp, rfl⟩
  | k + 1, u, v, σ, τ, hc, hr, h => by
    unfold rdBits at h
    split at h
    · rename_i hlt
      have hs : StOk (atR b σ 2) 1 2 := ⟨by omega, by omega, by omega⟩
      obtain ⟨h1, h2, h3, h4⟩ := rdBits_ok k (stp_ok hc hs) (hr.step hc hs (Nat.le_refl _) (by omega)).1 h
      refine ⟨h1, h2, ?_, ?_⟩
      · rw [Nat.pow_succ, ← Nat.div_div_eq_div_mul, h3]; omega
      · rw [h4]
        show bitsE v k _ = bitsE v k (stp σ (v / 2 ^ k % 2) 1 2)
        rw [h3, show (u * 2 + atR b σ 2) % 2 = atR b σ 2 by omega]
    · cases h
theorem lenB_of {u s : Nat} (h : u / 2 ^ (s - 1) = min s 1) : lenB u = s := by
  by_cases e : s = 0
  · subst e
    simp at h
    rw [h]; rfl
  · have hs : min s 1 = 1 := by omega
    rw [hs] at h
    have hp : 0 < 2 ^ (s - 1) := Nat.pow_pos (by decide)
    have h1 : 2 ^ (s - 1) ≤ u := by
      have := Nat.div_mul_le_self u (2 ^ (s - 1))
      rw [h] at this; omega
    have h2 : u < 2 ^ s := by
      have : u < (u / 2 ^ (s - 1) + 1) * 2 ^ (s - 1) := by
        rw [Nat.mul_comm]; exact Nat.lt_mul_div_succ u hp
      rw [h] at this
      rw [show s = (s - 1) + 1 by omega, Nat.pow_succ]; omega
    have h0 : u ≠ 0 := by omega
    unfold lenB
    rw [if_neg h0]
    have a1 := (Nat.le_log2 h0).2 h1
    have a2 := (Nat.log2_lt h0).2 h2
    omega
theorem rdInt_ok {b : List UInt8} {I I' : Is} {u : Nat} (h : IsOk I) (hr : RdOk b I.E.σ) (hd : rdInt b I = some (u, I')) : u < 2 ^ 64 ∧ I' = intI I u ∧ RdOk b I'.E.σ := by
  unfold rdInt at hd
  split at hd
  · cases hd
  · rename_i s E hs
    obtain ⟨h1, h2, h3⟩ := decSym_ok h.es hr hs
    have hE := h.es.sym I.b h1
    rw [← h2] at hE
    split at hd
    · cases hd
    · rename_i v σ hb
      have hd := Option.some.inj hd
      have e1 := congrArg Prod.fst hd
      have e2 := congrArg Prod.snd hd
      dsimp only at e1 e2
      subst e1
      obtain ⟨k1, k2, k3, k4⟩ := rdBits_ok (s - 1) hE.cs h3 hb
      have hl := lenB_of k3
      refine ⟨Nat.lt_of_lt_of_le (lenB_lt v) (by rw [hl]; exact Nat.pow_le_pow_right (by decide) (by omega)), ?_, ?_⟩
      · rw [← e2]
        unfold intI
        rw [hl, ← h2, ← k4]
      · rw [← e2]; exact k2
structure RdsOk (b : List UInt8) (i : Nat) (I : Is) (out : List Int) : Prop where
  is : IsOk I
  rd : RdOk b I.E.σ
  len : out.length = i
  run : intsI (out.map fold) is0 = I
  bd : ∀ x ∈ out, -9223372036854775808 ≤ x ∧ x ≤ 9223372036854775807
theorem unfold_bd {u : Nat} (h : u < 2 ^ 64) : -9223372036854775808 ≤ unfold' u ∧ unfold' u ≤ 9223372036854775807 := by
  have : (2 : Nat) ^ 64 = 18446744073709551616 := by decide
  unfold unfold'
  split <;> omega
theorem rdSt_ok {b : List UInt8} : ∀ {i : Nat} {I : Is} {out : List Int}, rdSt b i = some (I, out) → RdsOk b i I out
  | 0, I, out, h => by
    have h := Option.some.inj h
    have e1 := congrArg Prod.fst h
    have e2 := congrArg Prod.snd h
    dsimp only at e1 e2
    subst e1 e2
    exact ⟨is0_ok, rd0_ok b, rfl, rfl, fun x hx => by cases hx⟩
  | i + 1, I, out, h => by
    unfold rdSt at h
    split at h
    · cases h
    · rename_i I0 out0 h0
      have ih := rdSt_ok h0
      split at h
      · cases h
      · rename_i u I' hu
        obtain ⟨k1, k2, k3⟩ := rdInt_ok ih.is ih.rd hu
        have h := Option.some.inj h
        have e1 := congrArg Prod.fst h
        have e2 := congrArg Prod.snd h
        dsimp only at e1 e2
        subst e1 e2
        have hl := ih.len
        refine ⟨by rw [k2]; exact ih.is.step k1, k3, by simp [hl], ?_, ?_⟩
        · rw [List.map_append, List.map_singleton, intsI_snoc, ih.run, fold_unfold, k2]
        · intro x hx
          rcases List.mem_append.1 hx with h | h
          · exact ih.bd x h
          · have : x = unfold' u := by simpa using h
            rw [this]; exact unfold_bd k1

/-- The digits are read as they were written. -/
theorem rdBits_enc {τ : Cs} (ht : CsOk τ) (u : Nat) : ∀ (k : Nat) (σ : Cs), CsOk σ → Leads (bitsE u k σ) τ → rdBits (codeS τ) k (u / 2 ^ k, σ) = some (u, bitsE u k σ)
  | 0, σ, _, _ => by simp [rdBits, bitsE]
  | k + 1, σ, hc, hl => by
    have hs := bit_st u k
    have hl2 : Leads (stp σ (u / 2 ^ k % 2) 1 2) τ := (bitsE_leads u k _).trans hl
    obtain ⟨a1, a2⟩ := Lies.at hc ht hs (hl2.lies (stp_ok hc hs) ht)
    have hat : atR (codeS τ) σ 2 = u / 2 ^ k % 2 := by unfold atR; omega
    unfold rdBits bitsE bitE
    rw [hat, if_pos (by omega), show u / 2 ^ (k + 1) * 2 + u / 2 ^ k % 2 = u / 2 ^ k by rw [Nat.pow_succ, ← Nat.div_div_eq_div_mul]; omega]
    exact rdBits_enc ht u k _ (stp_ok hc hs) hl
theorem top_bit {u : Nat} : u / 2 ^ (lenB u - 1) = min (lenB u) 1 := by
  by_cases h : u = 0
  · subst h; rfl
  · have h1 := lenB_top h
    have h2 := lenB_lt u
    have h3 : 1 ≤ lenB u := by unfold lenB; rw [if_neg h]; omega
    rw [show lenB u = (lenB u - 1) + 1 by omega, Nat.pow_succ] at h2
    have hp : 0 < 2 ^ (lenB u - 1) := Nat.pow_pos (by decide)
    have a1 : 1 ≤ u / 2 ^ (lenB u - 1) := (Nat.le_div_iff_mul_le hp).2 (by omega)
    have a2 : u / 2 ^ (lenB u - 1) < 2 := (Nat.div_lt_iff_lt_mul hp).2 (by omega)
    omega
theorem rdInt_enc {τ : Cs} (ht : CsOk τ) {I : Is} (h : IsOk I) {u : Nat} (hu : u < 2 ^ 64) (hl : Leads (intI I u).E.σ τ) : rdInt (codeS τ) I = some (u, intI I u) := by
  have hb := lenB_le hu
  have hs := h.es.st I.b (s := lenB u) (by omega)
  have hE := h.es.sym I.b (s := lenB u) (by omega)
  have hl1 : Leads (symE 65 I.E I.b (lenB u)).σ τ := (bitsE_leads u _ _).trans hl
  obtain ⟨a1, a2⟩ := Lies.at h.es.cs ht hs (hl1.lies hE.cs ht)
  have hf : fnd (I.E.M I.b) (atR (codeS τ) I.E.σ (plc (I.E.M I.b) 65)) 65 = lenB u := fnd_eq (by omega) a1 a2
  have hlt : atR (codeS τ) I.E.σ (plc (I.E.M I.b) 65) < plc (I.E.M I.b) 65 := Nat.lt_of_lt_of_le a2 (plc_one (by omega))
  have hd : decSym 65 (codeS τ) I.E I.b = some (lenB u, symE 65 I.E I.b (lenB u)) := by
    unfold decSym
    rw [if_pos hlt, hf]
  unfold rdInt
  rw [hd]
  dsimp only
  rw [← top_bit, rdBits_enc ht u _ _ hE.cs hl]
  rfl
theorem rdSt_enc {us : List Nat} (hus : ∀ u ∈ us, u < 2 ^ 64) : ∀ (i : Nat), i ≤ us.length → rdSt (codeS (intsI us is0).E.σ) i = some (intsI (us.take i) is0, (us.take i).map unfold')
  | 0, _ => rfl
  | i + 1, hi => by
    have hil : i < us.length := by omega
    have ht : IsOk (intsI us is0) := intsI_ok hus is0_ok
    have htk : us.take (i + 1) = us.take i ++ [us[i]] := by rw [List.take_add_one, List.getElem?_eq_getElem hil]; rfl
    have hI : IsOk (intsI (us.take i) is0) := intsI_ok (fun u hu => hus u (List.mem_of_mem_take hu)) is0_ok
    have hI1 : IsOk (intsI (us.take (i + 1)) is0) := intsI_ok (fun u hu => hus u (List.mem_of_mem_take hu)) is0_ok
    have hall : intsI (us.drop (i + 1)) (intsI (us.take (i + 1)) is0) = intsI us is0 := by
      unfold intsI
      rw [← List.foldl_append, List.take_append_drop]
    have hl : Leads (intsI (us.take (i + 1)) is0).E.σ (intsI us is0).E.σ := by
      rw [← hall]
      exact intsI_leads (fun u hu => hus u (List.mem_of_mem_drop hu)) hI1
    rw [htk, intsI_snoc] at hl
    unfold rdSt
    rw [rdSt_enc hus i (by omega)]
    dsimp only
    rw [rdInt_enc ht.es.cs hI (hus _ (List.getElem_mem hil)) hl, htk, intsI_snoc, List.map_append, List.map_singleton]
theorem read_round {l : List Int} (hl : l.length ≤ 65536) (hb : ∀ x ∈ l, -9223372036854775808 ≤ x ∧ x ≤ 9223372036854775807) : readS (intsS l).1 l.length = (l, 0) := by
  have hus : ∀ u ∈ l.map fold, u < 2 ^ 64 := fun u hu => by
    obtain ⟨x, hx, rfl⟩ := List.mem_map.1 hu
    exact fold_lt (hb x hx)
  have h1 : (intsS l).1 = codeS (intsI (l.map fold) is0).E.σ := by unfold intsS; rw [if_pos hl]
  have h2 := rdSt_enc hus l.length (by simp)
  have h3 : ((l.map fold).take l.length).map unfold' = l := by
    rw [List.take_of_length_le (by simp), List.map_map]
    have : (unfold' ∘ fold) = id := by funext x; exact unfold_fold x
    rw [this]; simp
  unfold readS
  rw [if_pos (by omega), Int.toNat_natCast]
  rw [h1, h2]
  dsimp only
  rw [h3, h1, if_pos rfl]
end Go.Proofs.Ytgmooalikccbiaa
