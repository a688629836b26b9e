/- The plain law of the coder, on: what Encode and Decode come to, and that the one undoes the other. -/
import Derived.Test.YtgmooalikccbiaaCodA
namespace Go.Proofs.Ytgmooalikccbiaa
open Go.Fw Go
set_option linter.unusedVariables false
set_option linter.unusedSimpArgs false

def inN (x : Int) (n : Nat) : Prop := 0 ≤ x ∧ x < n
instance (x : Int) (n : Nat) : Decidable (inN x n) := inferInstanceAs (Decidable (_ ∧ _))

/-- After so many symbols. -/
def encSt (n many : Nat) (sy cx : List Int) : Nat → Option Es
  | 0 => some es0
  | i + 1 => match encSt n many sy cx i with
    | none => none
    | some E => if inN (sy.getD i 0) n ∧ inN (cx.getD i 0) many then some (symE n E (cx.getD i 0).toNat (sy.getD i 0).toNat) else none

theorem encSt_ok {n many : Nat} (hn : n ≤ 1024) {sy cx : List Int} : ∀ {i : Nat} {E : Es}, encSt n many sy cx i = some E → EsOk n E
  | 0, E, h => by cases h; exact es0_ok hn
  | i + 1, E, h => by
    unfold encSt at h
    cases hh : encSt n many sy cx i with
    | none => rw [hh] at h; cases h
    | some E' =>
      rw [hh] at h
      have ih := encSt_ok hn hh
      dsimp only at h
      split at h
      · rename_i hc
        cases h
        exact ih.sym _ (by have := hc.1.2; have := hc.1.1; omega)
      · cases h
theorem encSt_some {n many : Nat} {sy cx : List Int} {m : Nat} (h : ∀ i, i < m → inN (sy.getD i 0) n ∧ inN (cx.getD i 0) many) : ∀ i, i ≤ m → ∃ E, encSt n many sy cx i = some E
  | 0, _ => ⟨_, rfl⟩
  | i + 1, hi => by
    obtain ⟨E, hE⟩ := encSt_some h i (by omega)
    unfold encSt
    rw [hE]
    dsimp only
    rw [if_pos (h i (by omega))]
    exact ⟨_, rfl⟩
theorem encSt_in {n many : Nat} {sy cx : List Int} : ∀ {i : Nat} {E : Es}, encSt n many sy cx i = some E → ∀ j, j < i → inN (sy.getD j 0) n ∧ inN (cx.getD j 0) many
  | 0, _, _, j, hj => by omega
  | i + 1, E, h, j, hj => by
    unfold encSt at h
    cases hh : encSt n many sy cx i with
    | none => rw [hh] at h; cases h
    | some E' =>
      rw [hh] at h
      dsimp only at h
      split at h
      · rename_i hc
        by_cases e : j = i
        · rw [e]; exact hc
        · exact encSt_in hh j (by omega)
      · cases h
theorem encSt_congr {n many : Nat} {sy cx sy' cx' : List Int} : ∀ {i : Nat}, (∀ j, j < i → sy.getD j 0 = sy'.getD j 0 ∧ cx.getD j 0 = cx'.getD j 0) → encSt n many sy cx i = encSt n many sy' cx' i
  | 0, _ => rfl
  | i + 1, h => by
    unfold encSt
    rw [encSt_congr (i := i) (fun j hj => h j (by omega)), (h i (by omega)).1, (h i (by omega)).2]

def SizesP (n many : Int) : Prop := 1 ≤ n ∧ n ≤ 1024 ∧ 1 ≤ many ∧ many ≤ 256
instance (n many : Int) : Decidable (SizesP n many) := inferInstanceAs (Decidable (_ ∧ _))

def encS (n many : Int) (sy cx : List Int) : List UInt8 × Int :=
  if SizesP n many ∧ sy.length = cx.length then
    if sy.length ≤ 65536 then
      match encSt n.toNat many.toNat sy cx sy.length with
      | some E => (codeS E.σ, 0)
      | none => ([], 5)
    else ([], 4)
  else ([], 1)

/-- The symbol at a place among the counts. -/
def fnd (c : Nat → Nat) (x n : Nat) : Nat := ((List.range n).find? fun s => decide (x < plc c (s + 1))).getD 0
theorem fnd_ok {c : Nat → Nat} {x n : Nat} (h : x < plc c n) : fnd c x n < n ∧ plc c (fnd c x n) ≤ x ∧ x < plc c (fnd c x n + 1) := by
  have hn : 0 < n := by
    cases n with
    | zero => simp [plc] at h
    | succ n => omega
  unfold fnd
  cases hf : (List.range n).find? fun s => decide (x < plc c (s + 1)) with
  | none =>
    rw [List.find?_eq_none] at hf
    have := hf (n - 1) (by simp; omega)
    rw [show n - 1 + 1 = n by omega] at this
    simp at this; omega
  | some s =>
    have h1 := List.find?_some hf
    have h2 := List.mem_of_find?_eq_some hf
    simp at h1 h2
    refine ⟨h2, ?_, h1⟩
    show plc c s ≤ x
    by_cases e : s = 0
    · rw [e]; exact Nat.zero_le _
    · rw [List.find?_eq_some_iff_append] at hf
      obtain ⟨_, xs, ys, hab, hlt⟩ := hf
      have hl : xs.length = s := by
        have := congrArg (fun l => l[xs.length]?) hab
        simp at this
        rw [List.getElem?_eq_some_iff] at this
        obtain ⟨hx, hy⟩ := this
        simpa using hy
      have hm : s - 1 ∈ xs := by
        have h3 : (List.range n)[s - 1]? = xs[s - 1]? := by rw [hab, List.getElem?_append_left (by omega)]
        rw [List.getElem?_range (by omega)] at h3
        exact List.mem_of_getElem? h3.symm
      have := hlt (s - 1) hm
      rw [show s - 1 + 1 = s by omega] at this
      simp at this; exact this
theorem fnd_eq {c : Nat → Nat} {x n s : Nat} (hs : s < n) (h1 : plc c s ≤ x) (h2 : x < plc c (s + 1)) : fnd c x n = s := by
  obtain ⟨a, b, d⟩ := fnd_ok (c := c) (x := x) (n := n) (Nat.lt_of_lt_of_le h2 (plc_le (c := c) (a := s + 1) hs))
  generalize fnd c x n = t at *
  by_cases e : t < s
  · have := plc_le (c := c) (a := t + 1) (b := s) e; omega
  · by_cases e2 : s < t
    · have := plc_le (c := c) (a := s + 1) (b := t) e2; omega
    · omega

/-- One symbol is read: none where the code lies in no part of the range. -/
def atR (b : List UInt8) (σ : Cs) (t : Nat) : Nat := k_lowR b σ / (σ.W / t)
def decSym (n : Nat) (b : List UInt8) (E : Es) (k : Nat) : Option (Nat × Es) :=
  if atR b E.σ (plc (E.M k) n) < plc (E.M k) n then
    some (fnd (E.M k) (atR b E.σ (plc (E.M k) n)) n, symE n E k (fnd (E.M k) (atR b E.σ (plc (E.M k) n)) n))
  else none

/-- A reader is well: it is not behind its range. -/
structure RdOk (b : List UInt8) (σ : Cs) : Prop where
  le : σ.V ≤ bv b (σ.L + 4)
  lt : bv b (σ.L + 4) < σ.V + σ.W
theorem rd0_ok (b : List UInt8) : RdOk b cs0 := by
  refine ⟨Nat.zero_le _, ?_⟩
  have := bv_lt b 4
  rw [show (256 : Nat) ^ 4 = 4294967296 by decide] at this
  show bv b 4 < 0 + 4294967296
  omega
theorem bv_more (b : List UInt8) (j : Nat) : ∀ d, bv b j * 256 ^ d ≤ bv b (j + d) ∧ bv b (j + d) < (bv b j + 1) * 256 ^ d
  | 0 => by simp
  | d + 1 => by
    obtain ⟨h1, h2⟩ := bv_more b j d
    have h3 : (b.getD (j + d) 0).toNat < 256 := (b.getD (j + d) 0).toNat_lt
    have e : ∀ x, x * 256 ^ (d + 1) = x * 256 ^ d * 256 := fun x => by rw [Nat.pow_succ, Nat.mul_assoc]
    have e2 : bv b (j + (d + 1)) = bv b (j + d) * 256 + (b.getD (j + d) 0).toNat := rfl
    rw [e, e, e2]
    omega
theorem RdOk.low {b : List UInt8} {σ : Cs} (h : RdOk b σ) : k_lowR b σ < σ.W := by
  have := h.le; have := h.lt
  unfold k_lowR; omega
/-- A step is read, where the code lies in it. -/
theorem RdOk.step {b : List UInt8} {σ : Cs} (h : RdOk b σ) (hc : CsOk σ) {p c t : Nat} (hs : StOk p c t) (h1 : p ≤ atR b σ t) (h2 : atR b σ t < p + c) : RdOk b (stp σ p c t) ∧ σ.W / t * p ≤ k_lowR b σ ∧ k_lowR b σ < σ.W / t * p + σ.W / t * c := by
  obtain ⟨d, hd, he, _⟩ := stp_ex hc hs
  obtain ⟨r1, _, _⟩ := nrw_r hc (t := t) (by have := hs.c1; have := hs.pc; omega) hs.t1
  unfold atR at h1 h2
  rw [Nat.le_div_iff_mul_le (by omega), Nat.mul_comm] at h1
  rw [Nat.div_lt_iff_lt_mul (by omega), Nat.mul_comm, Nat.mul_add] at h2
  refine ⟨?_, h1, h2⟩
  rw [he]
  have hle := h.le
  unfold k_lowR at h1 h2
  have a1 : σ.V + σ.W / t * p ≤ bv b (σ.L + 4) := by omega
  have a2 : bv b (σ.L + 4) + 1 ≤ σ.V + σ.W / t * p + σ.W / t * c := by omega
  obtain ⟨m1, m2⟩ := bv_more b (σ.L + 4) d
  refine ⟨?_, ?_⟩
  · show (σ.V + σ.W / t * p) * 256 ^ d ≤ bv b (σ.L + d + 4)
    rw [show σ.L + d + 4 = σ.L + 4 + d by omega]
    exact Nat.le_trans (Nat.mul_le_mul_right _ a1) m1
  · show bv b (σ.L + d + 4) < (σ.V + σ.W / t * p) * 256 ^ d + σ.W / t * c * 256 ^ d
    rw [show σ.L + d + 4 = σ.L + 4 + d by omega, ← Nat.add_mul]
    exact Nat.lt_of_lt_of_le m2 (Nat.mul_le_mul_right _ a2)
theorem decSym_ok {n : Nat} {b : List UInt8} {E : Es} (h : EsOk n E) (hr : RdOk b E.σ) {k s : Nat} {E' : Es} (hd : decSym n b E k = some (s, E')) : s < n ∧ E' = symE n E k s ∧ RdOk b E'.σ := by
  unfold decSym at hd
  split at hd
  · rename_i hlt
    obtain ⟨f1, f2, f3⟩ := fnd_ok hlt
    have he := Option.some.inj hd
    have e1 := congrArg Prod.fst he
    have e2 := congrArg Prod.snd he
    dsimp only at e1 e2
    rw [e1] at f1 f2 f3 e2
    refine ⟨f1, e2.symm, ?_⟩
    rw [← e2]
    exact (hr.step h.cs (h.st k f1) f2 f3).1
  · cases hd

/-- Decode, so far: the models, the symbols; else the error. -/
def decSt (n many : Nat) (ctx : Nat → List Int → Int) (b : List UInt8) : Nat → Except Int (Es × List Int)
  | 0 => .ok (es0, [])
  | i + 1 => match decSt n many ctx b i with
    | .error e => .error e
    | .ok (E, out) => if inN (ctx i out) many then
        (match decSym n b E (ctx i out).toNat with
         | some (s, E') => .ok (E', out ++ [(s : Int)])
         | none => .error 2)
      else .error 5
/-- The contexts that symbols have. -/
def ctxs (ctx : Nat → List Int → Int) (sy : List Int) : List Int := (List.range sy.length).map fun i => ctx i (sy.take i)
@[simp] theorem ctxs_len (ctx : Nat → List Int → Int) (sy : List Int) : (ctxs ctx sy).length = sy.length := by simp [ctxs]
theorem ctxs_getD (ctx : Nat → List Int → Int) (sy : List Int) {i : Nat} (h : i < sy.length) : (ctxs ctx sy).getD i 0 = ctx i (sy.take i) := by simp [ctxs, h]

def decS (n many count : Int) (ctx : Nat → List Int → Int) (b : List UInt8) : List Int × Int :=
  if SizesP n many then
    if 0 ≤ count ∧ count ≤ 65536 then
      match decSt n.toNat many.toNat ctx b count.toNat with
      | .error e => ([], e)
      | .ok (_, out) => if (encS n many out (ctxs ctx out)).1 = b then (out, 0) else ([], 2)
    else ([], 4)
  else ([], 1)

structure DecOk (n many : Nat) (ctx : Nat → List Int → Int) (b : List UInt8) (i : Nat) (E : Es) (out : List Int) : Prop where
  es : EsOk n E
  rd : RdOk b E.σ
  len : out.length = i
  run : encSt n many out (ctxs ctx out) i = some E
theorem getD_app_lt {l m : List Int} {j : Nat} (h : j < l.length) : (l ++ m).getD j 0 = l.getD j 0 := by
  rw [List.getD_eq_getElem?_getD, List.getElem?_append_left h, ← List.getD_eq_getElem?_getD]
theorem getD_app_at {l : List Int} {x : Int} : (l ++ [x]).getD l.length 0 = x := by
  rw [List.getD_eq_getElem?_getD, List.getElem?_append_right (Nat.le_refl _)]; simp
theorem ctxs_snoc (ctx : Nat → List Int → Int) (l : List Int) (x : Int) : ctxs ctx (l ++ [x]) = ctxs ctx l ++ [ctx l.length l] := by
  unfold ctxs
  rw [List.length_append, List.length_singleton, List.range_succ, List.map_append]
  congr 1
  · refine List.map_congr_left fun i hi => ?_
    have : i < l.length := by simpa using hi
    rw [List.take_append_of_le_length (by omega)]
  · simp
theorem decSt_ok {n many : Nat} (hn : n ≤ 1024) {ctx : Nat → List Int → Int} {b : List UInt8} : ∀ {i : Nat} {E : Es} {out : List Int}, decSt n many ctx b i = .ok (E, out) → DecOk n many ctx b i E out
  | 0, E, out, h => by
    unfold decSt at h
    have := Except.ok.inj h
    have e1 := congrArg Prod.fst this
    have e2 := congrArg Prod.snd this
    dsimp only at e1 e2
    subst e1 e2
    exact ⟨es0_ok hn, rd0_ok b, rfl, rfl⟩
  | i + 1, E, out, h => by
    unfold decSt at h
    split at h
    · cases h
    · rename_i E0 out0 h0
      have ih := decSt_ok hn h0
      split at h
      · rename_i hc
        split at h
        · rename_i s E' hs
          obtain ⟨h1, h2, h3⟩ := decSym_ok ih.es ih.rd hs
          have := Except.ok.inj h
          have e1 := congrArg Prod.fst this
          have e2 := congrArg Prod.snd this
          dsimp only at e1 e2
          subst e1 e2
          have hl := ih.len
          refine ⟨?_, h3, by simp [hl], ?_⟩
          · rw [h2]; exact ih.es.sym _ h1
          · unfold encSt
            rw [ctxs_snoc, encSt_congr (sy' := out0) (cx' := ctxs ctx out0) (i := i) (fun j hj => ⟨getD_app_lt (by omega), getD_app_lt (by simp; omega)⟩), ih.run]
            dsimp only
            have g1 : (out0 ++ [(s : Int)]).getD i 0 = s := by rw [← hl]; exact getD_app_at
            have g2 : (ctxs ctx out0 ++ [ctx out0.length out0]).getD i 0 = ctx i out0 := by
              have : (ctxs ctx out0).length = i := by simp [hl]
              rw [← this, getD_app_at]; simp
            rw [g1, g2, if_pos ⟨⟨by omega, by omega⟩, hc⟩, h2]
            rfl
        · cases h
      · cases h

/-- The code of symbols is read as these symbols. -/
theorem dec_enc {n many : Nat} (hn : n ≤ 1024) {ctx : Nat → List Int → Int} {sy : List Int} {τ : Es} (hτ : encSt n many sy (ctxs ctx sy) sy.length = some τ) :
    ∀ i, i ≤ sy.length → ∃ E, encSt n many sy (ctxs ctx sy) i = some E ∧ decSt n many ctx (codeS τ.σ) i = .ok (E, sy.take i) := by
  have hin := encSt_in hτ
  obtain hsome := encSt_some hin
  -- from behind: the last code lies in every earlier range
  have hlies : ∀ d, d ≤ sy.length → ∀ E, encSt n many sy (ctxs ctx sy) (sy.length - d) = some E → Lies E.σ τ.σ := by
    intro d
    induction d with
    | zero =>
      intro _ E hE
      rw [Nat.sub_zero, hτ] at hE
      cases hE
      exact Lies.refl (encSt_ok hn hτ).cs
    | succ d ih =>
      intro hd E hE
      have hok := encSt_ok hn hE
      have hi := hin (sy.length - (d + 1)) (by omega)
      have hst : encSt n many sy (ctxs ctx sy) (sy.length - d) = some (symE n E ((ctxs ctx sy).getD (sy.length - (d + 1)) 0).toNat (sy.getD (sy.length - (d + 1)) 0).toNat) := by
        rw [show sy.length - d = (sy.length - (d + 1)) + 1 by omega]
        show (match encSt n many sy (ctxs ctx sy) (sy.length - (d + 1)) with | none => none | some E => _) = _
        rw [hE]
        dsimp only
        rw [if_pos hi]
      have := ih (by omega) _ hst
      exact (Lies.step hok.cs (hok.st _ (by have := hi.1.1; have := hi.1.2; omega)) this).1
  intro i
  induction i with
  | zero => intro _; exact ⟨es0, rfl, rfl⟩
  | succ i ih =>
    intro hi
    obtain ⟨E, hE, hD⟩ := ih (by omega)
    have hok := encSt_ok hn hE
    have hii := hin i (by omega)
    obtain ⟨E', hE'⟩ := hsome (i + 1) hi
    have hE2 := hE'
    unfold encSt at hE2
    rw [hE] at hE2
    dsimp only at hE2
    rw [if_pos hii] at hE2
    have hE2 := Option.some.inj hE2
    have hl := hlies (sy.length - (i + 1)) (by omega) E' (by rw [show sy.length - (sy.length - (i + 1)) = i + 1 by omega]; exact hE')
    have hs : (sy.getD i 0).toNat < n := by have := hii.1.1; have := hii.1.2; omega
    rw [← hE2] at hl
    have hat := Lies.at hok.cs (encSt_ok hn hτ).cs (hok.st _ hs) hl
    refine ⟨E', hE', ?_⟩
    unfold decSt
    rw [hD]
    dsimp only
    have hcx := ctxs_getD ctx sy (show i < sy.length by omega)
    rw [← hcx, if_pos hii.2]
    have hlt : atR (codeS τ.σ) E.σ (plc (E.M ((ctxs ctx sy).getD i 0).toNat) n) < plc (E.M ((ctxs ctx sy).getD i 0).toNat) n := Nat.lt_of_lt_of_le hat.2 (plc_one hs)
    have hf : fnd (E.M ((ctxs ctx sy).getD i 0).toNat) (atR (codeS τ.σ) E.σ (plc (E.M ((ctxs ctx sy).getD i 0).toNat) n)) n = (sy.getD i 0).toNat := fnd_eq hs hat.1 hat.2
    unfold decSym
    rw [if_pos hlt, hf]
    dsimp only
    rw [hE2]
    have hx : ((sy.getD i 0).toNat : Int) = sy.getD i 0 := Int.toNat_of_nonneg hii.1.1
    rw [hx]
    have : sy.take (i + 1) = sy.take i ++ [sy.getD i 0] := by
      have hil : i < sy.length := by omega
      rw [List.take_add_one, List.getElem?_eq_getElem hil]
      simp [hil]
    rw [this]

theorem dec_round {n many : Int} {ctx : Nat → List Int → Int} {sy : List Int} {b : List UInt8} (h : encS n many sy (ctxs ctx sy) = (b, 0)) : decS n many sy.length ctx b = (sy, 0) := by
  have h0 := h
  unfold encS at h
  split at h
  · rename_i hs
    split at h
    · rename_i hl
      split at h
      · rename_i E hE
        obtain ⟨hb, _⟩ := Prod.mk.inj h
        have hn : n.toNat ≤ 1024 := by have := hs.1.2.1; omega
        obtain ⟨E', hE', hD⟩ := dec_enc hn hE sy.length (Nat.le_refl _)
        unfold decS
        rw [if_pos hs.1, if_pos (by omega), Int.toNat_natCast, ← hb, hD]
        dsimp only
        rw [List.take_length, h0, if_pos hb.symm]
      · cases h
    · cases h
  · cases h
end Go.Proofs.Ytgmooalikccbiaa
