/- The frame of the abstract walk, part 17: whatever the order in which a region's operations are carried out. -/
import Derived.Test.YtgmooalikccbiaaFw16
import Derived.OrdersIn
set_option linter.unusedVariables false
set_option linter.unusedSimpArgs false
namespace Go.Fw
open Go.RowKit

variable {κ : KM} {F : FM} {B : Nat} {w0 w : World} {H : AH} {P : Program} {T : TT}

/-! ### Which come ahead -/
def maskOf (acc : List Nat) (es : List Edge) : Nat := es.foldl (fun s e => cond (Region.binds .any e) (s ||| 2 ^ e.on ||| acc.getD e.on 0) s) 0

theorem mask_bit (acc : List Nat) (i : Nat) : ∀ (es : List Edge) (s : Nat), (es.foldl (fun s e => cond (Region.binds .any e) (s ||| 2 ^ e.on ||| acc.getD e.on 0) s) s).testBit i = true →
    s.testBit i = true ∨ ∃ e ∈ es, Region.binds .any e = true ∧ (i = e.on ∨ (acc.getD e.on 0).testBit i = true)
  | [], s, h => .inl h
  | e :: es, s, h => by
    rcases mask_bit acc i es _ h with h | ⟨e', he, h⟩
    · dsimp only at h
      cases hb : Region.binds .any e with
      | false => rw [hb] at h; exact .inl h
      | true =>
        rw [hb] at h
        simp only [cond_true, Nat.testBit_or, Bool.or_eq_true, Nat.testBit_two_pow, decide_eq_true_eq] at h
        rcases h with (h | h) | h
        · exact .inl h
        · exact .inr ⟨e, by simp, hb, .inl h.symm⟩
        · exact .inr ⟨e, by simp, hb, .inr h⟩
    · exact .inr ⟨e', by simp [he], h⟩

theorem getD_app_left (l m : List Nat) (i d : Nat) (h : i < l.length) : (l ++ m).getD i d = l.getD i d := by
  simp only [List.getD_eq_getElem?_getD, List.getElem?_append_left h]

theorem ahead_spec (all : Array Oper) : ∀ (l : List Oper) (acc : List Nat) (k : Nat), acc.length = k → (∀ j, l[j]? = all[k + j]?) →
    (∀ j o, j < k → all[j]? = some o → ∀ i, (acc.getD j 0).testBit i = true → ∃ e ∈ o.after.toList, Region.binds .any e = true ∧ (i = e.on ∨ (acc.getD e.on 0).testBit i = true)) →
    ∀ j o, j < k + l.length → all[j]? = some o → ∀ i, ((l.foldl (fun acc o => acc ++ [maskOf acc o.after.toList]) acc).getD j 0).testBit i = true →
      ∃ e ∈ o.after.toList, Region.binds .any e = true ∧ (i = e.on ∨ ((l.foldl (fun acc o => acc ++ [maskOf acc o.after.toList]) acc).getD e.on 0).testBit i = true)
  | [], acc, k, hk, hl, h, j, o, hj, ho, i, hi => h j o (by simpa using hj) ho i hi
  | x :: l, acc, k, hk, hl, h, j, o, hj, ho, i, hi => by
    have grow : ∀ m, (acc.getD m 0).testBit i = true → ((acc ++ [maskOf acc x.after.toList]).getD m 0).testBit i = true := by
      intro m hm
      by_cases hlt : m < acc.length
      · rw [getD_app_left _ _ _ _ hlt]; exact hm
      · simp only [List.getD_eq_getElem?_getD, List.getElem?_eq_none (Nat.le_of_not_lt hlt), Option.getD_none, Nat.zero_testBit] at hm; cases hm
    refine ahead_spec all l (acc ++ [maskOf acc x.after.toList]) (k + 1) (by simp [hk]) (fun m => by have := hl (m + 1); simp at this; rw [this]; congr 1; omega) ?_ j o (by simp at hj; omega) ho i hi
    intro j' o' hj' ho' i' hi'
    have grow' : ∀ m, (acc.getD m 0).testBit i' = true → ((acc ++ [maskOf acc x.after.toList]).getD m 0).testBit i' = true := by
      intro m hm
      by_cases hlt : m < acc.length
      · rw [getD_app_left _ _ _ _ hlt]; exact hm
      · simp only [List.getD_eq_getElem?_getD, List.getElem?_eq_none (Nat.le_of_not_lt hlt), Option.getD_none, Nat.zero_testBit] at hm; cases hm
    by_cases hlt : j' < k
    · rw [getD_app_left _ _ _ _ (by omega)] at hi'
      obtain ⟨e, he, hb, h'⟩ := h j' o' hlt ho' i' hi'
      exact ⟨e, he, hb, h'.imp id (grow' _)⟩
    · obtain rfl : j' = k := by omega
      have hx : x = o' := by have := hl 0; simp at this; rw [ho'] at this; exact Option.some.inj this
      subst hx
      have : ((acc ++ [maskOf acc x.after.toList]).getD j' 0) = maskOf acc x.after.toList := by simp [List.getD_eq_getElem?_getD, hk]
      rw [this] at hi'
      rcases mask_bit acc i' x.after.toList 0 hi' with h0 | ⟨e, he, hb, h'⟩
      · simp at h0
      · exact ⟨e, he, hb, h'.imp id (grow' _)⟩

theorem aheadOf_eq (all : Array Oper) : aheadOf all = all.toList.foldl (fun acc o => acc ++ [maskOf acc o.after.toList]) [] := rfl

/-- All that an operation waits for has been carried out. -/
def Waited (all : Array Oper) (p : Nat → Bool) (j : Nat) : Prop := ∀ o, all[j]? = some o → ∀ e ∈ o.after.toList, Region.binds .any e = true → p e.on = true

theorem ahead_done {all : Array Oper} {p : Nat → Bool} (hlow : ∀ j o, all[j]? = some o → ∀ e ∈ o.after.toList, Region.binds .any e = true → e.on < j) (hclosed : ∀ j, p j = true → Waited all p j) :
    ∀ (j : Nat), j < all.size → Waited all p j → ∀ i, ((aheadOf all).getD j 0).testBit i = true → p i = true := by
  intro j
  induction j using Nat.strongRecOn with
  | _ j ih =>
    intro hj hw i hi
    obtain ⟨o, ho⟩ : ∃ o, all[j]? = some o := ⟨all[j], by simp [hj]⟩
    rw [aheadOf_eq] at hi
    obtain ⟨e, he, hb, h⟩ := ahead_spec all all.toList [] 0 rfl (by simp) (fun j o hj => absurd hj (by omega)) j o (by simpa using hj) ho i hi
    have hp := hw o ho e he hb
    rcases h with rfl | h
    · exact hp
    · have hlt := hlow j o ho e he hb
      rw [← aheadOf_eq] at h
      exact ih e.on hlt (by omega) (hclosed _ hp) i h

/-! ### Temporaries, whatever the order -/
def lookE (dst : Nat → Option Nat) (val : Nat → AV) (e0 : Env) (p : Nat → Bool) : Nat → Env
  | 0 => e0
  | k + 1 => cond (p k) (putA (lookE dst val e0 p k) (dst k) (val k)) (lookE dst val e0 p k)

theorem putA_same (e : Env) (t : Nat) (v : AV) : putA e (some t) v t = v := by simp [putA, upd]
theorem putA_ne (e : Env) (d : Option Nat) (v : AV) {t : Nat} (h : d ≠ some t) : putA e d v t = e t := by
  cases d with
  | none => rfl
  | some u =>
    have : t ≠ u := fun x => h (by rw [x])
    simp only [putA, upd]
    cases hb : Nat.beq t u with
    | true => exact absurd (Nat.eq_of_beq_eq_true hb) this
    | false => rfl

theorem lookE_congr {dst : Nat → Option Nat} {val : Nat → AV} {e0 : Env} {p q : Nat → Bool} {t : Nat} : ∀ (n : Nat), (∀ k, k < n → dst k = some t → p k = q k) → lookE dst val e0 p n t = lookE dst val e0 q n t
  | 0, _ => rfl
  | n + 1, h => by
    have ih := lookE_congr n (fun k hk => h k (by omega)) (dst := dst) (val := val) (e0 := e0)
    simp only [lookE]
    by_cases hd : dst n = some t
    · have := h n (by omega) hd
      rw [this]
      cases q n with
      | true => simp only [cond_true, hd, putA_same]
      | false => exact ih
    · cases p n <;> cases q n <;> simp only [cond_true, cond_false, putA_ne _ _ _ hd, ih]

theorem lookE_lt {dst : Nat → Option Nat} {val : Nat → AV} {e0 : Env} {p : Nat → Bool} {t j : Nat} : ∀ (n : Nat), j ≤ n → (∀ k, k < n → dst k = some t → (p k = true ↔ k < j)) → lookE dst val e0 p n t = lookE dst val e0 (fun _ => true) j t
  | 0, hj, h => by obtain rfl : j = 0 := by omega
                   rfl
  | n + 1, hj, h => by
    by_cases hjn : j = n + 1
    · subst hjn
      exact lookE_congr (n + 1) (fun k hk hd => by rw [(h k hk hd).2 hk])
    · have ih := lookE_lt n (by omega) (fun k hk => h k (by omega)) (dst := dst) (val := val) (e0 := e0)
      simp only [lookE]
      cases hp : p n with
      | false => exact ih
      | true =>
        by_cases hd : dst n = some t
        · have := (h n (by omega) hd).1 hp; omega
        · simp only [cond_true, putA_ne _ _ _ hd]; exact ih

/-- One more is carried out. -/
theorem lookE_put {dst : Nat → Option Nat} {val : Nat → AV} {e0 : Env} {p : Nat → Bool} {j : Nat} (hpj : p j = false) : ∀ (n : Nat), j < n → (∀ k, k < n → k ≠ j → dst k = dst j → dst j ≠ none → p k = true → k < j) →
    lookE dst val e0 (fun k => p k || Nat.beq k j) n = putA (lookE dst val e0 p n) (dst j) (val j)
  | 0, hj, _ => by omega
  | n + 1, hj, h => by
    funext t
    have off : ∀ m, m ≤ j → lookE dst val e0 (fun k => p k || Nat.beq k j) m = lookE dst val e0 p m := by
      intro m hm
      funext u
      refine lookE_congr m (fun k hk _ => ?_)
      have : Nat.beq k j = false := by cases hb : Nat.beq k j with
        | false => rfl
        | true => have := Nat.eq_of_beq_eq_true hb; omega
      simp [this]
    by_cases hjn : j = n
    · subst hjn
      simp only [lookE, hpj, Bool.false_or, Nat.beq_refl, cond_true, cond_false]
      rw [off j (Nat.le_refl _)]
    · have ih := lookE_put hpj n (by omega) (fun k hk => h k (by omega)) (dst := dst) (val := val) (e0 := e0)
      have hb : Nat.beq n j = false := by cases hb : Nat.beq n j with
        | false => rfl
        | true => have := Nat.eq_of_beq_eq_true hb; omega
      simp only [lookE, hb, Bool.or_false]
      cases hp : p n with
      | false => simp only [cond_false]; rw [ih]
      | true =>
        simp only [cond_true]
        rw [ih]
        have hne : dst j = none ∨ dst n ≠ dst j := by
          by_cases h0 : dst j = none
          · exact .inl h0
          · refine .inr fun e => ?_
            have := h n (by omega) (Ne.symm hjn) e h0 hp
            omega
        rcases hne with h0 | hne
        · rw [h0]; rfl
        · by_cases h1 : dst n = some t
          · rw [h1, putA_same]
            by_cases h2 : dst j = some t
            · exact absurd (h1.trans h2.symm) hne
            · rw [putA_ne _ _ _ h2, putA_same]
          · rw [putA_ne _ _ _ h1]
            by_cases h2 : dst j = some t
            · rw [h2, putA_same, putA_same]
            · rw [putA_ne _ _ _ h2, putA_ne _ _ _ h2, putA_ne _ _ _ h1]

end Go.Fw
