/- What the laws of lists and squares share: rows that stand in a list of rows, and more. -/
import Derived.Test.YtajmabnnaidhkaaWaveK
import Derived.Test.YtajmabnnaidhkaaWaveN
namespace Go.Proofs.Ytajmabnnaidhkaa
open Go.Fw Go
set_option linter.unusedVariables false
set_option linter.unusedSimpArgs false

theorem join_split_l (a : List Int) (h : a.length % 2 = 0) : joL (spL a) = a := by
  have hl : (spL a).length = a.length := lnL_len _ _
  unfold joL
  rw [hl]
  have : lnL a.length (joi a.length fun c => (spL a).getD c 0) = lnL a.length (fun c => a.getD c 0) := lnL_congr fun c hc => by
    obtain ⟨k, hk⟩ : ∃ k, a.length = 2 * k := ⟨a.length / 2, by omega⟩
    have := joi_spl k (fun c => a.getD c 0) (fun c => (spL a).getD c 0) (fun c hc => by
      unfold spL
      rw [← hk] at hc ⊢
      exact lnL_getD _ hc) c (by omega)
    rw [hk]; exact this
  rw [this, lnL_of]

theorem lineR_len {m : Int} {f : List Int → List Int} (hf : ∀ a, (f a).length = a.length) (a : List Int) : (lineR m f a).1.length ≤ 4096 := by
  unfold lineR
  split
  · simp
  · split
    · show (f a).length ≤ _
      rw [hf]; omega
    · simp

theorem spL_in {a : List Int} (h : inB 1099511627776 a = true) : inB 4398046511104 (spL a) = true := by
  refine inB_lnL fun c hc => ?_
  have hb := fun c => inB_getD (m := 1099511627776) (by omega) h c
  unfold spl
  split
  · have := hb (2 * c); have := hb (2 * c + 1); dsimp only; omega
  · have := hb (2 * (c - a.length / 2)); have := hb (2 * (c - a.length / 2) + 1); dsimp only; omega

theorem AWp_freezeAt {P : Program} {N : Nat} {ro : Option Nat} {ws : Nat → Bool} {c : Code} {K R : St → AH → Prop} {X : Nat → St → AH → Prop} {s : St} {H : AH} (t i : Nat) {r v es m n : Nat} {lim : Option Nat} {cells l : List AV} (hts : ws t = true)
    (he : s.e t = .cs l n) (hi : l[i]? = some (.sl r v es 0 m lim)) (hH : H r = some (.row cells v)) (hlen : cells.length = m * es)
    (h : AWp N P ro ws c K R X ⟨retold [t] (.cs (l.set i (.cs cells m)) n) s.e, s.d⟩ (H.del r)) : AWp N P ro ws c K R X s H := by
  refine ⟨fun κ F B w0 w a I hE => ?_⟩
  obtain ⟨F', hF, I', hall⟩ := I.coolAll hH
  have hag : Agree ws s ⟨retold [t] (.cs (l.set i (.cs cells m)) n) s.e, s.d⟩ := by
    intro u hu
    simp only [retold]
    cases hm : memA [t] u with
    | false => rfl
    | true =>
      have : u = t := by have := (memA_iff _ _).1 hm; simpa using this
      rw [this, hts] at hu; cases hu
  have hE' : ER κ F' N ⟨retold [t] (.cs (l.set i (.cs cells m)) n) s.e, s.d⟩ a := by
    refine ⟨fun u => ?_, hE.size, hE.d⟩
    simp only [retold]
    cases hm : memA [t] u with
    | false => exact (hE.e u).mono (KLe.refl _) hF
    | true =>
      have hut : u = t := by have := (memA_iff _ _).1 hm; simpa using this
      have hx := hE.e u
      rw [hut, he] at hx
      rw [hut]
      generalize a.tmps.getD t undef = x at hx
      cases hx with
      | cs0 a c => simp at hi
      | cs hFb hle hc hk =>
        refine .cs (hF _ _ hFb) (by simpa using hle) hc fun k hk' => ?_
        have hkl : k < l.length := by simpa using hk'
        by_cases e : i = k
        · subst e
          have h1 := hk i hkl
          have h2 : l[i] = .sl r v es 0 m lim := by rw [List.getElem?_eq_getElem hkl] at hi; exact Option.some.inj hi
          rw [h2] at h1
          simpa using hall _ _ _ _ _ hlen h1
        · rw [List.getElem_set_ne e]
          exact (hk k hkl).mono (KLe.refl _) hF
  exact wpIn_mono (h.out κ F' B w0 w a I' hE') (fun e a w hq => QOk.from (KLe.refl _) hF hag hq)

theorem step_c (a : List Int) (hn : a.length ≤ 5000) (L : List Int) (e : Int) (h : lineR 1099511627776 spL a = (L, e)) (H : AH) :
    ACall Try.prog 17 [.cs (iS .i64 a) a.length] H (fun y H' => y = .tup [.cs (iS .i64 L) L.length, .int .i64 e] ∧ H' = H) := by
  have := Step_c a (by omega) H
  rw [h] at this; exact this
theorem rstep_c (a : List Int) (hn : a.length ≤ 5000) (L : List Int) (e : Int) (h : lineR 1099511627776 spL a = (L, e)) (H : AH) :
    ACall Try.prog 18 [.cs (iS .i64 a) a.length] H (fun y H' => y = .tup [.cs (iS .i64 L) L.length, .int .i64 e] ∧ H' = H) := by
  have := rStep_c a (by omega) H
  rw [h] at this; exact this
theorem back_c (a : List Int) (hn : a.length ≤ 5000) (L : List Int) (e : Int) (h : lineR 4398046511104 joL a = (L, e)) (H : AH) :
    ACall Try.prog 19 [.cs (iS .i64 a) a.length] H (fun y H' => y = .tup [.cs (iS .i64 L) L.length, .int .i64 e] ∧ H' = H) := by
  have := Back_c a (by omega) H
  rw [h] at this; exact this
theorem rback_c (a : List Int) (hn : a.length ≤ 5000) (L : List Int) (e : Int) (h : lineR 4398046511104 joL a = (L, e)) (H : AH) :
    ACall Try.prog 20 [.cs (iS .i64 a) a.length] H (fun y H' => y = .tup [.cs (iS .i64 L) L.length, .int .i64 e] ∧ H' = H) := by
  have := rBack_c a (by omega) H
  rw [h] at this; exact this
theorem lineR_e (m : Int) (f : List Int → List Int) (a : List Int) : (lineR m f a).2 = 0 ∨ (lineR m f a).2 = 1 ∨ (lineR m f a).2 = 5 := by
  unfold lineR
  split
  · simp
  · split <;> simp
/-- Back leads back. -/
theorem line_back {a L : List Int} (h : lineR 1099511627776 spL a = (L, 0)) : lineR 4398046511104 joL L = (a, 0) := by
  unfold lineR at h
  split at h
  · cases h
  · rename_i hc
    split at h
    · rename_i hi
      obtain ⟨rfl, _⟩ := Prod.mk.inj h
      have hl : (spL a).length = a.length := lnL_len _ _
      unfold lineR
      rw [hl, if_neg hc, if_pos (spL_in hi), join_split_l a (by omega)]
    · cases h

end Go.Proofs.Ytajmabnnaidhkaa
