/- The frame of the abstract walk, part 24: less is told of what a call leaves. -/
import Derived.Test.YtgmooalikccbiaaFw23
set_option linter.unusedVariables false
set_option linter.unusedSimpArgs false
namespace Go.Fw
open Go.RowKit

variable {κ : KM} {F : FM} {B : Nat} {w0 w : World} {H : AH} {P : Program} {T : TT}

/-- Whatever the one stands for, the other does. -/
def AVle (a b : AV) : Prop := ∀ κ F x, VR κ F a x → VR κ F b x
theorem AVle.refl (a : AV) : AVle a a := fun _ _ _ h => h
theorem AVle.nils : AVle .nils (.cs [] 0) := fun _ _ _ h => by cases h with | nils a => exact .cs0 _ _
def AVles (l m : List AV) : Prop := m.length = l.length ∧ ∀ i (hi : i < l.length) (hj : i < m.length), AVle l[i] m[i]
theorem AVles.nil : AVles [] [] := ⟨rfl, fun i hi => by simp at hi⟩
theorem AVles.cons {a b : AV} {l m : List AV} (h : AVle a b) (k : AVles l m) : AVles (a :: l) (b :: m) :=
  ⟨by simp [k.1], fun i hi hj => by
    cases i with
    | zero => exact h
    | succ i => exact k.2 i (by simpa using hi) (by simpa using hj)⟩
theorem AVles.refl (l : List AV) : AVles l l := ⟨rfl, fun _ _ _ => AVle.refl _⟩
theorem AVles.append {a b l m : List AV} (h : AVles a b) (k : AVles l m) : AVles (a ++ l) (b ++ m) := by
  refine ⟨by simp [h.1, k.1], fun i hi hj => ?_⟩
  by_cases hlt : i < a.length
  · rw [List.getElem_append_left hlt, List.getElem_append_left (by rw [h.1]; exact hlt)]; exact h.2 i _ _
  · have e : (a ++ l)[i] = l[i - a.length]'(by simp at hi; omega) := List.getElem_append_right (by omega)
    have e2 : (b ++ m)[i] = m[i - a.length]'(by simp at hj; have := h.1; omega) := by
      rw [List.getElem_append_right (by rw [h.1]; omega)]; congr 1; rw [h.1]
    rw [e, e2]; exact k.2 _ _ _
theorem AVle.agg {l m : List AV} (h : AVles l m) : AVle (.agg l) (.agg m) := fun κ F x hx => by
  cases hx with
  | agg hA hi => exact .agg (by rw [hA, h.1]) fun i hj => h.2 i (by rw [← h.1]; exact hj) hj _ _ _ (hi i (by rw [← h.1]; exact hj))
theorem AVle.tup {l m : List AV} (h : AVles l m) : AVle (.tup l) (.tup m) := fun κ F x hx => by
  cases hx with
  | tup hA hi => exact .tup (by rw [hA, h.1]) fun i hj => h.2 i (by rw [← h.1]; exact hj) hj _ _ _ (hi i (by rw [← h.1]; exact hj))
theorem AVle.cs {l m : List AV} {n : Nat} (h : AVles l m) : AVle (.cs l n) (.cs m n) := fun κ F x hx => by
  cases hx with
  | cs0 a c =>
    have : m = [] := by apply List.eq_nil_of_length_eq_zero; rw [h.1]; rfl
    rw [this]; exact .cs0 _ _
  | cs hF hle hc hi => exact .cs hF (by rw [h.1]; exact hle) hc fun i hj => h.2 i (by rw [← h.1]; exact hj) hj _ _ _ (hi i (by rw [← h.1]; exact hj))

theorem ACall.told {g : FuncId} {args : List AV} {K : AV → AH → Prop} (h : ACall P g args H fun y H' => ∃ y' H2, AVle y y' ∧ HLe H2 H' ∧ K y' H2) : ACall P g args H K := by
  refine ⟨h.ent, fun κ F B w0 w cargs hI hA => (h.run κ F B w0 w cargs hI hA).mono ?_⟩
  rintro e w' ⟨x, he, y, H', κ', F', h1, h2, h3, h4, y', H2, h5, h6, h7⟩
  exact ⟨x, he, y', H2, κ', F', h1, h2, h3.less h6.le, h5 _ _ _ h4, h7⟩

/-- Arguments may be told of more. -/
theorem ACall.args {g : FuncId} {args args' : List AV} {K : AV → AH → Prop} (h : AVles args args') (k : ACall P g args' H K) : ACall P g args H K :=
  ⟨k.ent, fun κ F B w0 w cargs hI hA => k.run κ F B w0 w cargs hI ⟨by rw [hA.1, h.1], fun i hi => h.2 i (by rw [← h.1]; exact hi) hi _ _ _ (hA.2 i (by rw [← h.1]; exact hi))⟩⟩

/-- A row's cells are told anew, at a mark in the walk. -/
theorem AWp_rowTo {N : Nat} {ro : Option Nat} {ws : Nat → Bool} {c : Code} {K R : St → AH → Prop} {X : Nat → St → AH → Prop} {s : St} {H : AH} {p u : Nat} {cells : List AV} (cells' : List AV)
    (hp : H p = some (.row cells u)) (hl : AVles cells cells') (h : AWp N P ro ws c K R X s (H.set p (.row cells' u))) : AWp N P ro ws c K R X s H :=
  AWp_ghost _ (fun κ F B w0 w I => ⟨κ, F, KLe.refl _, FLe.refl _, I.rowTo hp hl.1 fun j hj hj' x hx => hl.2 j hj hj' _ _ _ hx⟩) h
end Go.Fw
