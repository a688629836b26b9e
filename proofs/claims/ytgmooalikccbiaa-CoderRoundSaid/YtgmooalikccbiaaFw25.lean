/- The frame of the abstract walk, part 25: the temporaries forgotten, but for those that are named. -/
import Derived.Test.YtgmooalikccbiaaFw24
set_option linter.unusedVariables false
set_option linter.unusedSimpArgs false
namespace Go.Fw
open Go.RowKit

variable {κ : KM} {F : FM} {B : Nat} {w0 w : World} {H : AH} {P : Program} {T : TT}

/-- A proof that is told later, out of the walk's sight. -/
structure Kept (p : Prop) : Prop where
  out : p

def envOf (named : List (Nat × AV)) : Env := fun t =>
  match lookupA named t with
  | some v => v
  | none => .junk

/-- What is named stays, all else is forgotten: ways that part may so meet again. -/
theorem AWp_cut {N : Nat} {ro : Option Nat} {ws : Nat → Bool} {c : Code} {K R : St → AH → Prop} {X : Nat → St → AH → Prop} {s : St} {H H2 : AH} (named : List (Nat × AV))
    (hn : agrees s.e named) (hws : ∀ t, ws t = true) (hH : HLe H2 H) (h : AWp N P ro ws c K R X ⟨envOf named, s.d⟩ H2) : AWp N P ro ws c K R X s H := by
  refine ⟨fun κ F B w0 w a I hE => ?_⟩
  have hle : SLe s ⟨envOf named, s.d⟩ := by
    refine ⟨rfl, fun t => ?_⟩
    simp only [envOf]
    cases hl : lookupA named t with
    | some v => right; exact (agrees_lookup hn hl).symm
    | none => left; rfl
  have hag : Agree ws s ⟨envOf named, s.d⟩ := fun t ht => by rw [hws t] at ht; cases ht
  refine wpIn_mono (h.out κ F B w0 w a (I.less hH.le) (hE.less hle)) ?_
  intro e a'' w'' hq
  exact QOk.from (KLe.refl _) (FLe.refl _) hag hq
end Go.Fw
