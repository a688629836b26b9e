/- The frame of the abstract walk, part 30: scopes through which the run goes without a jump; labels. -/
import Derived.Test.YtgmooalikccbiaaFw29
set_option linter.unusedVariables false
set_option linter.unusedSimpArgs false
namespace Go.Fw
open Go.RowKit

theorem stepR_scope {P : Program} {b : Frame} {a : Act} {k : List Item} {cs : List Frame} {w : World} {c : Code} : step P (lone (b.atR a (.code (.scope c) :: k)) cs w) = .next (lone (b.atR a (.code c :: .inScope c :: k)) cs w) :=
  step_lone_go (by simp [stepG, stepG.exec, Frame.atR])
theorem stepR_inScope {P : Program} {b : Frame} {a : Act} {k : List Item} {cs : List Frame} {w : World} {c : Code} : step P (lone (b.atR a (.inScope c :: k)) cs w) = .next (lone (b.atR a k) cs w) :=
  step_lone_go (by simp [stepG, stepG.exec, Frame.atR])

theorem wpIn_scope {F : Fence} {n : Nat} {P : Program} {Q : Exit → Act → World → Prop} {a : Act} {w : World} {c : Code} (hg : ∀ l a w, ¬ Q (.goto l) a w) (h : c.wpIn F n P Q a w) : (Code.scope c).wpIn F n P Q a w := by
  intro b k cs hro hb hr
  have h0 : (lone (b.atR a (.code (.scope c) :: k)) cs w).fenced P F := fenced_calm hb hr rfl
  obtain ⟨e, a₁, w₁, hq, harr⟩ := h b (.inScope c :: k) cs hro hb hr
  cases e with
  | normal => exact ⟨.normal, a₁, w₁, hq, .head h0 stepR_scope (StepsIn.trans harr (.one (fenced_calm hb hr rfl) stepR_inScope))⟩
  | exit id =>
    have hx : exitTo id (.inScope c :: k) = exitTo id k := by simp [exitTo]
    exact ⟨.exit id, a₁, w₁, hq, fun k' hk => .head h0 stepR_scope (harr.1 k' (by rw [hx]; exact hk)),
      fun hr' hk => let ⟨k₁, h1, h2⟩ := harr.2 hr' (by rw [hx]; exact hk); ⟨k₁, h1, .head h0 stepR_scope h2⟩⟩
  | goto l => exact absurd hq (hg l _ _)
  | ret => exact ⟨_, a₁, w₁, hq, .of_steps (.one h0 stepR_scope) harr⟩
  | panic ch => exact ⟨_, a₁, w₁, hq, .of_steps (.one h0 stepR_scope) harr⟩
  | outgrown => exact ⟨_, a₁, w₁, hq, .of_steps (.one h0 stepR_scope) harr⟩

section rules
variable {P : Program} {T : TT} {N : Nat} {ro : Option Nat} {ws : Nat → Bool} {K R : St → AH → Prop} {X : Nat → St → AH → Prop} {s : St} {H : AH}
theorem AWq.label {l : Nat} (h : K s H) : AWq N P T ro ws (.label l) K R X s H := ⟨fun _ _ _ => ⟨fun κ F B w0 w a I hE => wpIn_label ⟨s, H, κ, F, KLe.refl _, FLe.refl _, I, hE, Agree.refl _ _, h⟩⟩⟩
theorem AWq.scope {c : Code} (h : AWq N P T ro ws c K R X s H) : AWq N P T ro ws (.scope c) K R X s H :=
  ⟨fun hT hdraw hw => ⟨fun κ F B w0 w a I hE => wpIn_scope (fun l a w hq => hq.elim) ((h.out hT hdraw hw).out κ F B w0 w a I hE)⟩⟩
end rules
theorem Kept_split {T G : Prop} (main : Kept T → G) (tl : T) : G := main ⟨tl⟩
theorem AWp_cutd {P : Program} {N : Nat} {ro : Option Nat} {ws : Nat → Bool} {c : Code} {K R : St → AH → Prop} {X : Nat → St → AH → Prop} {s : St} {H H2 : AH} (named : List (Nat × AV)) (hd : s.d = [])
    (hn : agrees s.e named) (hws : ∀ t, ws t = true) (hH : HLe H2 H) (h : AWp N P ro ws c K R X ⟨envOf named, []⟩ H2) : AWp N P ro ws c K R X s H :=
  AWp_cut named hn hws hH (by rw [hd]; exact h)
end Go.Fw
