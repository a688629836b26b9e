/- The frame of the abstract walk, part 23: calls that hand back nil or a fresh slice; heaps. -/
import Derived.Test.YtgmooalikccbiaaFw22
set_option linter.unusedVariables false
set_option linter.unusedSimpArgs false
namespace Go.Fw
open Go.RowKit

variable {κ : KM} {F : FM} {B : Nat} {w0 w : World} {H : AH} {P : Program} {T : TT}

theorem ACall.coldN {g : FuncId} {args : List AV} {es n : Nat} {cells : List AV} (hlen : cells.length = n * es)
    (h : ACall P g args H fun y H' => (y = .nils ∧ n = 0 ∧ H' = H) ∨ ∃ r, H r = none ∧ ∃ v, y = .sl r v es 0 n none ∧ H' = H.set r (.row cells v)) : ACall P g args H fun y H' => y = .cs cells n ∧ H' = H := by
  refine ⟨h.ent, fun κ F B w0 w cargs hI hA => (h.run κ F B w0 w cargs hI hA).mono ?_⟩
  rintro e w' ⟨x, he, y, H', κ', F', h1, h2, h3, h4, hK⟩
  rcases hK with ⟨rfl, rfl, rfl⟩ | ⟨r, hr, v, rfl, rfl⟩
  · have : cells = [] := by apply List.eq_nil_of_length_eq_zero; simpa using hlen
    subst this
    refine ⟨x, he, _, H', κ', F', h1, h2, h3, ?_, rfl, rfl⟩
    cases h4 with
    | nils a => exact .cs0 _ _
  · obtain ⟨F'', hF, I, hv⟩ := h3.cool h4 (AH.set_same _ _ _) hlen
    rw [AH.del_set _ _ _ hr] at I
    exact ⟨x, he, _, H, κ', F'', h1, h2.trans hF, I, hv, rfl, rfl⟩

/-- The same, where the call leaves its own heap. -/
theorem ACall.coldX {g : FuncId} {args : List AV} {es n : Nat} {cells : List AV} {Q : AH → Prop} (hlen : cells.length = n * es)
    (h : ACall P g args H fun y H' => ∃ H2, Q H2 ∧ ((y = .nils ∧ n = 0 ∧ HLe H2 H') ∨ ∃ r, H2 r = none ∧ ∃ v, y = .sl r v es 0 n none ∧ H' = H2.set r (.row cells v))) : ACall P g args H fun y H' => y = .cs cells n ∧ Q H' := by
  refine ⟨h.ent, fun κ F B w0 w cargs hI hA => (h.run κ F B w0 w cargs hI hA).mono ?_⟩
  rintro e w' ⟨x, he, y, H', κ', F', h1, h2, h3, h4, H2, hQ, hK⟩
  rcases hK with ⟨rfl, rfl, hle⟩ | ⟨r, hr, v, rfl, rfl⟩
  · have : cells = [] := by apply List.eq_nil_of_length_eq_zero; simpa using hlen
    subst this
    refine ⟨x, he, _, H2, κ', F', h1, h2, h3.less hle.le, ?_, rfl, hQ⟩
    cases h4 with
    | nils a => exact .cs0 _ _
  · obtain ⟨F'', hF, I, hv⟩ := h3.cool h4 (AH.set_same _ _ _) hlen
    rw [AH.del_set _ _ _ hr] at I
    exact ⟨x, he, _, H2, κ', F'', h1, h2.trans hF, I, hv, rfl, hQ⟩

theorem ACall.warmN {g : FuncId} {args : List AV} {es n : Nat} {cells : List AV} (hlen : cells.length = n * es)
    (h : ACall P g args H fun y H' => (y = .nils ∧ n = 0 ∧ H' = H) ∨ ∃ r, H r = none ∧ ∃ v, y = .sl r v es 0 n none ∧ H' = H.set r (.row cells v)) :
    ACall P g args H fun y H' => ∃ r, H r = none ∧ ∃ v, y = .sl r v es 0 n none ∧ H' = H.set r (.row cells v) := by
  refine ⟨h.ent, fun κ F B w0 w cargs hI hA => (h.run κ F B w0 w cargs hI hA).mono ?_⟩
  rintro e w' ⟨x, he, y, H', κ', F', h1, h2, h3, h4, hK⟩
  rcases hK with ⟨rfl, rfl, rfl⟩ | ⟨r, hr, v, rfl, rfl⟩
  · have : cells = [] := by apply List.eq_nil_of_length_eq_zero; simpa using hlen
    subst this
    obtain ⟨r, hr, hkr⟩ := h3.fresh
    obtain ⟨hle, I'⟩ := h3.ghost es hr hkr
    refine ⟨x, he, .sl r 0 es 0 0 none, _, _, F', h1.trans hle, h2, I', ?_, r, hr, 0, rfl, rfl⟩
    cases h4 with
    | nils a => exact .sl (KM.put_same ..) (lo := 0) (by simp) (by simp) (show _ = _ by simp) (by simp) (Or.inl rfl)
  · exact ⟨x, he, _, _, κ', F', h1, h2, h3, h4, r, hr, v, rfl, rfl⟩

/-- A call whose value and heap are known. -/
theorem ACall.to {g : FuncId} {args : List AV} {v : AV} {H2 : AH} {K : AV → AH → Prop} (h : ACall P g args H fun y H' => y = v ∧ H' = H2) (k : K v H2) : ACall P g args H K :=
  h.mono fun y H' ⟨e1, e2⟩ => by rw [e1, e2]; exact k

theorem HLe.of_eq {a b : AH} (h : a = b) : HLe a b := h ▸ HLe.refl _
theorem HLe.bot (H : AH) : HLe (fun _ => Option.none) H := ⟨fun s x hs => by cases hs⟩
theorem AH.set_id {H : AH} {p : Nat} {o : AO} (h : H p = some o) : H.set p o = H := by
  funext s; simp only [AH.set]; split
  · rename_i e; rw [e, h]
  · rfl
theorem AH.two_sets (H : AH) {p r : Nat} (h : p ≠ r) (a b b' a' : AO) : (((H.set p a).set r b).set r b').set p a' = (H.set p a').set r b' := by
  rw [AH.set_set, AH.set_comm _ _ _ (Ne.symm h), AH.set_set]
theorem AH.set_back (H : AH) {p r : Nat} (h : p ≠ r) (a b a' : AO) : ((H.set p a).set r b).set p a' = (H.set p a').set r b := by
  rw [AH.set_comm _ _ _ (Ne.symm h), AH.set_set]
end Go.Fw
