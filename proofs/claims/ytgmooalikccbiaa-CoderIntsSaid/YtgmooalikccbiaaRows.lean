/-
  No cell of these rows narrows 'for every input' (looked for: loops, veiled, ifaces, maps, wideKeys, modest, calm, conditions, laid).
  DERIVED. THE GIVEN ROWS OF THIS SEAT. 8 by the template 'for every input the law returns true; each argument reads behind the call as it read before'; 0 by the template 'total and deterministic' (their statements: YtgmooalikccbiaaTotals.lean).
  GIVEN WITH THE SEED: the statements are not yours to turn. If you find one false, say at which input.
  Laid BY PROGRAM, IN A SANDBOX (cutbox-rows.mjs): the forced cells as the released guide's own fill.sh prints them over the translation 864778a586047e5a… (all of the seat's roots in one cut). By AI agents, Wed Nov 11 2026. No macro, syntax, notation, axiom, sorry.
-/
import Derived.Test.YtgmooalikccbiaaChecked
import GoSem.Claim
import GoSem.ClaimJoined
import GoSem.ClaimMapViews
import Derived.JoinedTies
import Derived.KernelRfl
namespace Go.Proofs.Ytgmooalikccbiaa
/- THE CELL 'sum', in the pinned program and in every row, IS THE sha256 OF THE DUMP (.gsa) THAT YtgmooalikccbiaaProg.lean LOADS. Nothing in Lean hashes anything: it is a label: what it is worth is what the hold of that sum in a sandbox is worth. -/
noncomputable def Try.pinned : Pinned := { name := "ytgmooalikccbiaa", sum := "864778a586047e5aa2e5ec6ca5d72accc69a24afac84acb66f64dbe21d3b954b", checked := Try.checked }
namespace Rows
def none {H : Type} : Left H := { results := [], args := [] }

/-- 'skymosaiclaw25.CoderEncodes': WHATEVER THE INPUT: true; the input reads as it did. -/
def coderEncodesSpec : ChangeSpec := { name := "coderEncodes", fn := fun _ => fun
  | [d1, d2, d3, d4, d5] => { results := [.lit (.bool true)], args := [d1, d2, d3, d4, d5] }
  | _ => none }
def coderEncodesRow : OpenClaim := { program := "ytgmooalikccbiaa", sum := "864778a586047e5aa2e5ec6ca5d72accc69a24afac84acb66f64dbe21d3b954b", func := "skymosaic/skymosaiclaw25.CoderEncodes", spec := "coderEncodes", unfollowed := true, recurses := true, apart := false }
def CoderEncodesSaid : Prop := coderEncodesRow.holds Try.pinned (OpenSpec.ofChange coderEncodesSpec)

/-- ITS FALSE NEIGHBOUR: 'it returns false'. Refute it at one input. -/
def coderEncodesWrong : ChangeSpec := { name := "coderEncodes", fn := fun _ => fun
  | [d1, d2, d3, d4, d5] => { results := [.lit (.bool false)], args := [d1, d2, d3, d4, d5] }
  | _ => none }
def CoderEncodesWrongFalsely : Prop := coderEncodesRow.holds Try.pinned (OpenSpec.ofChange coderEncodesWrong)

/-- 'skymosaiclaw25.CoderInts': WHATEVER THE INPUT: true; the input reads as it did. -/
def coderIntsSpec : ChangeSpec := { name := "coderInts", fn := fun _ => fun
  | [d1, d2] => { results := [.lit (.bool true)], args := [d1, d2] }
  | _ => none }
def coderIntsRow : OpenClaim := { program := "ytgmooalikccbiaa", sum := "864778a586047e5aa2e5ec6ca5d72accc69a24afac84acb66f64dbe21d3b954b", func := "skymosaic/skymosaiclaw25.CoderInts", spec := "coderInts", unfollowed := true, recurses := true, apart := false }
def CoderIntsSaid : Prop := coderIntsRow.holds Try.pinned (OpenSpec.ofChange coderIntsSpec)

/-- ITS FALSE NEIGHBOUR: 'it returns false'. Refute it at one input. -/
def coderIntsWrong : ChangeSpec := { name := "coderInts", fn := fun _ => fun
  | [d1, d2] => { results := [.lit (.bool false)], args := [d1, d2] }
  | _ => none }
def CoderIntsWrongFalsely : Prop := coderIntsRow.holds Try.pinned (OpenSpec.ofChange coderIntsWrong)

/-- 'skymosaiclaw25.CoderIntBytes': WHATEVER THE INPUT: true; the input reads as it did. -/
def coderIntBytesSpec : ChangeSpec := { name := "coderIntBytes", fn := fun _ => fun
  | [d1, d2, d3, d4, d5] => { results := [.lit (.bool true)], args := [d1, d2, d3, d4, d5] }
  | _ => none }
def coderIntBytesRow : OpenClaim := { program := "ytgmooalikccbiaa", sum := "864778a586047e5aa2e5ec6ca5d72accc69a24afac84acb66f64dbe21d3b954b", func := "skymosaic/skymosaiclaw25.CoderIntBytes", spec := "coderIntBytes", unfollowed := true, recurses := true, apart := false }
def CoderIntBytesSaid : Prop := coderIntBytesRow.holds Try.pinned (OpenSpec.ofChange coderIntBytesSpec)

/-- ITS FALSE NEIGHBOUR: 'it returns false'. Refute it at one input. -/
def coderIntBytesWrong : ChangeSpec := { name := "coderIntBytes", fn := fun _ => fun
  | [d1, d2, d3, d4, d5] => { results := [.lit (.bool false)], args := [d1, d2, d3, d4, d5] }
  | _ => none }
def CoderIntBytesWrongFalsely : Prop := coderIntBytesRow.holds Try.pinned (OpenSpec.ofChange coderIntBytesWrong)

/-- 'skymosaiclaw25.CoderShort': WHATEVER THE INPUT: true; the input reads as it did. -/
def coderShortSpec : ChangeSpec := { name := "coderShort", fn := fun _ => fun
  | [d1, d2, d3, d4] => { results := [.lit (.bool true)], args := [d1, d2, d3, d4] }
  | _ => none }
def coderShortRow : OpenClaim := { program := "ytgmooalikccbiaa", sum := "864778a586047e5aa2e5ec6ca5d72accc69a24afac84acb66f64dbe21d3b954b", func := "skymosaic/skymosaiclaw25.CoderShort", spec := "coderShort", unfollowed := true, recurses := true, apart := false }
def CoderShortSaid : Prop := coderShortRow.holds Try.pinned (OpenSpec.ofChange coderShortSpec)

/-- ITS FALSE NEIGHBOUR: 'it returns false'. Refute it at one input. -/
def coderShortWrong : ChangeSpec := { name := "coderShort", fn := fun _ => fun
  | [d1, d2, d3, d4] => { results := [.lit (.bool false)], args := [d1, d2, d3, d4] }
  | _ => none }
def CoderShortWrongFalsely : Prop := coderShortRow.holds Try.pinned (OpenSpec.ofChange coderShortWrong)

/-- 'skymosaiclaw25.CoderModels': WHATEVER THE INPUT: true; the input reads as it did. -/
def coderModelsSpec : ChangeSpec := { name := "coderModels", fn := fun _ => fun
  | [d1, d2] => { results := [.lit (.bool true)], args := [d1, d2] }
  | _ => none }
def coderModelsRow : OpenClaim := { program := "ytgmooalikccbiaa", sum := "864778a586047e5aa2e5ec6ca5d72accc69a24afac84acb66f64dbe21d3b954b", func := "skymosaic/skymosaiclaw25.CoderModels", spec := "coderModels", unfollowed := true, recurses := true, apart := false }
def CoderModelsSaid : Prop := coderModelsRow.holds Try.pinned (OpenSpec.ofChange coderModelsSpec)

/-- ITS FALSE NEIGHBOUR: 'it returns false'. Refute it at one input. -/
def coderModelsWrong : ChangeSpec := { name := "coderModels", fn := fun _ => fun
  | [d1, d2] => { results := [.lit (.bool false)], args := [d1, d2] }
  | _ => none }
def CoderModelsWrongFalsely : Prop := coderModelsRow.holds Try.pinned (OpenSpec.ofChange coderModelsWrong)

/-- 'skymosaiclaw25.CoderRound': WHATEVER THE INPUT: true; the input reads as it did. -/
def coderRoundSpec : ChangeSpec := { name := "coderRound", fn := fun _ => fun
  | [d1, d2, d3] => { results := [.lit (.bool true)], args := [d1, d2, d3] }
  | _ => none }
def coderRoundRow : OpenClaim := { program := "ytgmooalikccbiaa", sum := "864778a586047e5aa2e5ec6ca5d72accc69a24afac84acb66f64dbe21d3b954b", func := "skymosaic/skymosaiclaw25.CoderRound", spec := "coderRound", unfollowed := true, recurses := true, apart := false }
def CoderRoundSaid : Prop := coderRoundRow.holds Try.pinned (OpenSpec.ofChange coderRoundSpec)

/-- ITS FALSE NEIGHBOUR: 'it returns false'. Refute it at one input. -/
def coderRoundWrong : ChangeSpec := { name := "coderRound", fn := fun _ => fun
  | [d1, d2, d3] => { results := [.lit (.bool false)], args := [d1, d2, d3] }
  | _ => none }
def CoderRoundWrongFalsely : Prop := coderRoundRow.holds Try.pinned (OpenSpec.ofChange coderRoundWrong)

/-- 'skymosaiclaw25.CoderUnique': WHATEVER THE INPUT: true; the input reads as it did. -/
def coderUniqueSpec : ChangeSpec := { name := "coderUnique", fn := fun _ => fun
  | [d1, d2, d3, d4, d5, d6, d7] => { results := [.lit (.bool true)], args := [d1, d2, d3, d4, d5, d6, d7] }
  | _ => none }
def coderUniqueRow : OpenClaim := { program := "ytgmooalikccbiaa", sum := "864778a586047e5aa2e5ec6ca5d72accc69a24afac84acb66f64dbe21d3b954b", func := "skymosaic/skymosaiclaw25.CoderUnique", spec := "coderUnique", unfollowed := true, recurses := true, apart := false }
def CoderUniqueSaid : Prop := coderUniqueRow.holds Try.pinned (OpenSpec.ofChange coderUniqueSpec)

/-- ITS FALSE NEIGHBOUR: 'it returns false'. Refute it at one input. -/
def coderUniqueWrong : ChangeSpec := { name := "coderUnique", fn := fun _ => fun
  | [d1, d2, d3, d4, d5, d6, d7] => { results := [.lit (.bool false)], args := [d1, d2, d3, d4, d5, d6, d7] }
  | _ => none }
def CoderUniqueWrongFalsely : Prop := coderUniqueRow.holds Try.pinned (OpenSpec.ofChange coderUniqueWrong)

/-- 'skymosaiclaw25.CoderErrors': WHATEVER THE INPUT: true; the input reads as it did. -/
def coderErrorsSpec : ChangeSpec := { name := "coderErrors", fn := fun _ => fun
  | [d1, d2, d3, d4] => { results := [.lit (.bool true)], args := [d1, d2, d3, d4] }
  | _ => none }
def coderErrorsRow : OpenClaim := { program := "ytgmooalikccbiaa", sum := "864778a586047e5aa2e5ec6ca5d72accc69a24afac84acb66f64dbe21d3b954b", func := "skymosaic/skymosaiclaw25.CoderErrors", spec := "coderErrors", unfollowed := true, recurses := true, apart := false }
def CoderErrorsSaid : Prop := coderErrorsRow.holds Try.pinned (OpenSpec.ofChange coderErrorsSpec)

/-- ITS FALSE NEIGHBOUR: 'it returns false'. Refute it at one input. -/
def coderErrorsWrong : ChangeSpec := { name := "coderErrors", fn := fun _ => fun
  | [d1, d2, d3, d4] => { results := [.lit (.bool false)], args := [d1, d2, d3, d4] }
  | _ => none }
def CoderErrorsWrongFalsely : Prop := coderErrorsRow.holds Try.pinned (OpenSpec.ofChange coderErrorsWrong)

/- THE SECOND FORM. 'bulk': how many values and letters a reading holds, each counted each time it is reached (what is shared counts as often as it is met; a slice's spare places count too). A statement '..UptoSaid' is the law's where the arguments, and the package variables that the reading takes, are together of bulk at most 1048576: NARROWER than '..Said'. Prove '..Said' where nothing that the law and all that it calls make is longer than what came in: it says more and counts as full. Else prove '..UptoSaid'. A law counts once. -/
mutual
def uptoBulk {H : Type} : DataW H → Nat
  | .lit (.string bytes) => bytes.length + 1
  | .lit _ => 1
  | .nil => 1
  | .ptr d => uptoBulk d + 1
  | .slice elems spare => uptoBulkAll elems + uptoBulkAll spare + 1
  | .agg parts => uptoBulkAll parts + 1
  | .iface _ d => uptoBulk d + 1
  | .map entries => uptoBulkEntries entries + 1
  | .held _ => 1
def uptoBulkAll {H : Type} : List (DataW H) → Nat
  | [] => 0
  | d :: r => uptoBulk d + uptoBulkAll r
def uptoBulkEntries {H : Type} : List (Lit × DataW H) → Nat
  | [] => 0
  | x :: r => uptoBulkEntry x + uptoBulkEntries r
def uptoBulkEntry {H : Type} : Lit × DataW H → Nat
  | (.string bytes, d) => bytes.length + uptoBulk d + 1
  | (_, d) => uptoBulk d + 1
 end
def uptoSmall : (H : Type) → List (DataW H) → Bool := fun _ ds => decide (uptoBulkAll ds ≤ 1048576)
def OpenSpec.upto (s : _root_.Go.ChangeSpec) : _root_.Go.OpenSpec := { _root_.Go.OpenSpec.ofChange s with cond := some uptoSmall }

/-- 'skymosaiclaw25.CoderEncodes', WHERE WHAT IT READS IS OF BULK AT MOST 1048576: true; the input reads as it did. -/
def coderEncodesUptoRow : OpenClaim := { program := "ytgmooalikccbiaa", sum := "864778a586047e5aa2e5ec6ca5d72accc69a24afac84acb66f64dbe21d3b954b", func := "skymosaic/skymosaiclaw25.CoderEncodes", spec := "coderEncodes", unfollowed := true, recurses := true, apart := false, narrowed := true }
def CoderEncodesUptoSaid : Prop := coderEncodesUptoRow.holds Try.pinned (OpenSpec.upto coderEncodesSpec)

/-- 'skymosaiclaw25.CoderInts', WHERE WHAT IT READS IS OF BULK AT MOST 1048576: true; the input reads as it did. -/
def coderIntsUptoRow : OpenClaim := { program := "ytgmooalikccbiaa", sum := "864778a586047e5aa2e5ec6ca5d72accc69a24afac84acb66f64dbe21d3b954b", func := "skymosaic/skymosaiclaw25.CoderInts", spec := "coderInts", unfollowed := true, recurses := true, apart := false, narrowed := true }
def CoderIntsUptoSaid : Prop := coderIntsUptoRow.holds Try.pinned (OpenSpec.upto coderIntsSpec)

/-- 'skymosaiclaw25.CoderIntBytes', WHERE WHAT IT READS IS OF BULK AT MOST 1048576: true; the input reads as it did. -/
def coderIntBytesUptoRow : OpenClaim := { program := "ytgmooalikccbiaa", sum := "864778a586047e5aa2e5ec6ca5d72accc69a24afac84acb66f64dbe21d3b954b", func := "skymosaic/skymosaiclaw25.CoderIntBytes", spec := "coderIntBytes", unfollowed := true, recurses := true, apart := false, narrowed := true }
def CoderIntBytesUptoSaid : Prop := coderIntBytesUptoRow.holds Try.pinned (OpenSpec.upto coderIntBytesSpec)

/-- 'skymosaiclaw25.CoderShort', WHERE WHAT IT READS IS OF BULK AT MOST 1048576: true; the input reads as it did. -/
def coderShortUptoRow : OpenClaim := { program := "ytgmooalikccbiaa", sum := "864778a586047e5aa2e5ec6ca5d72accc69a24afac84acb66f64dbe21d3b954b", func := "skymosaic/skymosaiclaw25.CoderShort", spec := "coderShort", unfollowed := true, recurses := true, apart := false, narrowed := true }
def CoderShortUptoSaid : Prop := coderShortUptoRow.holds Try.pinned (OpenSpec.upto coderShortSpec)

/-- 'skymosaiclaw25.CoderModels', WHERE WHAT IT READS IS OF BULK AT MOST 1048576: true; the input reads as it did. -/
def coderModelsUptoRow : OpenClaim := { program := "ytgmooalikccbiaa", sum := "864778a586047e5aa2e5ec6ca5d72accc69a24afac84acb66f64dbe21d3b954b", func := "skymosaic/skymosaiclaw25.CoderModels", spec := "coderModels", unfollowed := true, recurses := true, apart := false, narrowed := true }
def CoderModelsUptoSaid : Prop := coderModelsUptoRow.holds Try.pinned (OpenSpec.upto coderModelsSpec)

/-- 'skymosaiclaw25.CoderRound', WHERE WHAT IT READS IS OF BULK AT MOST 1048576: true; the input reads as it did. -/
def coderRoundUptoRow : OpenClaim := { program := "ytgmooalikccbiaa", sum := "864778a586047e5aa2e5ec6ca5d72accc69a24afac84acb66f64dbe21d3b954b", func := "skymosaic/skymosaiclaw25.CoderRound", spec := "coderRound", unfollowed := true, recurses := true, apart := false, narrowed := true }
def CoderRoundUptoSaid : Prop := coderRoundUptoRow.holds Try.pinned (OpenSpec.upto coderRoundSpec)

/-- 'skymosaiclaw25.CoderUnique', WHERE WHAT IT READS IS OF BULK AT MOST 1048576: true; the input reads as it did. -/
def coderUniqueUptoRow : OpenClaim := { program := "ytgmooalikccbiaa", sum := "864778a586047e5aa2e5ec6ca5d72accc69a24afac84acb66f64dbe21d3b954b", func := "skymosaic/skymosaiclaw25.CoderUnique", spec := "coderUnique", unfollowed := true, recurses := true, apart := false, narrowed := true }
def CoderUniqueUptoSaid : Prop := coderUniqueUptoRow.holds Try.pinned (OpenSpec.upto coderUniqueSpec)

/-- 'skymosaiclaw25.CoderErrors', WHERE WHAT IT READS IS OF BULK AT MOST 1048576: true; the input reads as it did. -/
def coderErrorsUptoRow : OpenClaim := { program := "ytgmooalikccbiaa", sum := "864778a586047e5aa2e5ec6ca5d72accc69a24afac84acb66f64dbe21d3b954b", func := "skymosaic/skymosaiclaw25.CoderErrors", spec := "coderErrors", unfollowed := true, recurses := true, apart := false, narrowed := true }
def CoderErrorsUptoSaid : Prop := coderErrorsUptoRow.holds Try.pinned (OpenSpec.upto coderErrorsSpec)

end Rows
end Go.Proofs.Ytgmooalikccbiaa
