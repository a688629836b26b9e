/-
  No cell of these rows narrows 'for every input' (looked for: loops, veiled, ifaces, maps, wideKeys, modest, calm, conditions, laid).
  DERIVED. THE GIVEN ROWS OF THIS SEAT. 10 by the template 'for every input the law returns true; each argument reads behind the call as it read before'; 0 by the template 'total and deterministic' (their statements: YtghielfbdpkhmaaTotals.lean).
  GIVEN WITH THE SEED: the statements are not yours to turn. If you find one false, say at which input.
  Laid BY PROGRAM, IN A SANDBOX (cutbox-rows.mjs): the forced cells as the released guide's own fill.sh prints them over the translation 95e28e20cf26b9e7… (all of the seat's roots in one cut). By AI agents, Wed Nov 11 2026. No macro, syntax, notation, axiom, sorry.
-/
import Derived.Test.YtghielfbdpkhmaaChecked
import GoSem.Claim
import GoSem.ClaimJoined
import GoSem.ClaimMapViews
import Derived.JoinedTies
import Derived.KernelRfl
namespace Go.Proofs.Ytghielfbdpkhmaa
/- THE CELL 'sum', in the pinned program and in every row, IS THE sha256 OF THE DUMP (.gsa) THAT YtghielfbdpkhmaaProg.lean LOADS. Nothing in Lean hashes anything: it is a label: what it is worth is what the hold of that sum in a sandbox is worth. -/
noncomputable def Try.pinned : Pinned := { name := "ytghielfbdpkhmaa", sum := "95e28e20cf26b9e788ddf615fc99da3498fa3c0c651014b6d711368808848291", checked := Try.checked }
namespace Rows
def none {H : Type} : Left H := { results := [], args := [] }

/-- 'skymosaiclaw23.BlendWeights': WHATEVER THE INPUT: true; the input reads as it did. -/
def blendWeightsSpec : ChangeSpec := { name := "blendWeights", fn := fun _ => fun
  | [d1, d2, d3, d4, d5, d6] => { results := [.lit (.bool true)], args := [d1, d2, d3, d4, d5, d6] }
  | _ => none }
def blendWeightsRow : OpenClaim := { program := "ytghielfbdpkhmaa", sum := "95e28e20cf26b9e788ddf615fc99da3498fa3c0c651014b6d711368808848291", func := "skymosaic/skymosaiclaw23.BlendWeights", spec := "blendWeights", unfollowed := true, recurses := true, apart := false }
def BlendWeightsSaid : Prop := blendWeightsRow.holds Try.pinned (OpenSpec.ofChange blendWeightsSpec)

/-- ITS FALSE NEIGHBOUR: 'it returns false'. Refute it at one input. -/
def blendWeightsWrong : ChangeSpec := { name := "blendWeights", fn := fun _ => fun
  | [d1, d2, d3, d4, d5, d6] => { results := [.lit (.bool false)], args := [d1, d2, d3, d4, d5, d6] }
  | _ => none }
def BlendWeightsWrongFalsely : Prop := blendWeightsRow.holds Try.pinned (OpenSpec.ofChange blendWeightsWrong)

/-- 'skymosaiclaw23.BlendMix': WHATEVER THE INPUT: true; the input reads as it did. -/
def blendMixSpec : ChangeSpec := { name := "blendMix", fn := fun _ => fun
  | [d1, d2, d3, d4, d5] => { results := [.lit (.bool true)], args := [d1, d2, d3, d4, d5] }
  | _ => none }
def blendMixRow : OpenClaim := { program := "ytghielfbdpkhmaa", sum := "95e28e20cf26b9e788ddf615fc99da3498fa3c0c651014b6d711368808848291", func := "skymosaic/skymosaiclaw23.BlendMix", spec := "blendMix", unfollowed := true, recurses := true, apart := false }
def BlendMixSaid : Prop := blendMixRow.holds Try.pinned (OpenSpec.ofChange blendMixSpec)

/-- ITS FALSE NEIGHBOUR: 'it returns false'. Refute it at one input. -/
def blendMixWrong : ChangeSpec := { name := "blendMix", fn := fun _ => fun
  | [d1, d2, d3, d4, d5] => { results := [.lit (.bool false)], args := [d1, d2, d3, d4, d5] }
  | _ => none }
def BlendMixWrongFalsely : Prop := blendMixRow.holds Try.pinned (OpenSpec.ofChange blendMixWrong)

/-- 'skymosaiclaw23.BlendBetween': WHATEVER THE INPUT: true; the input reads as it did. -/
def blendBetweenSpec : ChangeSpec := { name := "blendBetween", fn := fun _ => fun
  | [d1, d2, d3] => { results := [.lit (.bool true)], args := [d1, d2, d3] }
  | _ => none }
def blendBetweenRow : OpenClaim := { program := "ytghielfbdpkhmaa", sum := "95e28e20cf26b9e788ddf615fc99da3498fa3c0c651014b6d711368808848291", func := "skymosaic/skymosaiclaw23.BlendBetween", spec := "blendBetween", unfollowed := true, recurses := true, apart := false }
def BlendBetweenSaid : Prop := blendBetweenRow.holds Try.pinned (OpenSpec.ofChange blendBetweenSpec)

/-- ITS FALSE NEIGHBOUR: 'it returns false'. Refute it at one input. -/
def blendBetweenWrong : ChangeSpec := { name := "blendBetween", fn := fun _ => fun
  | [d1, d2, d3] => { results := [.lit (.bool false)], args := [d1, d2, d3] }
  | _ => none }
def BlendBetweenWrongFalsely : Prop := blendBetweenRow.holds Try.pinned (OpenSpec.ofChange blendBetweenWrong)

/-- 'skymosaiclaw23.BlendFamily': WHATEVER THE INPUT: true; the input reads as it did. -/
def blendFamilySpec : ChangeSpec := { name := "blendFamily", fn := fun _ => fun
  | [d1, d2, d3] => { results := [.lit (.bool true)], args := [d1, d2, d3] }
  | _ => none }
def blendFamilyRow : OpenClaim := { program := "ytghielfbdpkhmaa", sum := "95e28e20cf26b9e788ddf615fc99da3498fa3c0c651014b6d711368808848291", func := "skymosaic/skymosaiclaw23.BlendFamily", spec := "blendFamily", unfollowed := true, recurses := true, apart := false }
def BlendFamilySaid : Prop := blendFamilyRow.holds Try.pinned (OpenSpec.ofChange blendFamilySpec)

/-- ITS FALSE NEIGHBOUR: 'it returns false'. Refute it at one input. -/
def blendFamilyWrong : ChangeSpec := { name := "blendFamily", fn := fun _ => fun
  | [d1, d2, d3] => { results := [.lit (.bool false)], args := [d1, d2, d3] }
  | _ => none }
def BlendFamilyWrongFalsely : Prop := blendFamilyRow.holds Try.pinned (OpenSpec.ofChange blendFamilyWrong)

/-- 'skymosaiclaw23.BlendPixels': WHATEVER THE INPUT: true; the input reads as it did. -/
def blendPixelsSpec : ChangeSpec := { name := "blendPixels", fn := fun _ => fun
  | [d1, d2, d3, d4, d5, d6, d7] => { results := [.lit (.bool true)], args := [d1, d2, d3, d4, d5, d6, d7] }
  | _ => none }
def blendPixelsRow : OpenClaim := { program := "ytghielfbdpkhmaa", sum := "95e28e20cf26b9e788ddf615fc99da3498fa3c0c651014b6d711368808848291", func := "skymosaic/skymosaiclaw23.BlendPixels", spec := "blendPixels", unfollowed := true, recurses := true, apart := false }
def BlendPixelsSaid : Prop := blendPixelsRow.holds Try.pinned (OpenSpec.ofChange blendPixelsSpec)

/-- ITS FALSE NEIGHBOUR: 'it returns false'. Refute it at one input. -/
def blendPixelsWrong : ChangeSpec := { name := "blendPixels", fn := fun _ => fun
  | [d1, d2, d3, d4, d5, d6, d7] => { results := [.lit (.bool false)], args := [d1, d2, d3, d4, d5, d6, d7] }
  | _ => none }
def BlendPixelsWrongFalsely : Prop := blendPixelsRow.holds Try.pinned (OpenSpec.ofChange blendPixelsWrong)

/-- 'skymosaiclaw23.BlendLocal': WHATEVER THE INPUT: true; the input reads as it did. -/
def blendLocalSpec : ChangeSpec := { name := "blendLocal", fn := fun _ => fun
  | [d1, d2, d3, d4, d5, d6, d7] => { results := [.lit (.bool true)], args := [d1, d2, d3, d4, d5, d6, d7] }
  | _ => none }
def blendLocalRow : OpenClaim := { program := "ytghielfbdpkhmaa", sum := "95e28e20cf26b9e788ddf615fc99da3498fa3c0c651014b6d711368808848291", func := "skymosaic/skymosaiclaw23.BlendLocal", spec := "blendLocal", unfollowed := true, recurses := true, apart := false }
def BlendLocalSaid : Prop := blendLocalRow.holds Try.pinned (OpenSpec.ofChange blendLocalSpec)

/-- ITS FALSE NEIGHBOUR: 'it returns false'. Refute it at one input. -/
def blendLocalWrong : ChangeSpec := { name := "blendLocal", fn := fun _ => fun
  | [d1, d2, d3, d4, d5, d6, d7] => { results := [.lit (.bool false)], args := [d1, d2, d3, d4, d5, d6, d7] }
  | _ => none }
def BlendLocalWrongFalsely : Prop := blendLocalRow.holds Try.pinned (OpenSpec.ofChange blendLocalWrong)

/-- 'skymosaiclaw23.BlendKeys': WHATEVER THE INPUT: true; the input reads as it did. -/
def blendKeysSpec : ChangeSpec := { name := "blendKeys", fn := fun _ => fun
  | [d1, d2, d3, d4] => { results := [.lit (.bool true)], args := [d1, d2, d3, d4] }
  | _ => none }
def blendKeysRow : OpenClaim := { program := "ytghielfbdpkhmaa", sum := "95e28e20cf26b9e788ddf615fc99da3498fa3c0c651014b6d711368808848291", func := "skymosaic/skymosaiclaw23.BlendKeys", spec := "blendKeys", unfollowed := true, recurses := true, apart := false }
def BlendKeysSaid : Prop := blendKeysRow.holds Try.pinned (OpenSpec.ofChange blendKeysSpec)

/-- ITS FALSE NEIGHBOUR: 'it returns false'. Refute it at one input. -/
def blendKeysWrong : ChangeSpec := { name := "blendKeys", fn := fun _ => fun
  | [d1, d2, d3, d4] => { results := [.lit (.bool false)], args := [d1, d2, d3, d4] }
  | _ => none }
def BlendKeysWrongFalsely : Prop := blendKeysRow.holds Try.pinned (OpenSpec.ofChange blendKeysWrong)

/-- 'skymosaiclaw23.BlendTiles': WHATEVER THE INPUT: true; the input reads as it did. -/
def blendTilesSpec : ChangeSpec := { name := "blendTiles", fn := fun _ => fun
  | [d1, d2, d3, d4, d5] => { results := [.lit (.bool true)], args := [d1, d2, d3, d4, d5] }
  | _ => none }
def blendTilesRow : OpenClaim := { program := "ytghielfbdpkhmaa", sum := "95e28e20cf26b9e788ddf615fc99da3498fa3c0c651014b6d711368808848291", func := "skymosaic/skymosaiclaw23.BlendTiles", spec := "blendTiles", unfollowed := true, recurses := true, apart := false }
def BlendTilesSaid : Prop := blendTilesRow.holds Try.pinned (OpenSpec.ofChange blendTilesSpec)

/-- ITS FALSE NEIGHBOUR: 'it returns false'. Refute it at one input. -/
def blendTilesWrong : ChangeSpec := { name := "blendTiles", fn := fun _ => fun
  | [d1, d2, d3, d4, d5] => { results := [.lit (.bool false)], args := [d1, d2, d3, d4, d5] }
  | _ => none }
def BlendTilesWrongFalsely : Prop := blendTilesRow.holds Try.pinned (OpenSpec.ofChange blendTilesWrong)

/-- 'skymosaiclaw23.BlendShrinks': WHATEVER THE INPUT: true; the input reads as it did. -/
def blendShrinksSpec : ChangeSpec := { name := "blendShrinks", fn := fun _ => fun
  | [d1, d2, d3, d4, d5] => { results := [.lit (.bool true)], args := [d1, d2, d3, d4, d5] }
  | _ => none }
def blendShrinksRow : OpenClaim := { program := "ytghielfbdpkhmaa", sum := "95e28e20cf26b9e788ddf615fc99da3498fa3c0c651014b6d711368808848291", func := "skymosaic/skymosaiclaw23.BlendShrinks", spec := "blendShrinks", unfollowed := true, recurses := true, apart := false }
def BlendShrinksSaid : Prop := blendShrinksRow.holds Try.pinned (OpenSpec.ofChange blendShrinksSpec)

/-- ITS FALSE NEIGHBOUR: 'it returns false'. Refute it at one input. -/
def blendShrinksWrong : ChangeSpec := { name := "blendShrinks", fn := fun _ => fun
  | [d1, d2, d3, d4, d5] => { results := [.lit (.bool false)], args := [d1, d2, d3, d4, d5] }
  | _ => none }
def BlendShrinksWrongFalsely : Prop := blendShrinksRow.holds Try.pinned (OpenSpec.ofChange blendShrinksWrong)

/-- 'skymosaiclaw23.BlendLevels': WHATEVER THE INPUT: true; the input reads as it did. -/
def blendLevelsSpec : ChangeSpec := { name := "blendLevels", fn := fun _ => fun
  | [d1, d2, d3, d4, d5] => { results := [.lit (.bool true)], args := [d1, d2, d3, d4, d5] }
  | _ => none }
def blendLevelsRow : OpenClaim := { program := "ytghielfbdpkhmaa", sum := "95e28e20cf26b9e788ddf615fc99da3498fa3c0c651014b6d711368808848291", func := "skymosaic/skymosaiclaw23.BlendLevels", spec := "blendLevels", unfollowed := true, recurses := true, apart := false }
def BlendLevelsSaid : Prop := blendLevelsRow.holds Try.pinned (OpenSpec.ofChange blendLevelsSpec)

/-- ITS FALSE NEIGHBOUR: 'it returns false'. Refute it at one input. -/
def blendLevelsWrong : ChangeSpec := { name := "blendLevels", fn := fun _ => fun
  | [d1, d2, d3, d4, d5] => { results := [.lit (.bool false)], args := [d1, d2, d3, d4, d5] }
  | _ => none }
def BlendLevelsWrongFalsely : Prop := blendLevelsRow.holds Try.pinned (OpenSpec.ofChange blendLevelsWrong)

/- THE SECOND FORM. 'bulk': how many values and letters a reading holds, each counted each time it is reached (what is shared counts as often as it is met; a slice's spare places count too). A statement '..UptoSaid' is the law's where the arguments, and the package variables that the reading takes, are together of bulk at most 1048576: NARROWER than '..Said'. Prove '..Said' where nothing that the law and all that it calls make is longer than what came in: it says more and counts as full. Else prove '..UptoSaid'. A law counts once. -/
mutual
def uptoBulk {H : Type} : DataW H → Nat
  | .lit (.string bytes) => bytes.length + 1
  | .lit _ => 1
  | .nil => 1
  | .ptr d => uptoBulk d + 1
  | .slice elems spare => uptoBulkAll elems + uptoBulkAll spare + 1
  | .agg parts => uptoBulkAll parts + 1
  | .iface _ d => uptoBulk d + 1
  | .map entries => uptoBulkEntries entries + 1
  | .held _ => 1
def uptoBulkAll {H : Type} : List (DataW H) → Nat
  | [] => 0
  | d :: r => uptoBulk d + uptoBulkAll r
def uptoBulkEntries {H : Type} : List (Lit × DataW H) → Nat
  | [] => 0
  | x :: r => uptoBulkEntry x + uptoBulkEntries r
def uptoBulkEntry {H : Type} : Lit × DataW H → Nat
  | (.string bytes, d) => bytes.length + uptoBulk d + 1
  | (_, d) => uptoBulk d + 1
 end
def uptoSmall : (H : Type) → List (DataW H) → Bool := fun _ ds => decide (uptoBulkAll ds ≤ 1048576)
def OpenSpec.upto (s : _root_.Go.ChangeSpec) : _root_.Go.OpenSpec := { _root_.Go.OpenSpec.ofChange s with cond := some uptoSmall }

/-- 'skymosaiclaw23.BlendWeights', WHERE WHAT IT READS IS OF BULK AT MOST 1048576: true; the input reads as it did. -/
def blendWeightsUptoRow : OpenClaim := { program := "ytghielfbdpkhmaa", sum := "95e28e20cf26b9e788ddf615fc99da3498fa3c0c651014b6d711368808848291", func := "skymosaic/skymosaiclaw23.BlendWeights", spec := "blendWeights", unfollowed := true, recurses := true, apart := false, narrowed := true }
def BlendWeightsUptoSaid : Prop := blendWeightsUptoRow.holds Try.pinned (OpenSpec.upto blendWeightsSpec)

/-- 'skymosaiclaw23.BlendMix', WHERE WHAT IT READS IS OF BULK AT MOST 1048576: true; the input reads as it did. -/
def blendMixUptoRow : OpenClaim := { program := "ytghielfbdpkhmaa", sum := "95e28e20cf26b9e788ddf615fc99da3498fa3c0c651014b6d711368808848291", func := "skymosaic/skymosaiclaw23.BlendMix", spec := "blendMix", unfollowed := true, recurses := true, apart := false, narrowed := true }
def BlendMixUptoSaid : Prop := blendMixUptoRow.holds Try.pinned (OpenSpec.upto blendMixSpec)

/-- 'skymosaiclaw23.BlendBetween', WHERE WHAT IT READS IS OF BULK AT MOST 1048576: true; the input reads as it did. -/
def blendBetweenUptoRow : OpenClaim := { program := "ytghielfbdpkhmaa", sum := "95e28e20cf26b9e788ddf615fc99da3498fa3c0c651014b6d711368808848291", func := "skymosaic/skymosaiclaw23.BlendBetween", spec := "blendBetween", unfollowed := true, recurses := true, apart := false, narrowed := true }
def BlendBetweenUptoSaid : Prop := blendBetweenUptoRow.holds Try.pinned (OpenSpec.upto blendBetweenSpec)

/-- 'skymosaiclaw23.BlendFamily', WHERE WHAT IT READS IS OF BULK AT MOST 1048576: true; the input reads as it did. -/
def blendFamilyUptoRow : OpenClaim := { program := "ytghielfbdpkhmaa", sum := "95e28e20cf26b9e788ddf615fc99da3498fa3c0c651014b6d711368808848291", func := "skymosaic/skymosaiclaw23.BlendFamily", spec := "blendFamily", unfollowed := true, recurses := true, apart := false, narrowed := true }
def BlendFamilyUptoSaid : Prop := blendFamilyUptoRow.holds Try.pinned (OpenSpec.upto blendFamilySpec)

/-- 'skymosaiclaw23.BlendPixels', WHERE WHAT IT READS IS OF BULK AT MOST 1048576: true; the input reads as it did. -/
def blendPixelsUptoRow : OpenClaim := { program := "ytghielfbdpkhmaa", sum := "95e28e20cf26b9e788ddf615fc99da3498fa3c0c651014b6d711368808848291", func := "skymosaic/skymosaiclaw23.BlendPixels", spec := "blendPixels", unfollowed := true, recurses := true, apart := false, narrowed := true }
def BlendPixelsUptoSaid : Prop := blendPixelsUptoRow.holds Try.pinned (OpenSpec.upto blendPixelsSpec)

/-- 'skymosaiclaw23.BlendLocal', WHERE WHAT IT READS IS OF BULK AT MOST 1048576: true; the input reads as it did. -/
def blendLocalUptoRow : OpenClaim := { program := "ytghielfbdpkhmaa", sum := "95e28e20cf26b9e788ddf615fc99da3498fa3c0c651014b6d711368808848291", func := "skymosaic/skymosaiclaw23.BlendLocal", spec := "blendLocal", unfollowed := true, recurses := true, apart := false, narrowed := true }
def BlendLocalUptoSaid : Prop := blendLocalUptoRow.holds Try.pinned (OpenSpec.upto blendLocalSpec)

/-- 'skymosaiclaw23.BlendKeys', WHERE WHAT IT READS IS OF BULK AT MOST 1048576: true; the input reads as it did. -/
def blendKeysUptoRow : OpenClaim := { program := "ytghielfbdpkhmaa", sum := "95e28e20cf26b9e788ddf615fc99da3498fa3c0c651014b6d711368808848291", func := "skymosaic/skymosaiclaw23.BlendKeys", spec := "blendKeys", unfollowed := true, recurses := true, apart := false, narrowed := true }
def BlendKeysUptoSaid : Prop := blendKeysUptoRow.holds Try.pinned (OpenSpec.upto blendKeysSpec)

/-- 'skymosaiclaw23.BlendTiles', WHERE WHAT IT READS IS OF BULK AT MOST 1048576: true; the input reads as it did. -/
def blendTilesUptoRow : OpenClaim := { program := "ytghielfbdpkhmaa", sum := "95e28e20cf26b9e788ddf615fc99da3498fa3c0c651014b6d711368808848291", func := "skymosaic/skymosaiclaw23.BlendTiles", spec := "blendTiles", unfollowed := true, recurses := true, apart := false, narrowed := true }
def BlendTilesUptoSaid : Prop := blendTilesUptoRow.holds Try.pinned (OpenSpec.upto blendTilesSpec)

/-- 'skymosaiclaw23.BlendShrinks', WHERE WHAT IT READS IS OF BULK AT MOST 1048576: true; the input reads as it did. -/
def blendShrinksUptoRow : OpenClaim := { program := "ytghielfbdpkhmaa", sum := "95e28e20cf26b9e788ddf615fc99da3498fa3c0c651014b6d711368808848291", func := "skymosaic/skymosaiclaw23.BlendShrinks", spec := "blendShrinks", unfollowed := true, recurses := true, apart := false, narrowed := true }
def BlendShrinksUptoSaid : Prop := blendShrinksUptoRow.holds Try.pinned (OpenSpec.upto blendShrinksSpec)

/-- 'skymosaiclaw23.BlendLevels', WHERE WHAT IT READS IS OF BULK AT MOST 1048576: true; the input reads as it did. -/
def blendLevelsUptoRow : OpenClaim := { program := "ytghielfbdpkhmaa", sum := "95e28e20cf26b9e788ddf615fc99da3498fa3c0c651014b6d711368808848291", func := "skymosaic/skymosaiclaw23.BlendLevels", spec := "blendLevels", unfollowed := true, recurses := true, apart := false, narrowed := true }
def BlendLevelsUptoSaid : Prop := blendLevelsUptoRow.holds Try.pinned (OpenSpec.upto blendLevelsSpec)

end Rows
end Go.Proofs.Ytghielfbdpkhmaa
