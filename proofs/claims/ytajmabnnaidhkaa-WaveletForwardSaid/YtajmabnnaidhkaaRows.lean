/-
  No cell of these rows narrows 'for every input' (looked for: loops, veiled, ifaces, maps, wideKeys, modest, calm, conditions, laid).
  DERIVED. THE GIVEN ROWS OF THIS SEAT. 7 by the template 'for every input the law returns true; each argument reads behind the call as it read before'; 0 by the template 'total and deterministic' (their statements: YtajmabnnaidhkaaTotals.lean).
  GIVEN WITH THE SEED: the statements are not yours to turn. If you find one false, say at which input.
  Laid BY PROGRAM, IN A SANDBOX (cutbox-rows.mjs): the forced cells as the released guide's own fill.sh prints them over the translation 087e0a5f5a5d2713… (all of the seat's roots in one cut). By AI agents, Wed Nov 11 2026. No macro, syntax, notation, axiom, sorry.
-/
import Derived.Test.YtajmabnnaidhkaaChecked
import GoSem.Claim
import GoSem.ClaimJoined
import GoSem.ClaimMapViews
import Derived.JoinedTies
import Derived.KernelRfl
namespace Go.Proofs.Ytajmabnnaidhkaa
/- THE CELL 'sum', in the pinned program and in every row, IS THE sha256 OF THE DUMP (.gsa) THAT YtajmabnnaidhkaaProg.lean LOADS. Nothing in Lean hashes anything: it is a label: what it is worth is what the hold of that sum in a sandbox is worth. -/
noncomputable def Try.pinned : Pinned := { name := "ytajmabnnaidhkaa", sum := "087e0a5f5a5d271358b24d98734a330a441e558a48f6b9f43887297ea7391766", checked := Try.checked }
namespace Rows
def none {H : Type} : Left H := { results := [], args := [] }

/-- 'skymosaiclaw24.WaveletLocal': WHATEVER THE INPUT: true; the input reads as it did. -/
def waveletLocalSpec : ChangeSpec := { name := "waveletLocal", fn := fun _ => fun
  | [d1, d2, d3, d4] => { results := [.lit (.bool true)], args := [d1, d2, d3, d4] }
  | _ => none }
def waveletLocalRow : OpenClaim := { program := "ytajmabnnaidhkaa", sum := "087e0a5f5a5d271358b24d98734a330a441e558a48f6b9f43887297ea7391766", func := "skymosaic/skymosaiclaw24.WaveletLocal", spec := "waveletLocal", unfollowed := true, recurses := true, apart := false }
def WaveletLocalSaid : Prop := waveletLocalRow.holds Try.pinned (OpenSpec.ofChange waveletLocalSpec)

/-- ITS FALSE NEIGHBOUR: 'it returns false'. Refute it at one input. -/
def waveletLocalWrong : ChangeSpec := { name := "waveletLocal", fn := fun _ => fun
  | [d1, d2, d3, d4] => { results := [.lit (.bool false)], args := [d1, d2, d3, d4] }
  | _ => none }
def WaveletLocalWrongFalsely : Prop := waveletLocalRow.holds Try.pinned (OpenSpec.ofChange waveletLocalWrong)

/-- 'skymosaiclaw24.WaveletBounds': WHATEVER THE INPUT: true; the input reads as it did. -/
def waveletBoundsSpec : ChangeSpec := { name := "waveletBounds", fn := fun _ => fun
  | [d1, d2, d3] => { results := [.lit (.bool true)], args := [d1, d2, d3] }
  | _ => none }
def waveletBoundsRow : OpenClaim := { program := "ytajmabnnaidhkaa", sum := "087e0a5f5a5d271358b24d98734a330a441e558a48f6b9f43887297ea7391766", func := "skymosaic/skymosaiclaw24.WaveletBounds", spec := "waveletBounds", unfollowed := true, recurses := true, apart := false }
def WaveletBoundsSaid : Prop := waveletBoundsRow.holds Try.pinned (OpenSpec.ofChange waveletBoundsSpec)

/-- ITS FALSE NEIGHBOUR: 'it returns false'. Refute it at one input. -/
def waveletBoundsWrong : ChangeSpec := { name := "waveletBounds", fn := fun _ => fun
  | [d1, d2, d3] => { results := [.lit (.bool false)], args := [d1, d2, d3] }
  | _ => none }
def WaveletBoundsWrongFalsely : Prop := waveletBoundsRow.holds Try.pinned (OpenSpec.ofChange waveletBoundsWrong)

/-- 'skymosaiclaw24.WaveletSteps': WHATEVER THE INPUT: true; the input reads as it did. -/
def waveletStepsSpec : ChangeSpec := { name := "waveletSteps", fn := fun _ => fun
  | [d1, d2] => { results := [.lit (.bool true)], args := [d1, d2] }
  | _ => none }
def waveletStepsRow : OpenClaim := { program := "ytajmabnnaidhkaa", sum := "087e0a5f5a5d271358b24d98734a330a441e558a48f6b9f43887297ea7391766", func := "skymosaic/skymosaiclaw24.WaveletSteps", spec := "waveletSteps", unfollowed := true, recurses := true, apart := false }
def WaveletStepsSaid : Prop := waveletStepsRow.holds Try.pinned (OpenSpec.ofChange waveletStepsSpec)

/-- ITS FALSE NEIGHBOUR: 'it returns false'. Refute it at one input. -/
def waveletStepsWrong : ChangeSpec := { name := "waveletSteps", fn := fun _ => fun
  | [d1, d2] => { results := [.lit (.bool false)], args := [d1, d2] }
  | _ => none }
def WaveletStepsWrongFalsely : Prop := waveletStepsRow.holds Try.pinned (OpenSpec.ofChange waveletStepsWrong)

/-- 'skymosaiclaw24.WaveletForward': WHATEVER THE INPUT: true; the input reads as it did. -/
def waveletForwardSpec : ChangeSpec := { name := "waveletForward", fn := fun _ => fun
  | [d1, d2, d3, d4] => { results := [.lit (.bool true)], args := [d1, d2, d3, d4] }
  | _ => none }
def waveletForwardRow : OpenClaim := { program := "ytajmabnnaidhkaa", sum := "087e0a5f5a5d271358b24d98734a330a441e558a48f6b9f43887297ea7391766", func := "skymosaic/skymosaiclaw24.WaveletForward", spec := "waveletForward", unfollowed := true, recurses := true, apart := false }
def WaveletForwardSaid : Prop := waveletForwardRow.holds Try.pinned (OpenSpec.ofChange waveletForwardSpec)

/-- ITS FALSE NEIGHBOUR: 'it returns false'. Refute it at one input. -/
def waveletForwardWrong : ChangeSpec := { name := "waveletForward", fn := fun _ => fun
  | [d1, d2, d3, d4] => { results := [.lit (.bool false)], args := [d1, d2, d3, d4] }
  | _ => none }
def WaveletForwardWrongFalsely : Prop := waveletForwardRow.holds Try.pinned (OpenSpec.ofChange waveletForwardWrong)

/-- 'skymosaiclaw24.WaveletInverts': WHATEVER THE INPUT: true; the input reads as it did. -/
def waveletInvertsSpec : ChangeSpec := { name := "waveletInverts", fn := fun _ => fun
  | [d1, d2] => { results := [.lit (.bool true)], args := [d1, d2] }
  | _ => none }
def waveletInvertsRow : OpenClaim := { program := "ytajmabnnaidhkaa", sum := "087e0a5f5a5d271358b24d98734a330a441e558a48f6b9f43887297ea7391766", func := "skymosaic/skymosaiclaw24.WaveletInverts", spec := "waveletInverts", unfollowed := true, recurses := true, apart := false }
def WaveletInvertsSaid : Prop := waveletInvertsRow.holds Try.pinned (OpenSpec.ofChange waveletInvertsSpec)

/-- ITS FALSE NEIGHBOUR: 'it returns false'. Refute it at one input. -/
def waveletInvertsWrong : ChangeSpec := { name := "waveletInverts", fn := fun _ => fun
  | [d1, d2] => { results := [.lit (.bool false)], args := [d1, d2] }
  | _ => none }
def WaveletInvertsWrongFalsely : Prop := waveletInvertsRow.holds Try.pinned (OpenSpec.ofChange waveletInvertsWrong)

/-- 'skymosaiclaw24.WaveletLow': WHATEVER THE INPUT: true; the input reads as it did. -/
def waveletLowSpec : ChangeSpec := { name := "waveletLow", fn := fun _ => fun
  | [d1, d2, d3, d4] => { results := [.lit (.bool true)], args := [d1, d2, d3, d4] }
  | _ => none }
def waveletLowRow : OpenClaim := { program := "ytajmabnnaidhkaa", sum := "087e0a5f5a5d271358b24d98734a330a441e558a48f6b9f43887297ea7391766", func := "skymosaic/skymosaiclaw24.WaveletLow", spec := "waveletLow", unfollowed := true, recurses := true, apart := false }
def WaveletLowSaid : Prop := waveletLowRow.holds Try.pinned (OpenSpec.ofChange waveletLowSpec)

/-- ITS FALSE NEIGHBOUR: 'it returns false'. Refute it at one input. -/
def waveletLowWrong : ChangeSpec := { name := "waveletLow", fn := fun _ => fun
  | [d1, d2, d3, d4] => { results := [.lit (.bool false)], args := [d1, d2, d3, d4] }
  | _ => none }
def WaveletLowWrongFalsely : Prop := waveletLowRow.holds Try.pinned (OpenSpec.ofChange waveletLowWrong)

/-- 'skymosaiclaw24.WaveletOrders': WHATEVER THE INPUT: true; the input reads as it did. -/
def waveletOrdersSpec : ChangeSpec := { name := "waveletOrders", fn := fun _ => fun
  | [d1, d2] => { results := [.lit (.bool true)], args := [d1, d2] }
  | _ => none }
def waveletOrdersRow : OpenClaim := { program := "ytajmabnnaidhkaa", sum := "087e0a5f5a5d271358b24d98734a330a441e558a48f6b9f43887297ea7391766", func := "skymosaic/skymosaiclaw24.WaveletOrders", spec := "waveletOrders", unfollowed := true, recurses := true, apart := false }
def WaveletOrdersSaid : Prop := waveletOrdersRow.holds Try.pinned (OpenSpec.ofChange waveletOrdersSpec)

/-- ITS FALSE NEIGHBOUR: 'it returns false'. Refute it at one input. -/
def waveletOrdersWrong : ChangeSpec := { name := "waveletOrders", fn := fun _ => fun
  | [d1, d2] => { results := [.lit (.bool false)], args := [d1, d2] }
  | _ => none }
def WaveletOrdersWrongFalsely : Prop := waveletOrdersRow.holds Try.pinned (OpenSpec.ofChange waveletOrdersWrong)

/- THE SECOND FORM. 'bulk': how many values and letters a reading holds, each counted each time it is reached (what is shared counts as often as it is met; a slice's spare places count too). A statement '..UptoSaid' is the law's where the arguments, and the package variables that the reading takes, are together of bulk at most 1048576: NARROWER than '..Said'. Prove '..Said' where nothing that the law and all that it calls make is longer than what came in: it says more and counts as full. Else prove '..UptoSaid'. A law counts once. -/
mutual
def uptoBulk {H : Type} : DataW H → Nat
  | .lit (.string bytes) => bytes.length + 1
  | .lit _ => 1
  | .nil => 1
  | .ptr d => uptoBulk d + 1
  | .slice elems spare => uptoBulkAll elems + uptoBulkAll spare + 1
  | .agg parts => uptoBulkAll parts + 1
  | .iface _ d => uptoBulk d + 1
  | .map entries => uptoBulkEntries entries + 1
  | .held _ => 1
def uptoBulkAll {H : Type} : List (DataW H) → Nat
  | [] => 0
  | d :: r => uptoBulk d + uptoBulkAll r
def uptoBulkEntries {H : Type} : List (Lit × DataW H) → Nat
  | [] => 0
  | x :: r => uptoBulkEntry x + uptoBulkEntries r
def uptoBulkEntry {H : Type} : Lit × DataW H → Nat
  | (.string bytes, d) => bytes.length + uptoBulk d + 1
  | (_, d) => uptoBulk d + 1
 end
def uptoSmall : (H : Type) → List (DataW H) → Bool := fun _ ds => decide (uptoBulkAll ds ≤ 1048576)
def OpenSpec.upto (s : _root_.Go.ChangeSpec) : _root_.Go.OpenSpec := { _root_.Go.OpenSpec.ofChange s with cond := some uptoSmall }

/-- 'skymosaiclaw24.WaveletLocal', WHERE WHAT IT READS IS OF BULK AT MOST 1048576: true; the input reads as it did. -/
def waveletLocalUptoRow : OpenClaim := { program := "ytajmabnnaidhkaa", sum := "087e0a5f5a5d271358b24d98734a330a441e558a48f6b9f43887297ea7391766", func := "skymosaic/skymosaiclaw24.WaveletLocal", spec := "waveletLocal", unfollowed := true, recurses := true, apart := false, narrowed := true }
def WaveletLocalUptoSaid : Prop := waveletLocalUptoRow.holds Try.pinned (OpenSpec.upto waveletLocalSpec)

/-- 'skymosaiclaw24.WaveletBounds', WHERE WHAT IT READS IS OF BULK AT MOST 1048576: true; the input reads as it did. -/
def waveletBoundsUptoRow : OpenClaim := { program := "ytajmabnnaidhkaa", sum := "087e0a5f5a5d271358b24d98734a330a441e558a48f6b9f43887297ea7391766", func := "skymosaic/skymosaiclaw24.WaveletBounds", spec := "waveletBounds", unfollowed := true, recurses := true, apart := false, narrowed := true }
def WaveletBoundsUptoSaid : Prop := waveletBoundsUptoRow.holds Try.pinned (OpenSpec.upto waveletBoundsSpec)

/-- 'skymosaiclaw24.WaveletSteps', WHERE WHAT IT READS IS OF BULK AT MOST 1048576: true; the input reads as it did. -/
def waveletStepsUptoRow : OpenClaim := { program := "ytajmabnnaidhkaa", sum := "087e0a5f5a5d271358b24d98734a330a441e558a48f6b9f43887297ea7391766", func := "skymosaic/skymosaiclaw24.WaveletSteps", spec := "waveletSteps", unfollowed := true, recurses := true, apart := false, narrowed := true }
def WaveletStepsUptoSaid : Prop := waveletStepsUptoRow.holds Try.pinned (OpenSpec.upto waveletStepsSpec)

/-- 'skymosaiclaw24.WaveletForward', WHERE WHAT IT READS IS OF BULK AT MOST 1048576: true; the input reads as it did. -/
def waveletForwardUptoRow : OpenClaim := { program := "ytajmabnnaidhkaa", sum := "087e0a5f5a5d271358b24d98734a330a441e558a48f6b9f43887297ea7391766", func := "skymosaic/skymosaiclaw24.WaveletForward", spec := "waveletForward", unfollowed := true, recurses := true, apart := false, narrowed := true }
def WaveletForwardUptoSaid : Prop := waveletForwardUptoRow.holds Try.pinned (OpenSpec.upto waveletForwardSpec)

/-- 'skymosaiclaw24.WaveletInverts', WHERE WHAT IT READS IS OF BULK AT MOST 1048576: true; the input reads as it did. -/
def waveletInvertsUptoRow : OpenClaim := { program := "ytajmabnnaidhkaa", sum := "087e0a5f5a5d271358b24d98734a330a441e558a48f6b9f43887297ea7391766", func := "skymosaic/skymosaiclaw24.WaveletInverts", spec := "waveletInverts", unfollowed := true, recurses := true, apart := false, narrowed := true }
def WaveletInvertsUptoSaid : Prop := waveletInvertsUptoRow.holds Try.pinned (OpenSpec.upto waveletInvertsSpec)

/-- 'skymosaiclaw24.WaveletLow', WHERE WHAT IT READS IS OF BULK AT MOST 1048576: true; the input reads as it did. -/
def waveletLowUptoRow : OpenClaim := { program := "ytajmabnnaidhkaa", sum := "087e0a5f5a5d271358b24d98734a330a441e558a48f6b9f43887297ea7391766", func := "skymosaic/skymosaiclaw24.WaveletLow", spec := "waveletLow", unfollowed := true, recurses := true, apart := false, narrowed := true }
def WaveletLowUptoSaid : Prop := waveletLowUptoRow.holds Try.pinned (OpenSpec.upto waveletLowSpec)

/-- 'skymosaiclaw24.WaveletOrders', WHERE WHAT IT READS IS OF BULK AT MOST 1048576: true; the input reads as it did. -/
def waveletOrdersUptoRow : OpenClaim := { program := "ytajmabnnaidhkaa", sum := "087e0a5f5a5d271358b24d98734a330a441e558a48f6b9f43887297ea7391766", func := "skymosaic/skymosaiclaw24.WaveletOrders", spec := "waveletOrders", unfollowed := true, recurses := true, apart := false, narrowed := true }
def WaveletOrdersUptoSaid : Prop := waveletOrdersUptoRow.holds Try.pinned (OpenSpec.upto waveletOrdersSpec)

end Rows
end Go.Proofs.Ytajmabnnaidhkaa
