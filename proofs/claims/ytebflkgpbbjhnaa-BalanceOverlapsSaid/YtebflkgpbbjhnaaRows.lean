/-
  No cell of these rows narrows 'for every input' (looked for: loops, veiled, ifaces, maps, wideKeys, modest, calm, conditions, laid).
  DERIVED. THE GIVEN ROWS OF THIS SEAT. 8 by the template 'for every input the law returns true; each argument reads behind the call as it read before'; 0 by the template 'total and deterministic' (their statements: YtebflkgpbbjhnaaTotals.lean).
  GIVEN WITH THE SEED: the statements are not yours to turn. If you find one false, say at which input.
  Laid BY PROGRAM, IN A SANDBOX (cutbox-rows.mjs): the forced cells as the released guide's own fill.sh prints them over the translation 64795daf4397da54… (all of the seat's roots in one cut). By AI agents, Wed Nov 11 2026. No macro, syntax, notation, axiom, sorry.
-/
import Derived.Test.YtebflkgpbbjhnaaChecked
import GoSem.Claim
import GoSem.ClaimJoined
import GoSem.ClaimMapViews
import Derived.JoinedTies
import Derived.KernelRfl
namespace Go.Proofs.Ytebflkgpbbjhnaa
/- THE CELL 'sum', in the pinned program and in every row, IS THE sha256 OF THE DUMP (.gsa) THAT YtebflkgpbbjhnaaProg.lean LOADS. Nothing in Lean hashes anything: it is a label: what it is worth is what the hold of that sum in a sandbox is worth. -/
noncomputable def Try.pinned : Pinned := { name := "ytebflkgpbbjhnaa", sum := "64795daf4397da5427baef3dab78c4f195ab5a507631fb5b070dc24d3a068de3", checked := Try.checked }
namespace Rows
def none {H : Type} : Left H := { results := [], args := [] }

/-- 'skymosaiclaw17.BalanceSolves': WHATEVER THE INPUT: true; the input reads as it did. -/
def balanceSolvesSpec : ChangeSpec := { name := "balanceSolves", fn := fun _ => fun
  | [d1, d2] => { results := [.lit (.bool true)], args := [d1, d2] }
  | _ => none }
def balanceSolvesRow : OpenClaim := { program := "ytebflkgpbbjhnaa", sum := "64795daf4397da5427baef3dab78c4f195ab5a507631fb5b070dc24d3a068de3", func := "skymosaic/skymosaiclaw17.BalanceSolves", spec := "balanceSolves", unfollowed := true, recurses := true, apart := false }
def BalanceSolvesSaid : Prop := balanceSolvesRow.holds Try.pinned (OpenSpec.ofChange balanceSolvesSpec)

/-- ITS FALSE NEIGHBOUR: 'it returns false'. Refute it at one input. -/
def balanceSolvesWrong : ChangeSpec := { name := "balanceSolves", fn := fun _ => fun
  | [d1, d2] => { results := [.lit (.bool false)], args := [d1, d2] }
  | _ => none }
def BalanceSolvesWrongFalsely : Prop := balanceSolvesRow.holds Try.pinned (OpenSpec.ofChange balanceSolvesWrong)

/-- 'skymosaiclaw17.BalanceProves': WHATEVER THE INPUT: true; the input reads as it did. -/
def balanceProvesSpec : ChangeSpec := { name := "balanceProves", fn := fun _ => fun
  | [d1, d2, d3, d4] => { results := [.lit (.bool true)], args := [d1, d2, d3, d4] }
  | _ => none }
def balanceProvesRow : OpenClaim := { program := "ytebflkgpbbjhnaa", sum := "64795daf4397da5427baef3dab78c4f195ab5a507631fb5b070dc24d3a068de3", func := "skymosaic/skymosaiclaw17.BalanceProves", spec := "balanceProves", unfollowed := true, recurses := true, apart := false }
def BalanceProvesSaid : Prop := balanceProvesRow.holds Try.pinned (OpenSpec.ofChange balanceProvesSpec)

/-- ITS FALSE NEIGHBOUR: 'it returns false'. Refute it at one input. -/
def balanceProvesWrong : ChangeSpec := { name := "balanceProves", fn := fun _ => fun
  | [d1, d2, d3, d4] => { results := [.lit (.bool false)], args := [d1, d2, d3, d4] }
  | _ => none }
def BalanceProvesWrongFalsely : Prop := balanceProvesRow.holds Try.pinned (OpenSpec.ofChange balanceProvesWrong)

/-- 'skymosaiclaw17.BalanceChecks': WHATEVER THE INPUT: true; the input reads as it did. -/
def balanceChecksSpec : ChangeSpec := { name := "balanceChecks", fn := fun _ => fun
  | [d1, d2, d3, d4, d5] => { results := [.lit (.bool true)], args := [d1, d2, d3, d4, d5] }
  | _ => none }
def balanceChecksRow : OpenClaim := { program := "ytebflkgpbbjhnaa", sum := "64795daf4397da5427baef3dab78c4f195ab5a507631fb5b070dc24d3a068de3", func := "skymosaic/skymosaiclaw17.BalanceChecks", spec := "balanceChecks", unfollowed := true, recurses := true, apart := false }
def BalanceChecksSaid : Prop := balanceChecksRow.holds Try.pinned (OpenSpec.ofChange balanceChecksSpec)

/-- ITS FALSE NEIGHBOUR: 'it returns false'. Refute it at one input. -/
def balanceChecksWrong : ChangeSpec := { name := "balanceChecks", fn := fun _ => fun
  | [d1, d2, d3, d4, d5] => { results := [.lit (.bool false)], args := [d1, d2, d3, d4, d5] }
  | _ => none }
def BalanceChecksWrongFalsely : Prop := balanceChecksRow.holds Try.pinned (OpenSpec.ofChange balanceChecksWrong)

/-- 'skymosaiclaw17.BalanceCosts': WHATEVER THE INPUT: true; the input reads as it did. -/
def balanceCostsSpec : ChangeSpec := { name := "balanceCosts", fn := fun _ => fun
  | [d1, d2, d3, d4, d5] => { results := [.lit (.bool true)], args := [d1, d2, d3, d4, d5] }
  | _ => none }
def balanceCostsRow : OpenClaim := { program := "ytebflkgpbbjhnaa", sum := "64795daf4397da5427baef3dab78c4f195ab5a507631fb5b070dc24d3a068de3", func := "skymosaic/skymosaiclaw17.BalanceCosts", spec := "balanceCosts", unfollowed := true, recurses := true, apart := false }
def BalanceCostsSaid : Prop := balanceCostsRow.holds Try.pinned (OpenSpec.ofChange balanceCostsSpec)

/-- ITS FALSE NEIGHBOUR: 'it returns false'. Refute it at one input. -/
def balanceCostsWrong : ChangeSpec := { name := "balanceCosts", fn := fun _ => fun
  | [d1, d2, d3, d4, d5] => { results := [.lit (.bool false)], args := [d1, d2, d3, d4, d5] }
  | _ => none }
def BalanceCostsWrongFalsely : Prop := balanceCostsRow.holds Try.pinned (OpenSpec.ofChange balanceCostsWrong)

/-- 'skymosaiclaw17.BalanceFits': WHATEVER THE INPUT: true; the input reads as it did. -/
def balanceFitsSpec : ChangeSpec := { name := "balanceFits", fn := fun _ => fun
  | [d1, d2, d3] => { results := [.lit (.bool true)], args := [d1, d2, d3] }
  | _ => none }
def balanceFitsRow : OpenClaim := { program := "ytebflkgpbbjhnaa", sum := "64795daf4397da5427baef3dab78c4f195ab5a507631fb5b070dc24d3a068de3", func := "skymosaic/skymosaiclaw17.BalanceFits", spec := "balanceFits", unfollowed := true, recurses := true, apart := false }
def BalanceFitsSaid : Prop := balanceFitsRow.holds Try.pinned (OpenSpec.ofChange balanceFitsSpec)

/-- ITS FALSE NEIGHBOUR: 'it returns false'. Refute it at one input. -/
def balanceFitsWrong : ChangeSpec := { name := "balanceFits", fn := fun _ => fun
  | [d1, d2, d3] => { results := [.lit (.bool false)], args := [d1, d2, d3] }
  | _ => none }
def BalanceFitsWrongFalsely : Prop := balanceFitsRow.holds Try.pinned (OpenSpec.ofChange balanceFitsWrong)

/-- 'skymosaiclaw17.BalanceScales': WHATEVER THE INPUT: true; the input reads as it did. -/
def balanceScalesSpec : ChangeSpec := { name := "balanceScales", fn := fun _ => fun
  | [d1, d2, d3, d4] => { results := [.lit (.bool true)], args := [d1, d2, d3, d4] }
  | _ => none }
def balanceScalesRow : OpenClaim := { program := "ytebflkgpbbjhnaa", sum := "64795daf4397da5427baef3dab78c4f195ab5a507631fb5b070dc24d3a068de3", func := "skymosaic/skymosaiclaw17.BalanceScales", spec := "balanceScales", unfollowed := true, recurses := true, apart := false }
def BalanceScalesSaid : Prop := balanceScalesRow.holds Try.pinned (OpenSpec.ofChange balanceScalesSpec)

/-- ITS FALSE NEIGHBOUR: 'it returns false'. Refute it at one input. -/
def balanceScalesWrong : ChangeSpec := { name := "balanceScales", fn := fun _ => fun
  | [d1, d2, d3, d4] => { results := [.lit (.bool false)], args := [d1, d2, d3, d4] }
  | _ => none }
def BalanceScalesWrongFalsely : Prop := balanceScalesRow.holds Try.pinned (OpenSpec.ofChange balanceScalesWrong)

/-- 'skymosaiclaw17.BalanceBytes': WHATEVER THE INPUT: true; the input reads as it did. -/
def balanceBytesSpec : ChangeSpec := { name := "balanceBytes", fn := fun _ => fun
  | [d1, d2, d3, d4, d5, d6] => { results := [.lit (.bool true)], args := [d1, d2, d3, d4, d5, d6] }
  | _ => none }
def balanceBytesRow : OpenClaim := { program := "ytebflkgpbbjhnaa", sum := "64795daf4397da5427baef3dab78c4f195ab5a507631fb5b070dc24d3a068de3", func := "skymosaic/skymosaiclaw17.BalanceBytes", spec := "balanceBytes", unfollowed := true, recurses := true, apart := false }
def BalanceBytesSaid : Prop := balanceBytesRow.holds Try.pinned (OpenSpec.ofChange balanceBytesSpec)

/-- ITS FALSE NEIGHBOUR: 'it returns false'. Refute it at one input. -/
def balanceBytesWrong : ChangeSpec := { name := "balanceBytes", fn := fun _ => fun
  | [d1, d2, d3, d4, d5, d6] => { results := [.lit (.bool false)], args := [d1, d2, d3, d4, d5, d6] }
  | _ => none }
def BalanceBytesWrongFalsely : Prop := balanceBytesRow.holds Try.pinned (OpenSpec.ofChange balanceBytesWrong)

/-- 'skymosaiclaw17.BalanceOverlaps': WHATEVER THE INPUT: true; the input reads as it did. -/
def balanceOverlapsSpec : ChangeSpec := { name := "balanceOverlaps", fn := fun _ => fun
  | [d1, d2, d3, d4, d5] => { results := [.lit (.bool true)], args := [d1, d2, d3, d4, d5] }
  | _ => none }
def balanceOverlapsRow : OpenClaim := { program := "ytebflkgpbbjhnaa", sum := "64795daf4397da5427baef3dab78c4f195ab5a507631fb5b070dc24d3a068de3", func := "skymosaic/skymosaiclaw17.BalanceOverlaps", spec := "balanceOverlaps", unfollowed := true, recurses := true, apart := false }
def BalanceOverlapsSaid : Prop := balanceOverlapsRow.holds Try.pinned (OpenSpec.ofChange balanceOverlapsSpec)

/-- ITS FALSE NEIGHBOUR: 'it returns false'. Refute it at one input. -/
def balanceOverlapsWrong : ChangeSpec := { name := "balanceOverlaps", fn := fun _ => fun
  | [d1, d2, d3, d4, d5] => { results := [.lit (.bool false)], args := [d1, d2, d3, d4, d5] }
  | _ => none }
def BalanceOverlapsWrongFalsely : Prop := balanceOverlapsRow.holds Try.pinned (OpenSpec.ofChange balanceOverlapsWrong)

/- THE SECOND FORM. 'bulk': how many values and letters a reading holds, each counted each time it is reached (what is shared counts as often as it is met; a slice's spare places count too). A statement '..UptoSaid' is the law's where the arguments, and the package variables that the reading takes, are together of bulk at most 1048576: NARROWER than '..Said'. Prove '..Said' where nothing that the law and all that it calls make is longer than what came in: it says more and counts as full. Else prove '..UptoSaid'. A law counts once. -/
mutual
def uptoBulk {H : Type} : DataW H → Nat
  | .lit (.string bytes) => bytes.length + 1
  | .lit _ => 1
  | .nil => 1
  | .ptr d => uptoBulk d + 1
  | .slice elems spare => uptoBulkAll elems + uptoBulkAll spare + 1
  | .agg parts => uptoBulkAll parts + 1
  | .iface _ d => uptoBulk d + 1
  | .map entries => uptoBulkEntries entries + 1
  | .held _ => 1
def uptoBulkAll {H : Type} : List (DataW H) → Nat
  | [] => 0
  | d :: r => uptoBulk d + uptoBulkAll r
def uptoBulkEntries {H : Type} : List (Lit × DataW H) → Nat
  | [] => 0
  | x :: r => uptoBulkEntry x + uptoBulkEntries r
def uptoBulkEntry {H : Type} : Lit × DataW H → Nat
  | (.string bytes, d) => bytes.length + uptoBulk d + 1
  | (_, d) => uptoBulk d + 1
 end
def uptoSmall : (H : Type) → List (DataW H) → Bool := fun _ ds => decide (uptoBulkAll ds ≤ 1048576)
def OpenSpec.upto (s : _root_.Go.ChangeSpec) : _root_.Go.OpenSpec := { _root_.Go.OpenSpec.ofChange s with cond := some uptoSmall }

/-- 'skymosaiclaw17.BalanceSolves', WHERE WHAT IT READS IS OF BULK AT MOST 1048576: true; the input reads as it did. -/
def balanceSolvesUptoRow : OpenClaim := { program := "ytebflkgpbbjhnaa", sum := "64795daf4397da5427baef3dab78c4f195ab5a507631fb5b070dc24d3a068de3", func := "skymosaic/skymosaiclaw17.BalanceSolves", spec := "balanceSolves", unfollowed := true, recurses := true, apart := false, narrowed := true }
def BalanceSolvesUptoSaid : Prop := balanceSolvesUptoRow.holds Try.pinned (OpenSpec.upto balanceSolvesSpec)

/-- 'skymosaiclaw17.BalanceProves', WHERE WHAT IT READS IS OF BULK AT MOST 1048576: true; the input reads as it did. -/
def balanceProvesUptoRow : OpenClaim := { program := "ytebflkgpbbjhnaa", sum := "64795daf4397da5427baef3dab78c4f195ab5a507631fb5b070dc24d3a068de3", func := "skymosaic/skymosaiclaw17.BalanceProves", spec := "balanceProves", unfollowed := true, recurses := true, apart := false, narrowed := true }
def BalanceProvesUptoSaid : Prop := balanceProvesUptoRow.holds Try.pinned (OpenSpec.upto balanceProvesSpec)

/-- 'skymosaiclaw17.BalanceChecks', WHERE WHAT IT READS IS OF BULK AT MOST 1048576: true; the input reads as it did. -/
def balanceChecksUptoRow : OpenClaim := { program := "ytebflkgpbbjhnaa", sum := "64795daf4397da5427baef3dab78c4f195ab5a507631fb5b070dc24d3a068de3", func := "skymosaic/skymosaiclaw17.BalanceChecks", spec := "balanceChecks", unfollowed := true, recurses := true, apart := false, narrowed := true }
def BalanceChecksUptoSaid : Prop := balanceChecksUptoRow.holds Try.pinned (OpenSpec.upto balanceChecksSpec)

/-- 'skymosaiclaw17.BalanceCosts', WHERE WHAT IT READS IS OF BULK AT MOST 1048576: true; the input reads as it did. -/
def balanceCostsUptoRow : OpenClaim := { program := "ytebflkgpbbjhnaa", sum := "64795daf4397da5427baef3dab78c4f195ab5a507631fb5b070dc24d3a068de3", func := "skymosaic/skymosaiclaw17.BalanceCosts", spec := "balanceCosts", unfollowed := true, recurses := true, apart := false, narrowed := true }
def BalanceCostsUptoSaid : Prop := balanceCostsUptoRow.holds Try.pinned (OpenSpec.upto balanceCostsSpec)

/-- 'skymosaiclaw17.BalanceFits', WHERE WHAT IT READS IS OF BULK AT MOST 1048576: true; the input reads as it did. -/
def balanceFitsUptoRow : OpenClaim := { program := "ytebflkgpbbjhnaa", sum := "64795daf4397da5427baef3dab78c4f195ab5a507631fb5b070dc24d3a068de3", func := "skymosaic/skymosaiclaw17.BalanceFits", spec := "balanceFits", unfollowed := true, recurses := true, apart := false, narrowed := true }
def BalanceFitsUptoSaid : Prop := balanceFitsUptoRow.holds Try.pinned (OpenSpec.upto balanceFitsSpec)

/-- 'skymosaiclaw17.BalanceScales', WHERE WHAT IT READS IS OF BULK AT MOST 1048576: true; the input reads as it did. -/
def balanceScalesUptoRow : OpenClaim := { program := "ytebflkgpbbjhnaa", sum := "64795daf4397da5427baef3dab78c4f195ab5a507631fb5b070dc24d3a068de3", func := "skymosaic/skymosaiclaw17.BalanceScales", spec := "balanceScales", unfollowed := true, recurses := true, apart := false, narrowed := true }
def BalanceScalesUptoSaid : Prop := balanceScalesUptoRow.holds Try.pinned (OpenSpec.upto balanceScalesSpec)

/-- 'skymosaiclaw17.BalanceBytes', WHERE WHAT IT READS IS OF BULK AT MOST 1048576: true; the input reads as it did. -/
def balanceBytesUptoRow : OpenClaim := { program := "ytebflkgpbbjhnaa", sum := "64795daf4397da5427baef3dab78c4f195ab5a507631fb5b070dc24d3a068de3", func := "skymosaic/skymosaiclaw17.BalanceBytes", spec := "balanceBytes", unfollowed := true, recurses := true, apart := false, narrowed := true }
def BalanceBytesUptoSaid : Prop := balanceBytesUptoRow.holds Try.pinned (OpenSpec.upto balanceBytesSpec)

/-- 'skymosaiclaw17.BalanceOverlaps', WHERE WHAT IT READS IS OF BULK AT MOST 1048576: true; the input reads as it did. -/
def balanceOverlapsUptoRow : OpenClaim := { program := "ytebflkgpbbjhnaa", sum := "64795daf4397da5427baef3dab78c4f195ab5a507631fb5b070dc24d3a068de3", func := "skymosaic/skymosaiclaw17.BalanceOverlaps", spec := "balanceOverlaps", unfollowed := true, recurses := true, apart := false, narrowed := true }
def BalanceOverlapsUptoSaid : Prop := balanceOverlapsUptoRow.holds Try.pinned (OpenSpec.upto balanceOverlapsSpec)

end Rows
end Go.Proofs.Ytebflkgpbbjhnaa
