/-
  No cell of these rows narrows 'for every input' (looked for: loops, veiled, ifaces, maps, wideKeys, modest, calm, conditions, laid).
  DERIVED. THE GIVEN ROWS OF THIS SEAT. 10 by the template 'for every input the law returns true; each argument reads behind the call as it read before'; 0 by the template 'total and deterministic' (their statements: YtfdbegdgedhhcaaTotals.lean).
  GIVEN WITH THE SEED: the statements are not yours to turn. If you find one false, say at which input.
  Laid BY PROGRAM, IN A SANDBOX (cutbox-rows.mjs): the forced cells as the released guide's own fill.sh prints them over the translation 780a25d6fb673aac… (all of the seat's roots in one cut). By AI agents, Wed Nov 11 2026. No macro, syntax, notation, axiom, sorry.
-/
import Derived.Test.YtfdbegdgedhhcaaChecked
import GoSem.Claim
import GoSem.ClaimJoined
import GoSem.ClaimMapViews
import Derived.JoinedTies
import Derived.KernelRfl
namespace Go.Proofs.Ytfdbegdgedhhcaa
/- THE CELL 'sum', in the pinned program and in every row, IS THE sha256 OF THE DUMP (.gsa) THAT YtfdbegdgedhhcaaProg.lean LOADS. Nothing in Lean hashes anything: it is a label: what it is worth is what the hold of that sum in a sandbox is worth. -/
noncomputable def Try.pinned : Pinned := { name := "ytfdbegdgedhhcaa", sum := "780a25d6fb673aac92562344467eb70f0d52c29b3d5dc19ecddf6a1844483c52", checked := Try.checked }
namespace Rows
def none {H : Type} : Left H := { results := [], args := [] }

/-- 'graduslaw8.GraphInfers': WHATEVER THE INPUT: true; the input reads as it did. -/
def graphInfersSpec : ChangeSpec := { name := "graphInfers", fn := fun _ => fun
  | [d] => { results := [.lit (.bool true)], args := [d] }
  | _ => none }
def graphInfersRow : OpenClaim := { program := "ytfdbegdgedhhcaa", sum := "780a25d6fb673aac92562344467eb70f0d52c29b3d5dc19ecddf6a1844483c52", func := "gradus/graduslaw8.GraphInfers", spec := "graphInfers", unfollowed := true, recurses := true, apart := false }
def GraphInfersSaid : Prop := graphInfersRow.holds Try.pinned (OpenSpec.ofChange graphInfersSpec)

/-- ITS FALSE NEIGHBOUR: 'it returns false'. Refute it at one input. -/
def graphInfersWrong : ChangeSpec := { name := "graphInfers", fn := fun _ => fun
  | [d] => { results := [.lit (.bool false)], args := [d] }
  | _ => none }
def GraphInfersWrongFalsely : Prop := graphInfersRow.holds Try.pinned (OpenSpec.ofChange graphInfersWrong)

/-- 'graduslaw8.GraphLimits': WHATEVER THE INPUT: true; the input reads as it did. -/
def graphLimitsSpec : ChangeSpec := { name := "graphLimits", fn := fun _ => fun
  | [d] => { results := [.lit (.bool true)], args := [d] }
  | _ => none }
def graphLimitsRow : OpenClaim := { program := "ytfdbegdgedhhcaa", sum := "780a25d6fb673aac92562344467eb70f0d52c29b3d5dc19ecddf6a1844483c52", func := "gradus/graduslaw8.GraphLimits", spec := "graphLimits", unfollowed := true, recurses := true, apart := false }
def GraphLimitsSaid : Prop := graphLimitsRow.holds Try.pinned (OpenSpec.ofChange graphLimitsSpec)

/-- ITS FALSE NEIGHBOUR: 'it returns false'. Refute it at one input. -/
def graphLimitsWrong : ChangeSpec := { name := "graphLimits", fn := fun _ => fun
  | [d] => { results := [.lit (.bool false)], args := [d] }
  | _ => none }
def GraphLimitsWrongFalsely : Prop := graphLimitsRow.holds Try.pinned (OpenSpec.ofChange graphLimitsWrong)

/-- 'graduslaw8.GraphLeaves': WHATEVER THE INPUT: true; the input reads as it did. -/
def graphLeavesSpec : ChangeSpec := { name := "graphLeaves", fn := fun _ => fun
  | [d] => { results := [.lit (.bool true)], args := [d] }
  | _ => none }
def graphLeavesRow : OpenClaim := { program := "ytfdbegdgedhhcaa", sum := "780a25d6fb673aac92562344467eb70f0d52c29b3d5dc19ecddf6a1844483c52", func := "gradus/graduslaw8.GraphLeaves", spec := "graphLeaves", unfollowed := true, recurses := true, apart := false }
def GraphLeavesSaid : Prop := graphLeavesRow.holds Try.pinned (OpenSpec.ofChange graphLeavesSpec)

/-- ITS FALSE NEIGHBOUR: 'it returns false'. Refute it at one input. -/
def graphLeavesWrong : ChangeSpec := { name := "graphLeaves", fn := fun _ => fun
  | [d] => { results := [.lit (.bool false)], args := [d] }
  | _ => none }
def GraphLeavesWrongFalsely : Prop := graphLeavesRow.holds Try.pinned (OpenSpec.ofChange graphLeavesWrong)

/-- 'graduslaw13.LiveChains': WHATEVER THE INPUT: true; the input reads as it did. -/
def liveChainsSpec : ChangeSpec := { name := "liveChains", fn := fun _ => fun
  | [d] => { results := [.lit (.bool true)], args := [d] }
  | _ => none }
def liveChainsRow : OpenClaim := { program := "ytfdbegdgedhhcaa", sum := "780a25d6fb673aac92562344467eb70f0d52c29b3d5dc19ecddf6a1844483c52", func := "gradus/graduslaw13.LiveChains", spec := "liveChains", unfollowed := true, recurses := true, apart := false }
def LiveChainsSaid : Prop := liveChainsRow.holds Try.pinned (OpenSpec.ofChange liveChainsSpec)

/-- ITS FALSE NEIGHBOUR: 'it returns false'. Refute it at one input. -/
def liveChainsWrong : ChangeSpec := { name := "liveChains", fn := fun _ => fun
  | [d] => { results := [.lit (.bool false)], args := [d] }
  | _ => none }
def LiveChainsWrongFalsely : Prop := liveChainsRow.holds Try.pinned (OpenSpec.ofChange liveChainsWrong)

/-- 'graduslaw13.LiveCones': WHATEVER THE INPUT: true; the input reads as it did. -/
def liveConesSpec : ChangeSpec := { name := "liveCones", fn := fun _ => fun
  | [d] => { results := [.lit (.bool true)], args := [d] }
  | _ => none }
def liveConesRow : OpenClaim := { program := "ytfdbegdgedhhcaa", sum := "780a25d6fb673aac92562344467eb70f0d52c29b3d5dc19ecddf6a1844483c52", func := "gradus/graduslaw13.LiveCones", spec := "liveCones", unfollowed := true, recurses := true, apart := false }
def LiveConesSaid : Prop := liveConesRow.holds Try.pinned (OpenSpec.ofChange liveConesSpec)

/-- ITS FALSE NEIGHBOUR: 'it returns false'. Refute it at one input. -/
def liveConesWrong : ChangeSpec := { name := "liveCones", fn := fun _ => fun
  | [d] => { results := [.lit (.bool false)], args := [d] }
  | _ => none }
def LiveConesWrongFalsely : Prop := liveConesRow.holds Try.pinned (OpenSpec.ofChange liveConesWrong)

/-- 'graduslaw12.BackUnused': WHATEVER THE INPUT: true; the input reads as it did. -/
def backUnusedSpec : ChangeSpec := { name := "backUnused", fn := fun _ => fun
  | [d] => { results := [.lit (.bool true)], args := [d] }
  | _ => none }
def backUnusedRow : OpenClaim := { program := "ytfdbegdgedhhcaa", sum := "780a25d6fb673aac92562344467eb70f0d52c29b3d5dc19ecddf6a1844483c52", func := "gradus/graduslaw12.BackUnused", spec := "backUnused", unfollowed := true, recurses := true, apart := false }
def BackUnusedSaid : Prop := backUnusedRow.holds Try.pinned (OpenSpec.ofChange backUnusedSpec)

/-- ITS FALSE NEIGHBOUR: 'it returns false'. Refute it at one input. -/
def backUnusedWrong : ChangeSpec := { name := "backUnused", fn := fun _ => fun
  | [d] => { results := [.lit (.bool false)], args := [d] }
  | _ => none }
def BackUnusedWrongFalsely : Prop := backUnusedRow.holds Try.pinned (OpenSpec.ofChange backUnusedWrong)

/-- 'graduslaw10.EvalDims': WHATEVER THE INPUT: true; the input reads as it did. -/
def evalDimsSpec : ChangeSpec := { name := "evalDims", fn := fun _ => fun
  | [d] => { results := [.lit (.bool true)], args := [d] }
  | _ => none }
def evalDimsRow : OpenClaim := { program := "ytfdbegdgedhhcaa", sum := "780a25d6fb673aac92562344467eb70f0d52c29b3d5dc19ecddf6a1844483c52", func := "gradus/graduslaw10.EvalDims", spec := "evalDims", unfollowed := true, recurses := true, apart := false }
def EvalDimsSaid : Prop := evalDimsRow.holds Try.pinned (OpenSpec.ofChange evalDimsSpec)

/-- ITS FALSE NEIGHBOUR: 'it returns false'. Refute it at one input. -/
def evalDimsWrong : ChangeSpec := { name := "evalDims", fn := fun _ => fun
  | [d] => { results := [.lit (.bool false)], args := [d] }
  | _ => none }
def EvalDimsWrongFalsely : Prop := evalDimsRow.holds Try.pinned (OpenSpec.ofChange evalDimsWrong)

/-- 'graduslaw13.LiveFans': WHATEVER THE INPUT: true; the input reads as it did. -/
def liveFansSpec : ChangeSpec := { name := "liveFans", fn := fun _ => fun
  | [d] => { results := [.lit (.bool true)], args := [d] }
  | _ => none }
def liveFansRow : OpenClaim := { program := "ytfdbegdgedhhcaa", sum := "780a25d6fb673aac92562344467eb70f0d52c29b3d5dc19ecddf6a1844483c52", func := "gradus/graduslaw13.LiveFans", spec := "liveFans", unfollowed := true, recurses := true, apart := false }
def LiveFansSaid : Prop := liveFansRow.holds Try.pinned (OpenSpec.ofChange liveFansSpec)

/-- ITS FALSE NEIGHBOUR: 'it returns false'. Refute it at one input. -/
def liveFansWrong : ChangeSpec := { name := "liveFans", fn := fun _ => fun
  | [d] => { results := [.lit (.bool false)], args := [d] }
  | _ => none }
def LiveFansWrongFalsely : Prop := liveFansRow.holds Try.pinned (OpenSpec.ofChange liveFansWrong)

/-- 'graduslaw13.LiveTells': WHATEVER THE INPUT: true; the input reads as it did. -/
def liveTellsSpec : ChangeSpec := { name := "liveTells", fn := fun _ => fun
  | [d] => { results := [.lit (.bool true)], args := [d] }
  | _ => none }
def liveTellsRow : OpenClaim := { program := "ytfdbegdgedhhcaa", sum := "780a25d6fb673aac92562344467eb70f0d52c29b3d5dc19ecddf6a1844483c52", func := "gradus/graduslaw13.LiveTells", spec := "liveTells", unfollowed := true, recurses := true, apart := false }
def LiveTellsSaid : Prop := liveTellsRow.holds Try.pinned (OpenSpec.ofChange liveTellsSpec)

/-- ITS FALSE NEIGHBOUR: 'it returns false'. Refute it at one input. -/
def liveTellsWrong : ChangeSpec := { name := "liveTells", fn := fun _ => fun
  | [d] => { results := [.lit (.bool false)], args := [d] }
  | _ => none }
def LiveTellsWrongFalsely : Prop := liveTellsRow.holds Try.pinned (OpenSpec.ofChange liveTellsWrong)

/-- 'graduslaw13.LiveBounds': WHATEVER THE INPUT: true; the input reads as it did. -/
def liveBoundsSpec : ChangeSpec := { name := "liveBounds", fn := fun _ => fun
  | [d] => { results := [.lit (.bool true)], args := [d] }
  | _ => none }
def liveBoundsRow : OpenClaim := { program := "ytfdbegdgedhhcaa", sum := "780a25d6fb673aac92562344467eb70f0d52c29b3d5dc19ecddf6a1844483c52", func := "gradus/graduslaw13.LiveBounds", spec := "liveBounds", unfollowed := true, recurses := true, apart := false }
def LiveBoundsSaid : Prop := liveBoundsRow.holds Try.pinned (OpenSpec.ofChange liveBoundsSpec)

/-- ITS FALSE NEIGHBOUR: 'it returns false'. Refute it at one input. -/
def liveBoundsWrong : ChangeSpec := { name := "liveBounds", fn := fun _ => fun
  | [d] => { results := [.lit (.bool false)], args := [d] }
  | _ => none }
def LiveBoundsWrongFalsely : Prop := liveBoundsRow.holds Try.pinned (OpenSpec.ofChange liveBoundsWrong)

/- THE SECOND FORM. 'bulk': how many values and letters a reading holds, each counted each time it is reached (what is shared counts as often as it is met; a slice's spare places count too). A statement '..UptoSaid' is the law's where the arguments, and the package variables that the reading takes, are together of bulk at most 1048576: NARROWER than '..Said'. Prove '..Said' where nothing that the law and all that it calls make is longer than what came in: it says more and counts as full. Else prove '..UptoSaid'. A law counts once. -/
mutual
def uptoBulk {H : Type} : DataW H → Nat
  | .lit (.string bytes) => bytes.length + 1
  | .lit _ => 1
  | .nil => 1
  | .ptr d => uptoBulk d + 1
  | .slice elems spare => uptoBulkAll elems + uptoBulkAll spare + 1
  | .agg parts => uptoBulkAll parts + 1
  | .iface _ d => uptoBulk d + 1
  | .map entries => uptoBulkEntries entries + 1
  | .held _ => 1
def uptoBulkAll {H : Type} : List (DataW H) → Nat
  | [] => 0
  | d :: r => uptoBulk d + uptoBulkAll r
def uptoBulkEntries {H : Type} : List (Lit × DataW H) → Nat
  | [] => 0
  | x :: r => uptoBulkEntry x + uptoBulkEntries r
def uptoBulkEntry {H : Type} : Lit × DataW H → Nat
  | (.string bytes, d) => bytes.length + uptoBulk d + 1
  | (_, d) => uptoBulk d + 1
 end
def uptoSmall : (H : Type) → List (DataW H) → Bool := fun _ ds => decide (uptoBulkAll ds ≤ 1048576)
def OpenSpec.upto (s : _root_.Go.ChangeSpec) : _root_.Go.OpenSpec := { _root_.Go.OpenSpec.ofChange s with cond := some uptoSmall }

/-- 'graduslaw8.GraphInfers', WHERE WHAT IT READS IS OF BULK AT MOST 1048576: true; the input reads as it did. -/
def graphInfersUptoRow : OpenClaim := { program := "ytfdbegdgedhhcaa", sum := "780a25d6fb673aac92562344467eb70f0d52c29b3d5dc19ecddf6a1844483c52", func := "gradus/graduslaw8.GraphInfers", spec := "graphInfers", unfollowed := true, recurses := true, apart := false, narrowed := true }
def GraphInfersUptoSaid : Prop := graphInfersUptoRow.holds Try.pinned (OpenSpec.upto graphInfersSpec)

/-- 'graduslaw8.GraphLimits', WHERE WHAT IT READS IS OF BULK AT MOST 1048576: true; the input reads as it did. -/
def graphLimitsUptoRow : OpenClaim := { program := "ytfdbegdgedhhcaa", sum := "780a25d6fb673aac92562344467eb70f0d52c29b3d5dc19ecddf6a1844483c52", func := "gradus/graduslaw8.GraphLimits", spec := "graphLimits", unfollowed := true, recurses := true, apart := false, narrowed := true }
def GraphLimitsUptoSaid : Prop := graphLimitsUptoRow.holds Try.pinned (OpenSpec.upto graphLimitsSpec)

/-- 'graduslaw8.GraphLeaves', WHERE WHAT IT READS IS OF BULK AT MOST 1048576: true; the input reads as it did. -/
def graphLeavesUptoRow : OpenClaim := { program := "ytfdbegdgedhhcaa", sum := "780a25d6fb673aac92562344467eb70f0d52c29b3d5dc19ecddf6a1844483c52", func := "gradus/graduslaw8.GraphLeaves", spec := "graphLeaves", unfollowed := true, recurses := true, apart := false, narrowed := true }
def GraphLeavesUptoSaid : Prop := graphLeavesUptoRow.holds Try.pinned (OpenSpec.upto graphLeavesSpec)

/-- 'graduslaw13.LiveChains', WHERE WHAT IT READS IS OF BULK AT MOST 1048576: true; the input reads as it did. -/
def liveChainsUptoRow : OpenClaim := { program := "ytfdbegdgedhhcaa", sum := "780a25d6fb673aac92562344467eb70f0d52c29b3d5dc19ecddf6a1844483c52", func := "gradus/graduslaw13.LiveChains", spec := "liveChains", unfollowed := true, recurses := true, apart := false, narrowed := true }
def LiveChainsUptoSaid : Prop := liveChainsUptoRow.holds Try.pinned (OpenSpec.upto liveChainsSpec)

/-- 'graduslaw13.LiveCones', WHERE WHAT IT READS IS OF BULK AT MOST 1048576: true; the input reads as it did. -/
def liveConesUptoRow : OpenClaim := { program := "ytfdbegdgedhhcaa", sum := "780a25d6fb673aac92562344467eb70f0d52c29b3d5dc19ecddf6a1844483c52", func := "gradus/graduslaw13.LiveCones", spec := "liveCones", unfollowed := true, recurses := true, apart := false, narrowed := true }
def LiveConesUptoSaid : Prop := liveConesUptoRow.holds Try.pinned (OpenSpec.upto liveConesSpec)

/-- 'graduslaw12.BackUnused', WHERE WHAT IT READS IS OF BULK AT MOST 1048576: true; the input reads as it did. -/
def backUnusedUptoRow : OpenClaim := { program := "ytfdbegdgedhhcaa", sum := "780a25d6fb673aac92562344467eb70f0d52c29b3d5dc19ecddf6a1844483c52", func := "gradus/graduslaw12.BackUnused", spec := "backUnused", unfollowed := true, recurses := true, apart := false, narrowed := true }
def BackUnusedUptoSaid : Prop := backUnusedUptoRow.holds Try.pinned (OpenSpec.upto backUnusedSpec)

/-- 'graduslaw10.EvalDims', WHERE WHAT IT READS IS OF BULK AT MOST 1048576: true; the input reads as it did. -/
def evalDimsUptoRow : OpenClaim := { program := "ytfdbegdgedhhcaa", sum := "780a25d6fb673aac92562344467eb70f0d52c29b3d5dc19ecddf6a1844483c52", func := "gradus/graduslaw10.EvalDims", spec := "evalDims", unfollowed := true, recurses := true, apart := false, narrowed := true }
def EvalDimsUptoSaid : Prop := evalDimsUptoRow.holds Try.pinned (OpenSpec.upto evalDimsSpec)

/-- 'graduslaw13.LiveFans', WHERE WHAT IT READS IS OF BULK AT MOST 1048576: true; the input reads as it did. -/
def liveFansUptoRow : OpenClaim := { program := "ytfdbegdgedhhcaa", sum := "780a25d6fb673aac92562344467eb70f0d52c29b3d5dc19ecddf6a1844483c52", func := "gradus/graduslaw13.LiveFans", spec := "liveFans", unfollowed := true, recurses := true, apart := false, narrowed := true }
def LiveFansUptoSaid : Prop := liveFansUptoRow.holds Try.pinned (OpenSpec.upto liveFansSpec)

/-- 'graduslaw13.LiveTells', WHERE WHAT IT READS IS OF BULK AT MOST 1048576: true; the input reads as it did. -/
def liveTellsUptoRow : OpenClaim := { program := "ytfdbegdgedhhcaa", sum := "780a25d6fb673aac92562344467eb70f0d52c29b3d5dc19ecddf6a1844483c52", func := "gradus/graduslaw13.LiveTells", spec := "liveTells", unfollowed := true, recurses := true, apart := false, narrowed := true }
def LiveTellsUptoSaid : Prop := liveTellsUptoRow.holds Try.pinned (OpenSpec.upto liveTellsSpec)

/-- 'graduslaw13.LiveBounds', WHERE WHAT IT READS IS OF BULK AT MOST 1048576: true; the input reads as it did. -/
def liveBoundsUptoRow : OpenClaim := { program := "ytfdbegdgedhhcaa", sum := "780a25d6fb673aac92562344467eb70f0d52c29b3d5dc19ecddf6a1844483c52", func := "gradus/graduslaw13.LiveBounds", spec := "liveBounds", unfollowed := true, recurses := true, apart := false, narrowed := true }
def LiveBoundsUptoSaid : Prop := liveBoundsUptoRow.holds Try.pinned (OpenSpec.upto liveBoundsSpec)

end Rows
end Go.Proofs.Ytfdbegdgedhhcaa
