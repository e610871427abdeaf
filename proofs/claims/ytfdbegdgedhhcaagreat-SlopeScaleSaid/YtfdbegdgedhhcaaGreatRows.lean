/-
  No cell of these rows narrows 'for every input' (looked for: loops, veiled, ifaces, maps, wideKeys, modest, calm, conditions, laid).
  DERIVED. THE GIVEN ROWS OF THIS SEAT. 25 by the template 'for every input the law returns true; each argument reads behind the call as it read before'; 0 by the template 'total and deterministic' (their statements: YtfdbegdgedhhcaaGreatTotals.lean).
  GIVEN WITH THE SEED: the statements are not yours to turn. If you find one false, say at which input.
  Laid BY PROGRAM, IN A SANDBOX (cutbox-rows.mjs): the forced cells as the released guide's own fill.sh prints them over the translation 10b3b6f8accd25b2… (all of the seat's roots in one cut). By AI agents, Wed Nov 11 2026. No macro, syntax, notation, axiom, sorry.
-/
import Derived.Test.YtfdbegdgedhhcaaGreatChecked
import GoSem.Claim
import GoSem.ClaimJoined
import GoSem.ClaimMapViews
import Derived.JoinedTies
import Derived.KernelRfl
namespace Go.Proofs.YtfdbegdgedhhcaaGreat
/- THE CELL 'sum', in the pinned program and in every row, IS THE sha256 OF THE DUMP (.gsa) THAT YtfdbegdgedhhcaaGreatProg.lean LOADS. Nothing in Lean hashes anything: it is a label: what it is worth is what the hold of that sum in a sandbox is worth. -/
noncomputable def Tryz.pinned : Pinned := { name := "ytfdbegdgedhhcaagreat", sum := "10b3b6f8accd25b204449bd640cd553e1f4afdfd46ae84b79a65bcc179b5b889", checked := Tryz.checked }
namespace Rows
def none {H : Type} : Left H := { results := [], args := [] }

/-- 'graduslaw10.EvalAdd': WHATEVER THE INPUT: true; the input reads as it did. -/
def evalAddSpec : ChangeSpec := { name := "evalAdd", fn := fun _ => fun
  | [d] => { results := [.lit (.bool true)], args := [d] }
  | _ => none }
def evalAddRow : OpenClaim := { program := "ytfdbegdgedhhcaagreat", sum := "10b3b6f8accd25b204449bd640cd553e1f4afdfd46ae84b79a65bcc179b5b889", func := "gradus/graduslaw10.EvalAdd", spec := "evalAdd", unfollowed := true, recurses := true, apart := false }
def EvalAddSaid : Prop := evalAddRow.holds Tryz.pinned (OpenSpec.ofChange evalAddSpec)

/-- ITS FALSE NEIGHBOUR: 'it returns false'. Refute it at one input. -/
def evalAddWrong : ChangeSpec := { name := "evalAdd", fn := fun _ => fun
  | [d] => { results := [.lit (.bool false)], args := [d] }
  | _ => none }
def EvalAddWrongFalsely : Prop := evalAddRow.holds Tryz.pinned (OpenSpec.ofChange evalAddWrong)

/-- 'graduslaw10.EvalSub': WHATEVER THE INPUT: true; the input reads as it did. -/
def evalSubSpec : ChangeSpec := { name := "evalSub", fn := fun _ => fun
  | [d] => { results := [.lit (.bool true)], args := [d] }
  | _ => none }
def evalSubRow : OpenClaim := { program := "ytfdbegdgedhhcaagreat", sum := "10b3b6f8accd25b204449bd640cd553e1f4afdfd46ae84b79a65bcc179b5b889", func := "gradus/graduslaw10.EvalSub", spec := "evalSub", unfollowed := true, recurses := true, apart := false }
def EvalSubSaid : Prop := evalSubRow.holds Tryz.pinned (OpenSpec.ofChange evalSubSpec)

/-- ITS FALSE NEIGHBOUR: 'it returns false'. Refute it at one input. -/
def evalSubWrong : ChangeSpec := { name := "evalSub", fn := fun _ => fun
  | [d] => { results := [.lit (.bool false)], args := [d] }
  | _ => none }
def EvalSubWrongFalsely : Prop := evalSubRow.holds Tryz.pinned (OpenSpec.ofChange evalSubWrong)

/-- 'graduslaw10.EvalMul': WHATEVER THE INPUT: true; the input reads as it did. -/
def evalMulSpec : ChangeSpec := { name := "evalMul", fn := fun _ => fun
  | [d] => { results := [.lit (.bool true)], args := [d] }
  | _ => none }
def evalMulRow : OpenClaim := { program := "ytfdbegdgedhhcaagreat", sum := "10b3b6f8accd25b204449bd640cd553e1f4afdfd46ae84b79a65bcc179b5b889", func := "gradus/graduslaw10.EvalMul", spec := "evalMul", unfollowed := true, recurses := true, apart := false }
def EvalMulSaid : Prop := evalMulRow.holds Tryz.pinned (OpenSpec.ofChange evalMulSpec)

/-- ITS FALSE NEIGHBOUR: 'it returns false'. Refute it at one input. -/
def evalMulWrong : ChangeSpec := { name := "evalMul", fn := fun _ => fun
  | [d] => { results := [.lit (.bool false)], args := [d] }
  | _ => none }
def EvalMulWrongFalsely : Prop := evalMulRow.holds Tryz.pinned (OpenSpec.ofChange evalMulWrong)

/-- 'graduslaw10.EvalNeg': WHATEVER THE INPUT: true; the input reads as it did. -/
def evalNegSpec : ChangeSpec := { name := "evalNeg", fn := fun _ => fun
  | [d] => { results := [.lit (.bool true)], args := [d] }
  | _ => none }
def evalNegRow : OpenClaim := { program := "ytfdbegdgedhhcaagreat", sum := "10b3b6f8accd25b204449bd640cd553e1f4afdfd46ae84b79a65bcc179b5b889", func := "gradus/graduslaw10.EvalNeg", spec := "evalNeg", unfollowed := true, recurses := true, apart := false }
def EvalNegSaid : Prop := evalNegRow.holds Tryz.pinned (OpenSpec.ofChange evalNegSpec)

/-- ITS FALSE NEIGHBOUR: 'it returns false'. Refute it at one input. -/
def evalNegWrong : ChangeSpec := { name := "evalNeg", fn := fun _ => fun
  | [d] => { results := [.lit (.bool false)], args := [d] }
  | _ => none }
def EvalNegWrongFalsely : Prop := evalNegRow.holds Tryz.pinned (OpenSpec.ofChange evalNegWrong)

/-- 'graduslaw10.EvalScale': WHATEVER THE INPUT: true; the input reads as it did. -/
def evalScaleSpec : ChangeSpec := { name := "evalScale", fn := fun _ => fun
  | [d] => { results := [.lit (.bool true)], args := [d] }
  | _ => none }
def evalScaleRow : OpenClaim := { program := "ytfdbegdgedhhcaagreat", sum := "10b3b6f8accd25b204449bd640cd553e1f4afdfd46ae84b79a65bcc179b5b889", func := "gradus/graduslaw10.EvalScale", spec := "evalScale", unfollowed := true, recurses := true, apart := false }
def EvalScaleSaid : Prop := evalScaleRow.holds Tryz.pinned (OpenSpec.ofChange evalScaleSpec)

/-- ITS FALSE NEIGHBOUR: 'it returns false'. Refute it at one input. -/
def evalScaleWrong : ChangeSpec := { name := "evalScale", fn := fun _ => fun
  | [d] => { results := [.lit (.bool false)], args := [d] }
  | _ => none }
def EvalScaleWrongFalsely : Prop := evalScaleRow.holds Tryz.pinned (OpenSpec.ofChange evalScaleWrong)

/-- 'graduslaw10.EvalMat': WHATEVER THE INPUT: true; the input reads as it did. -/
def evalMatSpec : ChangeSpec := { name := "evalMat", fn := fun _ => fun
  | [d] => { results := [.lit (.bool true)], args := [d] }
  | _ => none }
def evalMatRow : OpenClaim := { program := "ytfdbegdgedhhcaagreat", sum := "10b3b6f8accd25b204449bd640cd553e1f4afdfd46ae84b79a65bcc179b5b889", func := "gradus/graduslaw10.EvalMat", spec := "evalMat", unfollowed := true, recurses := true, apart := false }
def EvalMatSaid : Prop := evalMatRow.holds Tryz.pinned (OpenSpec.ofChange evalMatSpec)

/-- ITS FALSE NEIGHBOUR: 'it returns false'. Refute it at one input. -/
def evalMatWrong : ChangeSpec := { name := "evalMat", fn := fun _ => fun
  | [d] => { results := [.lit (.bool false)], args := [d] }
  | _ => none }
def EvalMatWrongFalsely : Prop := evalMatRow.holds Tryz.pinned (OpenSpec.ofChange evalMatWrong)

/-- 'graduslaw10.EvalTurn': WHATEVER THE INPUT: true; the input reads as it did. -/
def evalTurnSpec : ChangeSpec := { name := "evalTurn", fn := fun _ => fun
  | [d] => { results := [.lit (.bool true)], args := [d] }
  | _ => none }
def evalTurnRow : OpenClaim := { program := "ytfdbegdgedhhcaagreat", sum := "10b3b6f8accd25b204449bd640cd553e1f4afdfd46ae84b79a65bcc179b5b889", func := "gradus/graduslaw10.EvalTurn", spec := "evalTurn", unfollowed := true, recurses := true, apart := false }
def EvalTurnSaid : Prop := evalTurnRow.holds Tryz.pinned (OpenSpec.ofChange evalTurnSpec)

/-- ITS FALSE NEIGHBOUR: 'it returns false'. Refute it at one input. -/
def evalTurnWrong : ChangeSpec := { name := "evalTurn", fn := fun _ => fun
  | [d] => { results := [.lit (.bool false)], args := [d] }
  | _ => none }
def EvalTurnWrongFalsely : Prop := evalTurnRow.holds Tryz.pinned (OpenSpec.ofChange evalTurnWrong)

/-- 'graduslaw10.EvalShape': WHATEVER THE INPUT: true; the input reads as it did. -/
def evalShapeSpec : ChangeSpec := { name := "evalShape", fn := fun _ => fun
  | [d] => { results := [.lit (.bool true)], args := [d] }
  | _ => none }
def evalShapeRow : OpenClaim := { program := "ytfdbegdgedhhcaagreat", sum := "10b3b6f8accd25b204449bd640cd553e1f4afdfd46ae84b79a65bcc179b5b889", func := "gradus/graduslaw10.EvalShape", spec := "evalShape", unfollowed := true, recurses := true, apart := false }
def EvalShapeSaid : Prop := evalShapeRow.holds Tryz.pinned (OpenSpec.ofChange evalShapeSpec)

/-- ITS FALSE NEIGHBOUR: 'it returns false'. Refute it at one input. -/
def evalShapeWrong : ChangeSpec := { name := "evalShape", fn := fun _ => fun
  | [d] => { results := [.lit (.bool false)], args := [d] }
  | _ => none }
def EvalShapeWrongFalsely : Prop := evalShapeRow.holds Tryz.pinned (OpenSpec.ofChange evalShapeWrong)

/-- 'graduslaw10.EvalWide': WHATEVER THE INPUT: true; the input reads as it did. -/
def evalWideSpec : ChangeSpec := { name := "evalWide", fn := fun _ => fun
  | [d] => { results := [.lit (.bool true)], args := [d] }
  | _ => none }
def evalWideRow : OpenClaim := { program := "ytfdbegdgedhhcaagreat", sum := "10b3b6f8accd25b204449bd640cd553e1f4afdfd46ae84b79a65bcc179b5b889", func := "gradus/graduslaw10.EvalWide", spec := "evalWide", unfollowed := true, recurses := true, apart := false }
def EvalWideSaid : Prop := evalWideRow.holds Tryz.pinned (OpenSpec.ofChange evalWideSpec)

/-- ITS FALSE NEIGHBOUR: 'it returns false'. Refute it at one input. -/
def evalWideWrong : ChangeSpec := { name := "evalWide", fn := fun _ => fun
  | [d] => { results := [.lit (.bool false)], args := [d] }
  | _ => none }
def EvalWideWrongFalsely : Prop := evalWideRow.holds Tryz.pinned (OpenSpec.ofChange evalWideWrong)

/-- 'graduslaw10.EvalSum': WHATEVER THE INPUT: true; the input reads as it did. -/
def evalSumSpec : ChangeSpec := { name := "evalSum", fn := fun _ => fun
  | [d] => { results := [.lit (.bool true)], args := [d] }
  | _ => none }
def evalSumRow : OpenClaim := { program := "ytfdbegdgedhhcaagreat", sum := "10b3b6f8accd25b204449bd640cd553e1f4afdfd46ae84b79a65bcc179b5b889", func := "gradus/graduslaw10.EvalSum", spec := "evalSum", unfollowed := true, recurses := true, apart := false }
def EvalSumSaid : Prop := evalSumRow.holds Tryz.pinned (OpenSpec.ofChange evalSumSpec)

/-- ITS FALSE NEIGHBOUR: 'it returns false'. Refute it at one input. -/
def evalSumWrong : ChangeSpec := { name := "evalSum", fn := fun _ => fun
  | [d] => { results := [.lit (.bool false)], args := [d] }
  | _ => none }
def EvalSumWrongFalsely : Prop := evalSumRow.holds Tryz.pinned (OpenSpec.ofChange evalSumWrong)

/-- 'graduslaw10.EvalRelu': WHATEVER THE INPUT: true; the input reads as it did. -/
def evalReluSpec : ChangeSpec := { name := "evalRelu", fn := fun _ => fun
  | [d] => { results := [.lit (.bool true)], args := [d] }
  | _ => none }
def evalReluRow : OpenClaim := { program := "ytfdbegdgedhhcaagreat", sum := "10b3b6f8accd25b204449bd640cd553e1f4afdfd46ae84b79a65bcc179b5b889", func := "gradus/graduslaw10.EvalRelu", spec := "evalRelu", unfollowed := true, recurses := true, apart := false }
def EvalReluSaid : Prop := evalReluRow.holds Tryz.pinned (OpenSpec.ofChange evalReluSpec)

/-- ITS FALSE NEIGHBOUR: 'it returns false'. Refute it at one input. -/
def evalReluWrong : ChangeSpec := { name := "evalRelu", fn := fun _ => fun
  | [d] => { results := [.lit (.bool false)], args := [d] }
  | _ => none }
def EvalReluWrongFalsely : Prop := evalReluRow.holds Tryz.pinned (OpenSpec.ofChange evalReluWrong)

/-- 'graduslaw10.EvalMax': WHATEVER THE INPUT: true; the input reads as it did. -/
def evalMaxSpec : ChangeSpec := { name := "evalMax", fn := fun _ => fun
  | [d] => { results := [.lit (.bool true)], args := [d] }
  | _ => none }
def evalMaxRow : OpenClaim := { program := "ytfdbegdgedhhcaagreat", sum := "10b3b6f8accd25b204449bd640cd553e1f4afdfd46ae84b79a65bcc179b5b889", func := "gradus/graduslaw10.EvalMax", spec := "evalMax", unfollowed := true, recurses := true, apart := false }
def EvalMaxSaid : Prop := evalMaxRow.holds Tryz.pinned (OpenSpec.ofChange evalMaxSpec)

/-- ITS FALSE NEIGHBOUR: 'it returns false'. Refute it at one input. -/
def evalMaxWrong : ChangeSpec := { name := "evalMax", fn := fun _ => fun
  | [d] => { results := [.lit (.bool false)], args := [d] }
  | _ => none }
def EvalMaxWrongFalsely : Prop := evalMaxRow.holds Tryz.pinned (OpenSpec.ofChange evalMaxWrong)

/-- 'graduslaw11.SlopeAdds': WHATEVER THE INPUT: true; the input reads as it did. -/
def slopeAddsSpec : ChangeSpec := { name := "slopeAdds", fn := fun _ => fun
  | [d] => { results := [.lit (.bool true)], args := [d] }
  | _ => none }
def slopeAddsRow : OpenClaim := { program := "ytfdbegdgedhhcaagreat", sum := "10b3b6f8accd25b204449bd640cd553e1f4afdfd46ae84b79a65bcc179b5b889", func := "gradus/graduslaw11.SlopeAdds", spec := "slopeAdds", unfollowed := true, recurses := true, apart := false }
def SlopeAddsSaid : Prop := slopeAddsRow.holds Tryz.pinned (OpenSpec.ofChange slopeAddsSpec)

/-- ITS FALSE NEIGHBOUR: 'it returns false'. Refute it at one input. -/
def slopeAddsWrong : ChangeSpec := { name := "slopeAdds", fn := fun _ => fun
  | [d] => { results := [.lit (.bool false)], args := [d] }
  | _ => none }
def SlopeAddsWrongFalsely : Prop := slopeAddsRow.holds Tryz.pinned (OpenSpec.ofChange slopeAddsWrong)

/-- 'graduslaw11.SlopeAdd': WHATEVER THE INPUT: true; the input reads as it did. -/
def slopeAddSpec : ChangeSpec := { name := "slopeAdd", fn := fun _ => fun
  | [d] => { results := [.lit (.bool true)], args := [d] }
  | _ => none }
def slopeAddRow : OpenClaim := { program := "ytfdbegdgedhhcaagreat", sum := "10b3b6f8accd25b204449bd640cd553e1f4afdfd46ae84b79a65bcc179b5b889", func := "gradus/graduslaw11.SlopeAdd", spec := "slopeAdd", unfollowed := true, recurses := true, apart := false }
def SlopeAddSaid : Prop := slopeAddRow.holds Tryz.pinned (OpenSpec.ofChange slopeAddSpec)

/-- ITS FALSE NEIGHBOUR: 'it returns false'. Refute it at one input. -/
def slopeAddWrong : ChangeSpec := { name := "slopeAdd", fn := fun _ => fun
  | [d] => { results := [.lit (.bool false)], args := [d] }
  | _ => none }
def SlopeAddWrongFalsely : Prop := slopeAddRow.holds Tryz.pinned (OpenSpec.ofChange slopeAddWrong)

/-- 'graduslaw11.SlopeSub': WHATEVER THE INPUT: true; the input reads as it did. -/
def slopeSubSpec : ChangeSpec := { name := "slopeSub", fn := fun _ => fun
  | [d] => { results := [.lit (.bool true)], args := [d] }
  | _ => none }
def slopeSubRow : OpenClaim := { program := "ytfdbegdgedhhcaagreat", sum := "10b3b6f8accd25b204449bd640cd553e1f4afdfd46ae84b79a65bcc179b5b889", func := "gradus/graduslaw11.SlopeSub", spec := "slopeSub", unfollowed := true, recurses := true, apart := false }
def SlopeSubSaid : Prop := slopeSubRow.holds Tryz.pinned (OpenSpec.ofChange slopeSubSpec)

/-- ITS FALSE NEIGHBOUR: 'it returns false'. Refute it at one input. -/
def slopeSubWrong : ChangeSpec := { name := "slopeSub", fn := fun _ => fun
  | [d] => { results := [.lit (.bool false)], args := [d] }
  | _ => none }
def SlopeSubWrongFalsely : Prop := slopeSubRow.holds Tryz.pinned (OpenSpec.ofChange slopeSubWrong)

/-- 'graduslaw11.SlopeMul': WHATEVER THE INPUT: true; the input reads as it did. -/
def slopeMulSpec : ChangeSpec := { name := "slopeMul", fn := fun _ => fun
  | [d] => { results := [.lit (.bool true)], args := [d] }
  | _ => none }
def slopeMulRow : OpenClaim := { program := "ytfdbegdgedhhcaagreat", sum := "10b3b6f8accd25b204449bd640cd553e1f4afdfd46ae84b79a65bcc179b5b889", func := "gradus/graduslaw11.SlopeMul", spec := "slopeMul", unfollowed := true, recurses := true, apart := false }
def SlopeMulSaid : Prop := slopeMulRow.holds Tryz.pinned (OpenSpec.ofChange slopeMulSpec)

/-- ITS FALSE NEIGHBOUR: 'it returns false'. Refute it at one input. -/
def slopeMulWrong : ChangeSpec := { name := "slopeMul", fn := fun _ => fun
  | [d] => { results := [.lit (.bool false)], args := [d] }
  | _ => none }
def SlopeMulWrongFalsely : Prop := slopeMulRow.holds Tryz.pinned (OpenSpec.ofChange slopeMulWrong)

/-- 'graduslaw11.SlopeNeg': WHATEVER THE INPUT: true; the input reads as it did. -/
def slopeNegSpec : ChangeSpec := { name := "slopeNeg", fn := fun _ => fun
  | [d] => { results := [.lit (.bool true)], args := [d] }
  | _ => none }
def slopeNegRow : OpenClaim := { program := "ytfdbegdgedhhcaagreat", sum := "10b3b6f8accd25b204449bd640cd553e1f4afdfd46ae84b79a65bcc179b5b889", func := "gradus/graduslaw11.SlopeNeg", spec := "slopeNeg", unfollowed := true, recurses := true, apart := false }
def SlopeNegSaid : Prop := slopeNegRow.holds Tryz.pinned (OpenSpec.ofChange slopeNegSpec)

/-- ITS FALSE NEIGHBOUR: 'it returns false'. Refute it at one input. -/
def slopeNegWrong : ChangeSpec := { name := "slopeNeg", fn := fun _ => fun
  | [d] => { results := [.lit (.bool false)], args := [d] }
  | _ => none }
def SlopeNegWrongFalsely : Prop := slopeNegRow.holds Tryz.pinned (OpenSpec.ofChange slopeNegWrong)

/-- 'graduslaw11.SlopeScale': WHATEVER THE INPUT: true; the input reads as it did. -/
def slopeScaleSpec : ChangeSpec := { name := "slopeScale", fn := fun _ => fun
  | [d] => { results := [.lit (.bool true)], args := [d] }
  | _ => none }
def slopeScaleRow : OpenClaim := { program := "ytfdbegdgedhhcaagreat", sum := "10b3b6f8accd25b204449bd640cd553e1f4afdfd46ae84b79a65bcc179b5b889", func := "gradus/graduslaw11.SlopeScale", spec := "slopeScale", unfollowed := true, recurses := true, apart := false }
def SlopeScaleSaid : Prop := slopeScaleRow.holds Tryz.pinned (OpenSpec.ofChange slopeScaleSpec)

/-- ITS FALSE NEIGHBOUR: 'it returns false'. Refute it at one input. -/
def slopeScaleWrong : ChangeSpec := { name := "slopeScale", fn := fun _ => fun
  | [d] => { results := [.lit (.bool false)], args := [d] }
  | _ => none }
def SlopeScaleWrongFalsely : Prop := slopeScaleRow.holds Tryz.pinned (OpenSpec.ofChange slopeScaleWrong)

/-- 'graduslaw11.SlopeMat': WHATEVER THE INPUT: true; the input reads as it did. -/
def slopeMatSpec : ChangeSpec := { name := "slopeMat", fn := fun _ => fun
  | [d] => { results := [.lit (.bool true)], args := [d] }
  | _ => none }
def slopeMatRow : OpenClaim := { program := "ytfdbegdgedhhcaagreat", sum := "10b3b6f8accd25b204449bd640cd553e1f4afdfd46ae84b79a65bcc179b5b889", func := "gradus/graduslaw11.SlopeMat", spec := "slopeMat", unfollowed := true, recurses := true, apart := false }
def SlopeMatSaid : Prop := slopeMatRow.holds Tryz.pinned (OpenSpec.ofChange slopeMatSpec)

/-- ITS FALSE NEIGHBOUR: 'it returns false'. Refute it at one input. -/
def slopeMatWrong : ChangeSpec := { name := "slopeMat", fn := fun _ => fun
  | [d] => { results := [.lit (.bool false)], args := [d] }
  | _ => none }
def SlopeMatWrongFalsely : Prop := slopeMatRow.holds Tryz.pinned (OpenSpec.ofChange slopeMatWrong)

/-- 'graduslaw11.SlopeTurn': WHATEVER THE INPUT: true; the input reads as it did. -/
def slopeTurnSpec : ChangeSpec := { name := "slopeTurn", fn := fun _ => fun
  | [d] => { results := [.lit (.bool true)], args := [d] }
  | _ => none }
def slopeTurnRow : OpenClaim := { program := "ytfdbegdgedhhcaagreat", sum := "10b3b6f8accd25b204449bd640cd553e1f4afdfd46ae84b79a65bcc179b5b889", func := "gradus/graduslaw11.SlopeTurn", spec := "slopeTurn", unfollowed := true, recurses := true, apart := false }
def SlopeTurnSaid : Prop := slopeTurnRow.holds Tryz.pinned (OpenSpec.ofChange slopeTurnSpec)

/-- ITS FALSE NEIGHBOUR: 'it returns false'. Refute it at one input. -/
def slopeTurnWrong : ChangeSpec := { name := "slopeTurn", fn := fun _ => fun
  | [d] => { results := [.lit (.bool false)], args := [d] }
  | _ => none }
def SlopeTurnWrongFalsely : Prop := slopeTurnRow.holds Tryz.pinned (OpenSpec.ofChange slopeTurnWrong)

/-- 'graduslaw11.SlopeShape': WHATEVER THE INPUT: true; the input reads as it did. -/
def slopeShapeSpec : ChangeSpec := { name := "slopeShape", fn := fun _ => fun
  | [d] => { results := [.lit (.bool true)], args := [d] }
  | _ => none }
def slopeShapeRow : OpenClaim := { program := "ytfdbegdgedhhcaagreat", sum := "10b3b6f8accd25b204449bd640cd553e1f4afdfd46ae84b79a65bcc179b5b889", func := "gradus/graduslaw11.SlopeShape", spec := "slopeShape", unfollowed := true, recurses := true, apart := false }
def SlopeShapeSaid : Prop := slopeShapeRow.holds Tryz.pinned (OpenSpec.ofChange slopeShapeSpec)

/-- ITS FALSE NEIGHBOUR: 'it returns false'. Refute it at one input. -/
def slopeShapeWrong : ChangeSpec := { name := "slopeShape", fn := fun _ => fun
  | [d] => { results := [.lit (.bool false)], args := [d] }
  | _ => none }
def SlopeShapeWrongFalsely : Prop := slopeShapeRow.holds Tryz.pinned (OpenSpec.ofChange slopeShapeWrong)

/-- 'graduslaw11.SlopeWide': WHATEVER THE INPUT: true; the input reads as it did. -/
def slopeWideSpec : ChangeSpec := { name := "slopeWide", fn := fun _ => fun
  | [d] => { results := [.lit (.bool true)], args := [d] }
  | _ => none }
def slopeWideRow : OpenClaim := { program := "ytfdbegdgedhhcaagreat", sum := "10b3b6f8accd25b204449bd640cd553e1f4afdfd46ae84b79a65bcc179b5b889", func := "gradus/graduslaw11.SlopeWide", spec := "slopeWide", unfollowed := true, recurses := true, apart := false }
def SlopeWideSaid : Prop := slopeWideRow.holds Tryz.pinned (OpenSpec.ofChange slopeWideSpec)

/-- ITS FALSE NEIGHBOUR: 'it returns false'. Refute it at one input. -/
def slopeWideWrong : ChangeSpec := { name := "slopeWide", fn := fun _ => fun
  | [d] => { results := [.lit (.bool false)], args := [d] }
  | _ => none }
def SlopeWideWrongFalsely : Prop := slopeWideRow.holds Tryz.pinned (OpenSpec.ofChange slopeWideWrong)

/-- 'graduslaw11.SlopeSum': WHATEVER THE INPUT: true; the input reads as it did. -/
def slopeSumSpec : ChangeSpec := { name := "slopeSum", fn := fun _ => fun
  | [d] => { results := [.lit (.bool true)], args := [d] }
  | _ => none }
def slopeSumRow : OpenClaim := { program := "ytfdbegdgedhhcaagreat", sum := "10b3b6f8accd25b204449bd640cd553e1f4afdfd46ae84b79a65bcc179b5b889", func := "gradus/graduslaw11.SlopeSum", spec := "slopeSum", unfollowed := true, recurses := true, apart := false }
def SlopeSumSaid : Prop := slopeSumRow.holds Tryz.pinned (OpenSpec.ofChange slopeSumSpec)

/-- ITS FALSE NEIGHBOUR: 'it returns false'. Refute it at one input. -/
def slopeSumWrong : ChangeSpec := { name := "slopeSum", fn := fun _ => fun
  | [d] => { results := [.lit (.bool false)], args := [d] }
  | _ => none }
def SlopeSumWrongFalsely : Prop := slopeSumRow.holds Tryz.pinned (OpenSpec.ofChange slopeSumWrong)

/-- 'graduslaw11.SlopeRelu': WHATEVER THE INPUT: true; the input reads as it did. -/
def slopeReluSpec : ChangeSpec := { name := "slopeRelu", fn := fun _ => fun
  | [d] => { results := [.lit (.bool true)], args := [d] }
  | _ => none }
def slopeReluRow : OpenClaim := { program := "ytfdbegdgedhhcaagreat", sum := "10b3b6f8accd25b204449bd640cd553e1f4afdfd46ae84b79a65bcc179b5b889", func := "gradus/graduslaw11.SlopeRelu", spec := "slopeRelu", unfollowed := true, recurses := true, apart := false }
def SlopeReluSaid : Prop := slopeReluRow.holds Tryz.pinned (OpenSpec.ofChange slopeReluSpec)

/-- ITS FALSE NEIGHBOUR: 'it returns false'. Refute it at one input. -/
def slopeReluWrong : ChangeSpec := { name := "slopeRelu", fn := fun _ => fun
  | [d] => { results := [.lit (.bool false)], args := [d] }
  | _ => none }
def SlopeReluWrongFalsely : Prop := slopeReluRow.holds Tryz.pinned (OpenSpec.ofChange slopeReluWrong)

/-- 'graduslaw11.SlopeMax': WHATEVER THE INPUT: true; the input reads as it did. -/
def slopeMaxSpec : ChangeSpec := { name := "slopeMax", fn := fun _ => fun
  | [d] => { results := [.lit (.bool true)], args := [d] }
  | _ => none }
def slopeMaxRow : OpenClaim := { program := "ytfdbegdgedhhcaagreat", sum := "10b3b6f8accd25b204449bd640cd553e1f4afdfd46ae84b79a65bcc179b5b889", func := "gradus/graduslaw11.SlopeMax", spec := "slopeMax", unfollowed := true, recurses := true, apart := false }
def SlopeMaxSaid : Prop := slopeMaxRow.holds Tryz.pinned (OpenSpec.ofChange slopeMaxSpec)

/-- ITS FALSE NEIGHBOUR: 'it returns false'. Refute it at one input. -/
def slopeMaxWrong : ChangeSpec := { name := "slopeMax", fn := fun _ => fun
  | [d] => { results := [.lit (.bool false)], args := [d] }
  | _ => none }
def SlopeMaxWrongFalsely : Prop := slopeMaxRow.holds Tryz.pinned (OpenSpec.ofChange slopeMaxWrong)

/- THE SECOND FORM. 'bulk': how many values and letters a reading holds, each counted each time it is reached (what is shared counts as often as it is met; a slice's spare places count too). A statement '..UptoSaid' is the law's where the arguments, and the package variables that the reading takes, are together of bulk at most 1048576: NARROWER than '..Said'. Prove '..Said' where nothing that the law and all that it calls make is longer than what came in: it says more and counts as full. Else prove '..UptoSaid'. A law counts once. -/
mutual
def uptoBulk {H : Type} : DataW H → Nat
  | .lit (.string bytes) => bytes.length + 1
  | .lit _ => 1
  | .nil => 1
  | .ptr d => uptoBulk d + 1
  | .slice elems spare => uptoBulkAll elems + uptoBulkAll spare + 1
  | .agg parts => uptoBulkAll parts + 1
  | .iface _ d => uptoBulk d + 1
  | .map entries => uptoBulkEntries entries + 1
  | .held _ => 1
def uptoBulkAll {H : Type} : List (DataW H) → Nat
  | [] => 0
  | d :: r => uptoBulk d + uptoBulkAll r
def uptoBulkEntries {H : Type} : List (Lit × DataW H) → Nat
  | [] => 0
  | x :: r => uptoBulkEntry x + uptoBulkEntries r
def uptoBulkEntry {H : Type} : Lit × DataW H → Nat
  | (.string bytes, d) => bytes.length + uptoBulk d + 1
  | (_, d) => uptoBulk d + 1
 end
def uptoSmall : (H : Type) → List (DataW H) → Bool := fun _ ds => decide (uptoBulkAll ds ≤ 1048576)
def OpenSpec.upto (s : _root_.Go.ChangeSpec) : _root_.Go.OpenSpec := { _root_.Go.OpenSpec.ofChange s with cond := some uptoSmall }

/-- 'graduslaw10.EvalAdd', WHERE WHAT IT READS IS OF BULK AT MOST 1048576: true; the input reads as it did. -/
def evalAddUptoRow : OpenClaim := { program := "ytfdbegdgedhhcaagreat", sum := "10b3b6f8accd25b204449bd640cd553e1f4afdfd46ae84b79a65bcc179b5b889", func := "gradus/graduslaw10.EvalAdd", spec := "evalAdd", unfollowed := true, recurses := true, apart := false, narrowed := true }
def EvalAddUptoSaid : Prop := evalAddUptoRow.holds Tryz.pinned (OpenSpec.upto evalAddSpec)

/-- 'graduslaw10.EvalSub', WHERE WHAT IT READS IS OF BULK AT MOST 1048576: true; the input reads as it did. -/
def evalSubUptoRow : OpenClaim := { program := "ytfdbegdgedhhcaagreat", sum := "10b3b6f8accd25b204449bd640cd553e1f4afdfd46ae84b79a65bcc179b5b889", func := "gradus/graduslaw10.EvalSub", spec := "evalSub", unfollowed := true, recurses := true, apart := false, narrowed := true }
def EvalSubUptoSaid : Prop := evalSubUptoRow.holds Tryz.pinned (OpenSpec.upto evalSubSpec)

/-- 'graduslaw10.EvalMul', WHERE WHAT IT READS IS OF BULK AT MOST 1048576: true; the input reads as it did. -/
def evalMulUptoRow : OpenClaim := { program := "ytfdbegdgedhhcaagreat", sum := "10b3b6f8accd25b204449bd640cd553e1f4afdfd46ae84b79a65bcc179b5b889", func := "gradus/graduslaw10.EvalMul", spec := "evalMul", unfollowed := true, recurses := true, apart := false, narrowed := true }
def EvalMulUptoSaid : Prop := evalMulUptoRow.holds Tryz.pinned (OpenSpec.upto evalMulSpec)

/-- 'graduslaw10.EvalNeg', WHERE WHAT IT READS IS OF BULK AT MOST 1048576: true; the input reads as it did. -/
def evalNegUptoRow : OpenClaim := { program := "ytfdbegdgedhhcaagreat", sum := "10b3b6f8accd25b204449bd640cd553e1f4afdfd46ae84b79a65bcc179b5b889", func := "gradus/graduslaw10.EvalNeg", spec := "evalNeg", unfollowed := true, recurses := true, apart := false, narrowed := true }
def EvalNegUptoSaid : Prop := evalNegUptoRow.holds Tryz.pinned (OpenSpec.upto evalNegSpec)

/-- 'graduslaw10.EvalScale', WHERE WHAT IT READS IS OF BULK AT MOST 1048576: true; the input reads as it did. -/
def evalScaleUptoRow : OpenClaim := { program := "ytfdbegdgedhhcaagreat", sum := "10b3b6f8accd25b204449bd640cd553e1f4afdfd46ae84b79a65bcc179b5b889", func := "gradus/graduslaw10.EvalScale", spec := "evalScale", unfollowed := true, recurses := true, apart := false, narrowed := true }
def EvalScaleUptoSaid : Prop := evalScaleUptoRow.holds Tryz.pinned (OpenSpec.upto evalScaleSpec)

/-- 'graduslaw10.EvalMat', WHERE WHAT IT READS IS OF BULK AT MOST 1048576: true; the input reads as it did. -/
def evalMatUptoRow : OpenClaim := { program := "ytfdbegdgedhhcaagreat", sum := "10b3b6f8accd25b204449bd640cd553e1f4afdfd46ae84b79a65bcc179b5b889", func := "gradus/graduslaw10.EvalMat", spec := "evalMat", unfollowed := true, recurses := true, apart := false, narrowed := true }
def EvalMatUptoSaid : Prop := evalMatUptoRow.holds Tryz.pinned (OpenSpec.upto evalMatSpec)

/-- 'graduslaw10.EvalTurn', WHERE WHAT IT READS IS OF BULK AT MOST 1048576: true; the input reads as it did. -/
def evalTurnUptoRow : OpenClaim := { program := "ytfdbegdgedhhcaagreat", sum := "10b3b6f8accd25b204449bd640cd553e1f4afdfd46ae84b79a65bcc179b5b889", func := "gradus/graduslaw10.EvalTurn", spec := "evalTurn", unfollowed := true, recurses := true, apart := false, narrowed := true }
def EvalTurnUptoSaid : Prop := evalTurnUptoRow.holds Tryz.pinned (OpenSpec.upto evalTurnSpec)

/-- 'graduslaw10.EvalShape', WHERE WHAT IT READS IS OF BULK AT MOST 1048576: true; the input reads as it did. -/
def evalShapeUptoRow : OpenClaim := { program := "ytfdbegdgedhhcaagreat", sum := "10b3b6f8accd25b204449bd640cd553e1f4afdfd46ae84b79a65bcc179b5b889", func := "gradus/graduslaw10.EvalShape", spec := "evalShape", unfollowed := true, recurses := true, apart := false, narrowed := true }
def EvalShapeUptoSaid : Prop := evalShapeUptoRow.holds Tryz.pinned (OpenSpec.upto evalShapeSpec)

/-- 'graduslaw10.EvalWide', WHERE WHAT IT READS IS OF BULK AT MOST 1048576: true; the input reads as it did. -/
def evalWideUptoRow : OpenClaim := { program := "ytfdbegdgedhhcaagreat", sum := "10b3b6f8accd25b204449bd640cd553e1f4afdfd46ae84b79a65bcc179b5b889", func := "gradus/graduslaw10.EvalWide", spec := "evalWide", unfollowed := true, recurses := true, apart := false, narrowed := true }
def EvalWideUptoSaid : Prop := evalWideUptoRow.holds Tryz.pinned (OpenSpec.upto evalWideSpec)

/-- 'graduslaw10.EvalSum', WHERE WHAT IT READS IS OF BULK AT MOST 1048576: true; the input reads as it did. -/
def evalSumUptoRow : OpenClaim := { program := "ytfdbegdgedhhcaagreat", sum := "10b3b6f8accd25b204449bd640cd553e1f4afdfd46ae84b79a65bcc179b5b889", func := "gradus/graduslaw10.EvalSum", spec := "evalSum", unfollowed := true, recurses := true, apart := false, narrowed := true }
def EvalSumUptoSaid : Prop := evalSumUptoRow.holds Tryz.pinned (OpenSpec.upto evalSumSpec)

/-- 'graduslaw10.EvalRelu', WHERE WHAT IT READS IS OF BULK AT MOST 1048576: true; the input reads as it did. -/
def evalReluUptoRow : OpenClaim := { program := "ytfdbegdgedhhcaagreat", sum := "10b3b6f8accd25b204449bd640cd553e1f4afdfd46ae84b79a65bcc179b5b889", func := "gradus/graduslaw10.EvalRelu", spec := "evalRelu", unfollowed := true, recurses := true, apart := false, narrowed := true }
def EvalReluUptoSaid : Prop := evalReluUptoRow.holds Tryz.pinned (OpenSpec.upto evalReluSpec)

/-- 'graduslaw10.EvalMax', WHERE WHAT IT READS IS OF BULK AT MOST 1048576: true; the input reads as it did. -/
def evalMaxUptoRow : OpenClaim := { program := "ytfdbegdgedhhcaagreat", sum := "10b3b6f8accd25b204449bd640cd553e1f4afdfd46ae84b79a65bcc179b5b889", func := "gradus/graduslaw10.EvalMax", spec := "evalMax", unfollowed := true, recurses := true, apart := false, narrowed := true }
def EvalMaxUptoSaid : Prop := evalMaxUptoRow.holds Tryz.pinned (OpenSpec.upto evalMaxSpec)

/-- 'graduslaw11.SlopeAdds', WHERE WHAT IT READS IS OF BULK AT MOST 1048576: true; the input reads as it did. -/
def slopeAddsUptoRow : OpenClaim := { program := "ytfdbegdgedhhcaagreat", sum := "10b3b6f8accd25b204449bd640cd553e1f4afdfd46ae84b79a65bcc179b5b889", func := "gradus/graduslaw11.SlopeAdds", spec := "slopeAdds", unfollowed := true, recurses := true, apart := false, narrowed := true }
def SlopeAddsUptoSaid : Prop := slopeAddsUptoRow.holds Tryz.pinned (OpenSpec.upto slopeAddsSpec)

/-- 'graduslaw11.SlopeAdd', WHERE WHAT IT READS IS OF BULK AT MOST 1048576: true; the input reads as it did. -/
def slopeAddUptoRow : OpenClaim := { program := "ytfdbegdgedhhcaagreat", sum := "10b3b6f8accd25b204449bd640cd553e1f4afdfd46ae84b79a65bcc179b5b889", func := "gradus/graduslaw11.SlopeAdd", spec := "slopeAdd", unfollowed := true, recurses := true, apart := false, narrowed := true }
def SlopeAddUptoSaid : Prop := slopeAddUptoRow.holds Tryz.pinned (OpenSpec.upto slopeAddSpec)

/-- 'graduslaw11.SlopeSub', WHERE WHAT IT READS IS OF BULK AT MOST 1048576: true; the input reads as it did. -/
def slopeSubUptoRow : OpenClaim := { program := "ytfdbegdgedhhcaagreat", sum := "10b3b6f8accd25b204449bd640cd553e1f4afdfd46ae84b79a65bcc179b5b889", func := "gradus/graduslaw11.SlopeSub", spec := "slopeSub", unfollowed := true, recurses := true, apart := false, narrowed := true }
def SlopeSubUptoSaid : Prop := slopeSubUptoRow.holds Tryz.pinned (OpenSpec.upto slopeSubSpec)

/-- 'graduslaw11.SlopeMul', WHERE WHAT IT READS IS OF BULK AT MOST 1048576: true; the input reads as it did. -/
def slopeMulUptoRow : OpenClaim := { program := "ytfdbegdgedhhcaagreat", sum := "10b3b6f8accd25b204449bd640cd553e1f4afdfd46ae84b79a65bcc179b5b889", func := "gradus/graduslaw11.SlopeMul", spec := "slopeMul", unfollowed := true, recurses := true, apart := false, narrowed := true }
def SlopeMulUptoSaid : Prop := slopeMulUptoRow.holds Tryz.pinned (OpenSpec.upto slopeMulSpec)

/-- 'graduslaw11.SlopeNeg', WHERE WHAT IT READS IS OF BULK AT MOST 1048576: true; the input reads as it did. -/
def slopeNegUptoRow : OpenClaim := { program := "ytfdbegdgedhhcaagreat", sum := "10b3b6f8accd25b204449bd640cd553e1f4afdfd46ae84b79a65bcc179b5b889", func := "gradus/graduslaw11.SlopeNeg", spec := "slopeNeg", unfollowed := true, recurses := true, apart := false, narrowed := true }
def SlopeNegUptoSaid : Prop := slopeNegUptoRow.holds Tryz.pinned (OpenSpec.upto slopeNegSpec)

/-- 'graduslaw11.SlopeScale', WHERE WHAT IT READS IS OF BULK AT MOST 1048576: true; the input reads as it did. -/
def slopeScaleUptoRow : OpenClaim := { program := "ytfdbegdgedhhcaagreat", sum := "10b3b6f8accd25b204449bd640cd553e1f4afdfd46ae84b79a65bcc179b5b889", func := "gradus/graduslaw11.SlopeScale", spec := "slopeScale", unfollowed := true, recurses := true, apart := false, narrowed := true }
def SlopeScaleUptoSaid : Prop := slopeScaleUptoRow.holds Tryz.pinned (OpenSpec.upto slopeScaleSpec)

/-- 'graduslaw11.SlopeMat', WHERE WHAT IT READS IS OF BULK AT MOST 1048576: true; the input reads as it did. -/
def slopeMatUptoRow : OpenClaim := { program := "ytfdbegdgedhhcaagreat", sum := "10b3b6f8accd25b204449bd640cd553e1f4afdfd46ae84b79a65bcc179b5b889", func := "gradus/graduslaw11.SlopeMat", spec := "slopeMat", unfollowed := true, recurses := true, apart := false, narrowed := true }
def SlopeMatUptoSaid : Prop := slopeMatUptoRow.holds Tryz.pinned (OpenSpec.upto slopeMatSpec)

/-- 'graduslaw11.SlopeTurn', WHERE WHAT IT READS IS OF BULK AT MOST 1048576: true; the input reads as it did. -/
def slopeTurnUptoRow : OpenClaim := { program := "ytfdbegdgedhhcaagreat", sum := "10b3b6f8accd25b204449bd640cd553e1f4afdfd46ae84b79a65bcc179b5b889", func := "gradus/graduslaw11.SlopeTurn", spec := "slopeTurn", unfollowed := true, recurses := true, apart := false, narrowed := true }
def SlopeTurnUptoSaid : Prop := slopeTurnUptoRow.holds Tryz.pinned (OpenSpec.upto slopeTurnSpec)

/-- 'graduslaw11.SlopeShape', WHERE WHAT IT READS IS OF BULK AT MOST 1048576: true; the input reads as it did. -/
def slopeShapeUptoRow : OpenClaim := { program := "ytfdbegdgedhhcaagreat", sum := "10b3b6f8accd25b204449bd640cd553e1f4afdfd46ae84b79a65bcc179b5b889", func := "gradus/graduslaw11.SlopeShape", spec := "slopeShape", unfollowed := true, recurses := true, apart := false, narrowed := true }
def SlopeShapeUptoSaid : Prop := slopeShapeUptoRow.holds Tryz.pinned (OpenSpec.upto slopeShapeSpec)

/-- 'graduslaw11.SlopeWide', WHERE WHAT IT READS IS OF BULK AT MOST 1048576: true; the input reads as it did. -/
def slopeWideUptoRow : OpenClaim := { program := "ytfdbegdgedhhcaagreat", sum := "10b3b6f8accd25b204449bd640cd553e1f4afdfd46ae84b79a65bcc179b5b889", func := "gradus/graduslaw11.SlopeWide", spec := "slopeWide", unfollowed := true, recurses := true, apart := false, narrowed := true }
def SlopeWideUptoSaid : Prop := slopeWideUptoRow.holds Tryz.pinned (OpenSpec.upto slopeWideSpec)

/-- 'graduslaw11.SlopeSum', WHERE WHAT IT READS IS OF BULK AT MOST 1048576: true; the input reads as it did. -/
def slopeSumUptoRow : OpenClaim := { program := "ytfdbegdgedhhcaagreat", sum := "10b3b6f8accd25b204449bd640cd553e1f4afdfd46ae84b79a65bcc179b5b889", func := "gradus/graduslaw11.SlopeSum", spec := "slopeSum", unfollowed := true, recurses := true, apart := false, narrowed := true }
def SlopeSumUptoSaid : Prop := slopeSumUptoRow.holds Tryz.pinned (OpenSpec.upto slopeSumSpec)

/-- 'graduslaw11.SlopeRelu', WHERE WHAT IT READS IS OF BULK AT MOST 1048576: true; the input reads as it did. -/
def slopeReluUptoRow : OpenClaim := { program := "ytfdbegdgedhhcaagreat", sum := "10b3b6f8accd25b204449bd640cd553e1f4afdfd46ae84b79a65bcc179b5b889", func := "gradus/graduslaw11.SlopeRelu", spec := "slopeRelu", unfollowed := true, recurses := true, apart := false, narrowed := true }
def SlopeReluUptoSaid : Prop := slopeReluUptoRow.holds Tryz.pinned (OpenSpec.upto slopeReluSpec)

/-- 'graduslaw11.SlopeMax', WHERE WHAT IT READS IS OF BULK AT MOST 1048576: true; the input reads as it did. -/
def slopeMaxUptoRow : OpenClaim := { program := "ytfdbegdgedhhcaagreat", sum := "10b3b6f8accd25b204449bd640cd553e1f4afdfd46ae84b79a65bcc179b5b889", func := "gradus/graduslaw11.SlopeMax", spec := "slopeMax", unfollowed := true, recurses := true, apart := false, narrowed := true }
def SlopeMaxUptoSaid : Prop := slopeMaxUptoRow.holds Tryz.pinned (OpenSpec.upto slopeMaxSpec)

end Rows
end Go.Proofs.YtfdbegdgedhhcaaGreat
