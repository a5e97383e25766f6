/-
  No cell of these rows narrows 'for every input' (looked for: loops, veiled, ifaces, maps, wideKeys, modest, calm, conditions, laid).
  DERIVED. THE GIVEN ROWS OF THIS SEAT. 14 by the template 'for every input the law returns true; each argument reads behind the call as it read before'; 0 by the template 'total and deterministic' (their statements: YtaofdhgkgklppaaGreatTotals.lean).
  GIVEN WITH THE SEED: the statements are not yours to turn. If you find one false, say at which input.
  Laid BY PROGRAM, IN A SANDBOX (cutbox-rows.mjs): the forced cells as the released guide's own fill.sh prints them over the translation 93815158b4aae588… (all of the seat's roots in one cut). By AI agents, Wed Nov 11 2026. No macro, syntax, notation, axiom, sorry.
-/
import Derived.Test.YtaofdhgkgklppaaGreatChecked
import GoSem.Claim
import GoSem.ClaimJoined
import GoSem.ClaimMapViews
import Derived.JoinedTies
import Derived.KernelRfl
namespace Go.Proofs.YtaofdhgkgklppaaGreat
/- THE CELL 'sum', in the pinned program and in every row, IS THE sha256 OF THE DUMP (.gsa) THAT YtaofdhgkgklppaaGreatProg.lean LOADS. Nothing in Lean hashes anything: it is a label: what it is worth is what the hold of that sum in a sandbox is worth. -/
noncomputable def Tryz.pinned : Pinned := { name := "ytaofdhgkgklppaagreat", sum := "93815158b4aae588e05b1ad600c1ce42dd5371c5c337fb62b949d32979ec12a3", checked := Tryz.checked }
namespace Rows
def none {H : Type} : Left H := { results := [], args := [] }

/-- 'graftertop.TopFolds': WHATEVER THE INPUT: true; the input reads as it did. -/
def topFoldsSpec : ChangeSpec := { name := "topFolds", fn := fun _ => fun
  | [d1, d2] => { results := [.lit (.bool true)], args := [d1, d2] }
  | _ => none }
def topFoldsRow : OpenClaim := { program := "ytaofdhgkgklppaagreat", sum := "93815158b4aae588e05b1ad600c1ce42dd5371c5c337fb62b949d32979ec12a3", func := "grafter/graftertop.TopFolds", spec := "topFolds", inPlace := ["slices.overlaps[grafter/api.Entry]"], unfollowed := true, recurses := true, apart := false }
def TopFoldsSaid : Prop := topFoldsRow.holds Tryz.pinned (OpenSpec.ofChange topFoldsSpec)

/-- ITS FALSE NEIGHBOUR: 'it returns false'. Refute it at one input. -/
def topFoldsWrong : ChangeSpec := { name := "topFolds", fn := fun _ => fun
  | [d1, d2] => { results := [.lit (.bool false)], args := [d1, d2] }
  | _ => none }
def TopFoldsWrongFalsely : Prop := topFoldsRow.holds Tryz.pinned (OpenSpec.ofChange topFoldsWrong)

/-- 'graftertop.TopScores': WHATEVER THE INPUT: true; the input reads as it did. -/
def topScoresSpec : ChangeSpec := { name := "topScores", fn := fun _ => fun
  | [d] => { results := [.lit (.bool true)], args := [d] }
  | _ => none }
def topScoresRow : OpenClaim := { program := "ytaofdhgkgklppaagreat", sum := "93815158b4aae588e05b1ad600c1ce42dd5371c5c337fb62b949d32979ec12a3", func := "grafter/graftertop.TopScores", spec := "topScores", inPlace := ["slices.overlaps[grafter/api.Entry]"], unfollowed := true, recurses := true, apart := false }
def TopScoresSaid : Prop := topScoresRow.holds Tryz.pinned (OpenSpec.ofChange topScoresSpec)

/-- ITS FALSE NEIGHBOUR: 'it returns false'. Refute it at one input. -/
def topScoresWrong : ChangeSpec := { name := "topScores", fn := fun _ => fun
  | [d] => { results := [.lit (.bool false)], args := [d] }
  | _ => none }
def TopScoresWrongFalsely : Prop := topScoresRow.holds Tryz.pinned (OpenSpec.ofChange topScoresWrong)

/-- 'graftertop.TopBetter': WHATEVER THE INPUT: true; the input reads as it did. -/
def topBetterSpec : ChangeSpec := { name := "topBetter", fn := fun _ => fun
  | [d1, d2] => { results := [.lit (.bool true)], args := [d1, d2] }
  | _ => none }
def topBetterRow : OpenClaim := { program := "ytaofdhgkgklppaagreat", sum := "93815158b4aae588e05b1ad600c1ce42dd5371c5c337fb62b949d32979ec12a3", func := "grafter/graftertop.TopBetter", spec := "topBetter", inPlace := ["slices.overlaps[grafter/api.Entry]"], unfollowed := true, recurses := true, apart := false }
def TopBetterSaid : Prop := topBetterRow.holds Tryz.pinned (OpenSpec.ofChange topBetterSpec)

/-- ITS FALSE NEIGHBOUR: 'it returns false'. Refute it at one input. -/
def topBetterWrong : ChangeSpec := { name := "topBetter", fn := fun _ => fun
  | [d1, d2] => { results := [.lit (.bool false)], args := [d1, d2] }
  | _ => none }
def TopBetterWrongFalsely : Prop := topBetterRow.holds Tryz.pinned (OpenSpec.ofChange topBetterWrong)

/-- 'grafterlaw23.Steps': WHATEVER THE INPUT: true; the input reads as it did. -/
def stepsSpec : ChangeSpec := { name := "steps", fn := fun _ => fun
  | [d1, d2] => { results := [.lit (.bool true)], args := [d1, d2] }
  | _ => none }
def stepsRow : OpenClaim := { program := "ytaofdhgkgklppaagreat", sum := "93815158b4aae588e05b1ad600c1ce42dd5371c5c337fb62b949d32979ec12a3", func := "grafter/grafterlaw23.Steps", spec := "steps", inPlace := ["slices.overlaps[grafter/api.Entry]"], unfollowed := true, recurses := true, apart := false }
def StepsSaid : Prop := stepsRow.holds Tryz.pinned (OpenSpec.ofChange stepsSpec)

/-- ITS FALSE NEIGHBOUR: 'it returns false'. Refute it at one input. -/
def stepsWrong : ChangeSpec := { name := "steps", fn := fun _ => fun
  | [d1, d2] => { results := [.lit (.bool false)], args := [d1, d2] }
  | _ => none }
def StepsWrongFalsely : Prop := stepsRow.holds Tryz.pinned (OpenSpec.ofChange stepsWrong)

/-- 'grafterlaw23.StepForms': WHATEVER THE INPUT: true; the input reads as it did. -/
def stepFormsSpec : ChangeSpec := { name := "stepForms", fn := fun _ => fun
  | [d1, d2] => { results := [.lit (.bool true)], args := [d1, d2] }
  | _ => none }
def stepFormsRow : OpenClaim := { program := "ytaofdhgkgklppaagreat", sum := "93815158b4aae588e05b1ad600c1ce42dd5371c5c337fb62b949d32979ec12a3", func := "grafter/grafterlaw23.StepForms", spec := "stepForms", inPlace := ["slices.overlaps[grafter/api.Entry]"], unfollowed := true, recurses := true, apart := false }
def StepFormsSaid : Prop := stepFormsRow.holds Tryz.pinned (OpenSpec.ofChange stepFormsSpec)

/-- ITS FALSE NEIGHBOUR: 'it returns false'. Refute it at one input. -/
def stepFormsWrong : ChangeSpec := { name := "stepForms", fn := fun _ => fun
  | [d1, d2] => { results := [.lit (.bool false)], args := [d1, d2] }
  | _ => none }
def StepFormsWrongFalsely : Prop := stepFormsRow.holds Tryz.pinned (OpenSpec.ofChange stepFormsWrong)

/-- 'grafterlaw23.StepOwn': WHATEVER THE INPUT: true; the input reads as it did. -/
def stepOwnSpec : ChangeSpec := { name := "stepOwn", fn := fun _ => fun
  | [d1, d2] => { results := [.lit (.bool true)], args := [d1, d2] }
  | _ => none }
def stepOwnRow : OpenClaim := { program := "ytaofdhgkgklppaagreat", sum := "93815158b4aae588e05b1ad600c1ce42dd5371c5c337fb62b949d32979ec12a3", func := "grafter/grafterlaw23.StepOwn", spec := "stepOwn", inPlace := ["slices.overlaps[grafter/api.Entry]"], unfollowed := true, recurses := true, apart := false }
def StepOwnSaid : Prop := stepOwnRow.holds Tryz.pinned (OpenSpec.ofChange stepOwnSpec)

/-- ITS FALSE NEIGHBOUR: 'it returns false'. Refute it at one input. -/
def stepOwnWrong : ChangeSpec := { name := "stepOwn", fn := fun _ => fun
  | [d1, d2] => { results := [.lit (.bool false)], args := [d1, d2] }
  | _ => none }
def StepOwnWrongFalsely : Prop := stepOwnRow.holds Tryz.pinned (OpenSpec.ofChange stepOwnWrong)

/-- 'grafterlaw23.StepFull': WHATEVER THE INPUT: true; the input reads as it did. -/
def stepFullSpec : ChangeSpec := { name := "stepFull", fn := fun _ => fun
  | [d1, d2, d3] => { results := [.lit (.bool true)], args := [d1, d2, d3] }
  | _ => none }
def stepFullRow : OpenClaim := { program := "ytaofdhgkgklppaagreat", sum := "93815158b4aae588e05b1ad600c1ce42dd5371c5c337fb62b949d32979ec12a3", func := "grafter/grafterlaw23.StepFull", spec := "stepFull", inPlace := ["slices.overlaps[grafter/api.Entry]"], unfollowed := true, recurses := true, apart := false }
def StepFullSaid : Prop := stepFullRow.holds Tryz.pinned (OpenSpec.ofChange stepFullSpec)

/-- ITS FALSE NEIGHBOUR: 'it returns false'. Refute it at one input. -/
def stepFullWrong : ChangeSpec := { name := "stepFull", fn := fun _ => fun
  | [d1, d2, d3] => { results := [.lit (.bool false)], args := [d1, d2, d3] }
  | _ => none }
def StepFullWrongFalsely : Prop := stepFullRow.holds Tryz.pinned (OpenSpec.ofChange stepFullWrong)

/-- 'grafterlaw23.StepAlone': WHATEVER THE INPUT: true; the input reads as it did. -/
def stepAloneSpec : ChangeSpec := { name := "stepAlone", fn := fun _ => fun
  | [d1, d2, d3] => { results := [.lit (.bool true)], args := [d1, d2, d3] }
  | _ => none }
def stepAloneRow : OpenClaim := { program := "ytaofdhgkgklppaagreat", sum := "93815158b4aae588e05b1ad600c1ce42dd5371c5c337fb62b949d32979ec12a3", func := "grafter/grafterlaw23.StepAlone", spec := "stepAlone", inPlace := ["slices.overlaps[grafter/api.Entry]"], unfollowed := true, recurses := true, apart := false }
def StepAloneSaid : Prop := stepAloneRow.holds Tryz.pinned (OpenSpec.ofChange stepAloneSpec)

/-- ITS FALSE NEIGHBOUR: 'it returns false'. Refute it at one input. -/
def stepAloneWrong : ChangeSpec := { name := "stepAlone", fn := fun _ => fun
  | [d1, d2, d3] => { results := [.lit (.bool false)], args := [d1, d2, d3] }
  | _ => none }
def StepAloneWrongFalsely : Prop := stepAloneRow.holds Tryz.pinned (OpenSpec.ofChange stepAloneWrong)

/-- 'grafterlaw23.StepReady': WHATEVER THE INPUT: true; the input reads as it did. -/
def stepReadySpec : ChangeSpec := { name := "stepReady", fn := fun _ => fun
  | [d1, d2] => { results := [.lit (.bool true)], args := [d1, d2] }
  | _ => none }
def stepReadyRow : OpenClaim := { program := "ytaofdhgkgklppaagreat", sum := "93815158b4aae588e05b1ad600c1ce42dd5371c5c337fb62b949d32979ec12a3", func := "grafter/grafterlaw23.StepReady", spec := "stepReady", inPlace := ["slices.overlaps[grafter/api.Entry]"], unfollowed := true, recurses := true, apart := false }
def StepReadySaid : Prop := stepReadyRow.holds Tryz.pinned (OpenSpec.ofChange stepReadySpec)

/-- ITS FALSE NEIGHBOUR: 'it returns false'. Refute it at one input. -/
def stepReadyWrong : ChangeSpec := { name := "stepReady", fn := fun _ => fun
  | [d1, d2] => { results := [.lit (.bool false)], args := [d1, d2] }
  | _ => none }
def StepReadyWrongFalsely : Prop := stepReadyRow.holds Tryz.pinned (OpenSpec.ofChange stepReadyWrong)

/-- 'graftertop.TopEnds': WHATEVER THE INPUT: true; the input reads as it did. -/
def topEndsSpec : ChangeSpec := { name := "topEnds", fn := fun _ => fun
  | [d1, d2] => { results := [.lit (.bool true)], args := [d1, d2] }
  | _ => none }
def topEndsRow : OpenClaim := { program := "ytaofdhgkgklppaagreat", sum := "93815158b4aae588e05b1ad600c1ce42dd5371c5c337fb62b949d32979ec12a3", func := "grafter/graftertop.TopEnds", spec := "topEnds", inPlace := ["slices.overlaps[grafter/api.Entry]"], unfollowed := true, recurses := true, apart := false }
def TopEndsSaid : Prop := topEndsRow.holds Tryz.pinned (OpenSpec.ofChange topEndsSpec)

/-- ITS FALSE NEIGHBOUR: 'it returns false'. Refute it at one input. -/
def topEndsWrong : ChangeSpec := { name := "topEnds", fn := fun _ => fun
  | [d1, d2] => { results := [.lit (.bool false)], args := [d1, d2] }
  | _ => none }
def TopEndsWrongFalsely : Prop := topEndsRow.holds Tryz.pinned (OpenSpec.ofChange topEndsWrong)

/-- 'graftertop.TopStore': WHATEVER THE INPUT: true; the input reads as it did. -/
def topStoreSpec : ChangeSpec := { name := "topStore", fn := fun _ => fun
  | [d1, d2, d3] => { results := [.lit (.bool true)], args := [d1, d2, d3] }
  | _ => none }
def topStoreRow : OpenClaim := { program := "ytaofdhgkgklppaagreat", sum := "93815158b4aae588e05b1ad600c1ce42dd5371c5c337fb62b949d32979ec12a3", func := "grafter/graftertop.TopStore", spec := "topStore", inPlace := ["slices.overlaps[grafter/api.Entry]"], unfollowed := true, recurses := true, apart := false }
def TopStoreSaid : Prop := topStoreRow.holds Tryz.pinned (OpenSpec.ofChange topStoreSpec)

/-- ITS FALSE NEIGHBOUR: 'it returns false'. Refute it at one input. -/
def topStoreWrong : ChangeSpec := { name := "topStore", fn := fun _ => fun
  | [d1, d2, d3] => { results := [.lit (.bool false)], args := [d1, d2, d3] }
  | _ => none }
def TopStoreWrongFalsely : Prop := topStoreRow.holds Tryz.pinned (OpenSpec.ofChange topStoreWrong)

/-- 'graftertop.TopSweeps': WHATEVER THE INPUT: true; the input reads as it did. -/
def topSweepsSpec : ChangeSpec := { name := "topSweeps", fn := fun _ => fun
  | [d1, d2, d3] => { results := [.lit (.bool true)], args := [d1, d2, d3] }
  | _ => none }
def topSweepsRow : OpenClaim := { program := "ytaofdhgkgklppaagreat", sum := "93815158b4aae588e05b1ad600c1ce42dd5371c5c337fb62b949d32979ec12a3", func := "grafter/graftertop.TopSweeps", spec := "topSweeps", inPlace := ["slices.overlaps[grafter/api.Entry]"], unfollowed := true, recurses := true, apart := false }
def TopSweepsSaid : Prop := topSweepsRow.holds Tryz.pinned (OpenSpec.ofChange topSweepsSpec)

/-- ITS FALSE NEIGHBOUR: 'it returns false'. Refute it at one input. -/
def topSweepsWrong : ChangeSpec := { name := "topSweeps", fn := fun _ => fun
  | [d1, d2, d3] => { results := [.lit (.bool false)], args := [d1, d2, d3] }
  | _ => none }
def TopSweepsWrongFalsely : Prop := topSweepsRow.holds Tryz.pinned (OpenSpec.ofChange topSweepsWrong)

/-- 'graftertop.TopNet': WHATEVER THE INPUT: true; the input reads as it did. -/
def topNetSpec : ChangeSpec := { name := "topNet", fn := fun _ => fun
  | [d1, d2, d3] => { results := [.lit (.bool true)], args := [d1, d2, d3] }
  | _ => none }
def topNetRow : OpenClaim := { program := "ytaofdhgkgklppaagreat", sum := "93815158b4aae588e05b1ad600c1ce42dd5371c5c337fb62b949d32979ec12a3", func := "grafter/graftertop.TopNet", spec := "topNet", inPlace := ["slices.overlaps[grafter/api.Entry]"], unfollowed := true, recurses := true, apart := false }
def TopNetSaid : Prop := topNetRow.holds Tryz.pinned (OpenSpec.ofChange topNetSpec)

/-- ITS FALSE NEIGHBOUR: 'it returns false'. Refute it at one input. -/
def topNetWrong : ChangeSpec := { name := "topNet", fn := fun _ => fun
  | [d1, d2, d3] => { results := [.lit (.bool false)], args := [d1, d2, d3] }
  | _ => none }
def TopNetWrongFalsely : Prop := topNetRow.holds Tryz.pinned (OpenSpec.ofChange topNetWrong)

/-- 'graftertop.TopFrames': WHATEVER THE INPUT: true; the input reads as it did. -/
def topFramesSpec : ChangeSpec := { name := "topFrames", fn := fun _ => fun
  | [d] => { results := [.lit (.bool true)], args := [d] }
  | _ => none }
def topFramesRow : OpenClaim := { program := "ytaofdhgkgklppaagreat", sum := "93815158b4aae588e05b1ad600c1ce42dd5371c5c337fb62b949d32979ec12a3", func := "grafter/graftertop.TopFrames", spec := "topFrames", inPlace := ["slices.overlaps[grafter/api.Entry]"], unfollowed := true, recurses := true, apart := false }
def TopFramesSaid : Prop := topFramesRow.holds Tryz.pinned (OpenSpec.ofChange topFramesSpec)

/-- ITS FALSE NEIGHBOUR: 'it returns false'. Refute it at one input. -/
def topFramesWrong : ChangeSpec := { name := "topFrames", fn := fun _ => fun
  | [d] => { results := [.lit (.bool false)], args := [d] }
  | _ => none }
def TopFramesWrongFalsely : Prop := topFramesRow.holds Tryz.pinned (OpenSpec.ofChange topFramesWrong)

/- THE SECOND FORM. 'bulk': how many values and letters a reading holds, each counted each time it is reached (what is shared counts as often as it is met; a slice's spare places count too). A statement '..UptoSaid' is the law's where the arguments, and the package variables that the reading takes, are together of bulk at most 1048576: NARROWER than '..Said'. Prove '..Said' where nothing that the law and all that it calls make is longer than what came in: it says more and counts as full. Else prove '..UptoSaid'. A law counts once. -/
mutual
def uptoBulk {H : Type} : DataW H → Nat
  | .lit (.string bytes) => bytes.length + 1
  | .lit _ => 1
  | .nil => 1
  | .ptr d => uptoBulk d + 1
  | .slice elems spare => uptoBulkAll elems + uptoBulkAll spare + 1
  | .agg parts => uptoBulkAll parts + 1
  | .iface _ d => uptoBulk d + 1
  | .map entries => uptoBulkEntries entries + 1
  | .held _ => 1
def uptoBulkAll {H : Type} : List (DataW H) → Nat
  | [] => 0
  | d :: r => uptoBulk d + uptoBulkAll r
def uptoBulkEntries {H : Type} : List (Lit × DataW H) → Nat
  | [] => 0
  | x :: r => uptoBulkEntry x + uptoBulkEntries r
def uptoBulkEntry {H : Type} : Lit × DataW H → Nat
  | (.string bytes, d) => bytes.length + uptoBulk d + 1
  | (_, d) => uptoBulk d + 1
 end
def uptoSmall : (H : Type) → List (DataW H) → Bool := fun _ ds => decide (uptoBulkAll ds ≤ 1048576)
def OpenSpec.upto (s : _root_.Go.ChangeSpec) : _root_.Go.OpenSpec := { _root_.Go.OpenSpec.ofChange s with cond := some uptoSmall }

/-- 'graftertop.TopFolds', WHERE WHAT IT READS IS OF BULK AT MOST 1048576: true; the input reads as it did. -/
def topFoldsUptoRow : OpenClaim := { program := "ytaofdhgkgklppaagreat", sum := "93815158b4aae588e05b1ad600c1ce42dd5371c5c337fb62b949d32979ec12a3", func := "grafter/graftertop.TopFolds", spec := "topFolds", inPlace := ["slices.overlaps[grafter/api.Entry]"], unfollowed := true, recurses := true, apart := false, narrowed := true }
def TopFoldsUptoSaid : Prop := topFoldsUptoRow.holds Tryz.pinned (OpenSpec.upto topFoldsSpec)

/-- 'graftertop.TopScores', WHERE WHAT IT READS IS OF BULK AT MOST 1048576: true; the input reads as it did. -/
def topScoresUptoRow : OpenClaim := { program := "ytaofdhgkgklppaagreat", sum := "93815158b4aae588e05b1ad600c1ce42dd5371c5c337fb62b949d32979ec12a3", func := "grafter/graftertop.TopScores", spec := "topScores", inPlace := ["slices.overlaps[grafter/api.Entry]"], unfollowed := true, recurses := true, apart := false, narrowed := true }
def TopScoresUptoSaid : Prop := topScoresUptoRow.holds Tryz.pinned (OpenSpec.upto topScoresSpec)

/-- 'graftertop.TopBetter', WHERE WHAT IT READS IS OF BULK AT MOST 1048576: true; the input reads as it did. -/
def topBetterUptoRow : OpenClaim := { program := "ytaofdhgkgklppaagreat", sum := "93815158b4aae588e05b1ad600c1ce42dd5371c5c337fb62b949d32979ec12a3", func := "grafter/graftertop.TopBetter", spec := "topBetter", inPlace := ["slices.overlaps[grafter/api.Entry]"], unfollowed := true, recurses := true, apart := false, narrowed := true }
def TopBetterUptoSaid : Prop := topBetterUptoRow.holds Tryz.pinned (OpenSpec.upto topBetterSpec)

/-- 'grafterlaw23.Steps', WHERE WHAT IT READS IS OF BULK AT MOST 1048576: true; the input reads as it did. -/
def stepsUptoRow : OpenClaim := { program := "ytaofdhgkgklppaagreat", sum := "93815158b4aae588e05b1ad600c1ce42dd5371c5c337fb62b949d32979ec12a3", func := "grafter/grafterlaw23.Steps", spec := "steps", inPlace := ["slices.overlaps[grafter/api.Entry]"], unfollowed := true, recurses := true, apart := false, narrowed := true }
def StepsUptoSaid : Prop := stepsUptoRow.holds Tryz.pinned (OpenSpec.upto stepsSpec)

/-- 'grafterlaw23.StepForms', WHERE WHAT IT READS IS OF BULK AT MOST 1048576: true; the input reads as it did. -/
def stepFormsUptoRow : OpenClaim := { program := "ytaofdhgkgklppaagreat", sum := "93815158b4aae588e05b1ad600c1ce42dd5371c5c337fb62b949d32979ec12a3", func := "grafter/grafterlaw23.StepForms", spec := "stepForms", inPlace := ["slices.overlaps[grafter/api.Entry]"], unfollowed := true, recurses := true, apart := false, narrowed := true }
def StepFormsUptoSaid : Prop := stepFormsUptoRow.holds Tryz.pinned (OpenSpec.upto stepFormsSpec)

/-- 'grafterlaw23.StepOwn', WHERE WHAT IT READS IS OF BULK AT MOST 1048576: true; the input reads as it did. -/
def stepOwnUptoRow : OpenClaim := { program := "ytaofdhgkgklppaagreat", sum := "93815158b4aae588e05b1ad600c1ce42dd5371c5c337fb62b949d32979ec12a3", func := "grafter/grafterlaw23.StepOwn", spec := "stepOwn", inPlace := ["slices.overlaps[grafter/api.Entry]"], unfollowed := true, recurses := true, apart := false, narrowed := true }
def StepOwnUptoSaid : Prop := stepOwnUptoRow.holds Tryz.pinned (OpenSpec.upto stepOwnSpec)

/-- 'grafterlaw23.StepFull', WHERE WHAT IT READS IS OF BULK AT MOST 1048576: true; the input reads as it did. -/
def stepFullUptoRow : OpenClaim := { program := "ytaofdhgkgklppaagreat", sum := "93815158b4aae588e05b1ad600c1ce42dd5371c5c337fb62b949d32979ec12a3", func := "grafter/grafterlaw23.StepFull", spec := "stepFull", inPlace := ["slices.overlaps[grafter/api.Entry]"], unfollowed := true, recurses := true, apart := false, narrowed := true }
def StepFullUptoSaid : Prop := stepFullUptoRow.holds Tryz.pinned (OpenSpec.upto stepFullSpec)

/-- 'grafterlaw23.StepAlone', WHERE WHAT IT READS IS OF BULK AT MOST 1048576: true; the input reads as it did. -/
def stepAloneUptoRow : OpenClaim := { program := "ytaofdhgkgklppaagreat", sum := "93815158b4aae588e05b1ad600c1ce42dd5371c5c337fb62b949d32979ec12a3", func := "grafter/grafterlaw23.StepAlone", spec := "stepAlone", inPlace := ["slices.overlaps[grafter/api.Entry]"], unfollowed := true, recurses := true, apart := false, narrowed := true }
def StepAloneUptoSaid : Prop := stepAloneUptoRow.holds Tryz.pinned (OpenSpec.upto stepAloneSpec)

/-- 'grafterlaw23.StepReady', WHERE WHAT IT READS IS OF BULK AT MOST 1048576: true; the input reads as it did. -/
def stepReadyUptoRow : OpenClaim := { program := "ytaofdhgkgklppaagreat", sum := "93815158b4aae588e05b1ad600c1ce42dd5371c5c337fb62b949d32979ec12a3", func := "grafter/grafterlaw23.StepReady", spec := "stepReady", inPlace := ["slices.overlaps[grafter/api.Entry]"], unfollowed := true, recurses := true, apart := false, narrowed := true }
def StepReadyUptoSaid : Prop := stepReadyUptoRow.holds Tryz.pinned (OpenSpec.upto stepReadySpec)

/-- 'graftertop.TopEnds', WHERE WHAT IT READS IS OF BULK AT MOST 1048576: true; the input reads as it did. -/
def topEndsUptoRow : OpenClaim := { program := "ytaofdhgkgklppaagreat", sum := "93815158b4aae588e05b1ad600c1ce42dd5371c5c337fb62b949d32979ec12a3", func := "grafter/graftertop.TopEnds", spec := "topEnds", inPlace := ["slices.overlaps[grafter/api.Entry]"], unfollowed := true, recurses := true, apart := false, narrowed := true }
def TopEndsUptoSaid : Prop := topEndsUptoRow.holds Tryz.pinned (OpenSpec.upto topEndsSpec)

/-- 'graftertop.TopStore', WHERE WHAT IT READS IS OF BULK AT MOST 1048576: true; the input reads as it did. -/
def topStoreUptoRow : OpenClaim := { program := "ytaofdhgkgklppaagreat", sum := "93815158b4aae588e05b1ad600c1ce42dd5371c5c337fb62b949d32979ec12a3", func := "grafter/graftertop.TopStore", spec := "topStore", inPlace := ["slices.overlaps[grafter/api.Entry]"], unfollowed := true, recurses := true, apart := false, narrowed := true }
def TopStoreUptoSaid : Prop := topStoreUptoRow.holds Tryz.pinned (OpenSpec.upto topStoreSpec)

/-- 'graftertop.TopSweeps', WHERE WHAT IT READS IS OF BULK AT MOST 1048576: true; the input reads as it did. -/
def topSweepsUptoRow : OpenClaim := { program := "ytaofdhgkgklppaagreat", sum := "93815158b4aae588e05b1ad600c1ce42dd5371c5c337fb62b949d32979ec12a3", func := "grafter/graftertop.TopSweeps", spec := "topSweeps", inPlace := ["slices.overlaps[grafter/api.Entry]"], unfollowed := true, recurses := true, apart := false, narrowed := true }
def TopSweepsUptoSaid : Prop := topSweepsUptoRow.holds Tryz.pinned (OpenSpec.upto topSweepsSpec)

/-- 'graftertop.TopNet', WHERE WHAT IT READS IS OF BULK AT MOST 1048576: true; the input reads as it did. -/
def topNetUptoRow : OpenClaim := { program := "ytaofdhgkgklppaagreat", sum := "93815158b4aae588e05b1ad600c1ce42dd5371c5c337fb62b949d32979ec12a3", func := "grafter/graftertop.TopNet", spec := "topNet", inPlace := ["slices.overlaps[grafter/api.Entry]"], unfollowed := true, recurses := true, apart := false, narrowed := true }
def TopNetUptoSaid : Prop := topNetUptoRow.holds Tryz.pinned (OpenSpec.upto topNetSpec)

/-- 'graftertop.TopFrames', WHERE WHAT IT READS IS OF BULK AT MOST 1048576: true; the input reads as it did. -/
def topFramesUptoRow : OpenClaim := { program := "ytaofdhgkgklppaagreat", sum := "93815158b4aae588e05b1ad600c1ce42dd5371c5c337fb62b949d32979ec12a3", func := "grafter/graftertop.TopFrames", spec := "topFrames", inPlace := ["slices.overlaps[grafter/api.Entry]"], unfollowed := true, recurses := true, apart := false, narrowed := true }
def TopFramesUptoSaid : Prop := topFramesUptoRow.holds Tryz.pinned (OpenSpec.upto topFramesSpec)

end Rows
end Go.Proofs.YtaofdhgkgklppaaGreat
