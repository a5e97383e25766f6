/-
  No cell of these rows narrows 'for every input' (looked for: loops, veiled, ifaces, maps, wideKeys, modest, calm, conditions, laid).
  DERIVED. THE GIVEN ROWS OF THIS SEAT. 11 by the template 'for every input the law returns true; each argument reads behind the call as it read before'; 0 by the template 'total and deterministic' (their statements: YtncjbjlmgnjhiaaGreatTotals.lean).
  GIVEN WITH THE SEED: the statements are not yours to turn. If you find one false, say at which input.
  Laid BY PROGRAM, IN A SANDBOX (cutbox-rows.mjs): the forced cells as the released guide's own fill.sh prints them over the translation 51ce09acc60f356c… (all of the seat's roots in one cut). By AI agents, Wed Nov 11 2026. No macro, syntax, notation, axiom, sorry.
-/
import Derived.Test.YtncjbjlmgnjhiaaGreatChecked
import GoSem.Claim
import GoSem.ClaimJoined
import GoSem.ClaimMapViews
import Derived.JoinedTies
import Derived.KernelRfl
namespace Go.Proofs.YtncjbjlmgnjhiaaGreat
/- THE CELL 'sum', in the pinned program and in every row, IS THE sha256 OF THE DUMP (.gsa) THAT YtncjbjlmgnjhiaaGreatProg.lean LOADS. Nothing in Lean hashes anything: it is a label: what it is worth is what the hold of that sum in a sandbox is worth. -/
noncomputable def Tryz.pinned : Pinned := { name := "ytncjbjlmgnjhiaagreat", sum := "51ce09acc60f356cd7165331e1ae54f1047ca7c1b3d29e8166f7e4c32411a5e8", checked := Tryz.checked }
namespace Rows
def none {H : Type} : Left H := { results := [], args := [] }

/-- 'grafterlaw25.Runs': WHATEVER THE INPUT: true; the input reads as it did. -/
def runsSpec : ChangeSpec := { name := "runs", fn := fun _ => fun
  | [d1, d2, d3, d4] => { results := [.lit (.bool true)], args := [d1, d2, d3, d4] }
  | _ => none }
def runsRow : OpenClaim := { program := "ytncjbjlmgnjhiaagreat", sum := "51ce09acc60f356cd7165331e1ae54f1047ca7c1b3d29e8166f7e4c32411a5e8", func := "grafter/grafterlaw25.Runs", spec := "runs", inPlace := ["slices.overlaps[grafter/api.Entry]", "internal/abi.NoEscape"], unfollowed := true, recurses := true, apart := false }
def RunsSaid : Prop := runsRow.holds Tryz.pinned (OpenSpec.ofChange runsSpec)

/-- ITS FALSE NEIGHBOUR: 'it returns false'. Refute it at one input. -/
def runsWrong : ChangeSpec := { name := "runs", fn := fun _ => fun
  | [d1, d2, d3, d4] => { results := [.lit (.bool false)], args := [d1, d2, d3, d4] }
  | _ => none }
def RunsWrongFalsely : Prop := runsRow.holds Tryz.pinned (OpenSpec.ofChange runsWrong)

/-- 'grafterlaw25.RunForms': WHATEVER THE INPUT: true; the input reads as it did. -/
def runFormsSpec : ChangeSpec := { name := "runForms", fn := fun _ => fun
  | [d1, d2] => { results := [.lit (.bool true)], args := [d1, d2] }
  | _ => none }
def runFormsRow : OpenClaim := { program := "ytncjbjlmgnjhiaagreat", sum := "51ce09acc60f356cd7165331e1ae54f1047ca7c1b3d29e8166f7e4c32411a5e8", func := "grafter/grafterlaw25.RunForms", spec := "runForms", inPlace := ["slices.overlaps[grafter/api.Entry]", "internal/abi.NoEscape"], unfollowed := true, recurses := true, apart := false }
def RunFormsSaid : Prop := runFormsRow.holds Tryz.pinned (OpenSpec.ofChange runFormsSpec)

/-- ITS FALSE NEIGHBOUR: 'it returns false'. Refute it at one input. -/
def runFormsWrong : ChangeSpec := { name := "runForms", fn := fun _ => fun
  | [d1, d2] => { results := [.lit (.bool false)], args := [d1, d2] }
  | _ => none }
def RunFormsWrongFalsely : Prop := runFormsRow.holds Tryz.pinned (OpenSpec.ofChange runFormsWrong)

/-- 'grafterlaw25.RunSteps': WHATEVER THE INPUT: true; the input reads as it did. -/
def runStepsSpec : ChangeSpec := { name := "runSteps", fn := fun _ => fun
  | [d1, d2] => { results := [.lit (.bool true)], args := [d1, d2] }
  | _ => none }
def runStepsRow : OpenClaim := { program := "ytncjbjlmgnjhiaagreat", sum := "51ce09acc60f356cd7165331e1ae54f1047ca7c1b3d29e8166f7e4c32411a5e8", func := "grafter/grafterlaw25.RunSteps", spec := "runSteps", inPlace := ["slices.overlaps[grafter/api.Entry]", "internal/abi.NoEscape"], unfollowed := true, recurses := true, apart := false }
def RunStepsSaid : Prop := runStepsRow.holds Tryz.pinned (OpenSpec.ofChange runStepsSpec)

/-- ITS FALSE NEIGHBOUR: 'it returns false'. Refute it at one input. -/
def runStepsWrong : ChangeSpec := { name := "runSteps", fn := fun _ => fun
  | [d1, d2] => { results := [.lit (.bool false)], args := [d1, d2] }
  | _ => none }
def RunStepsWrongFalsely : Prop := runStepsRow.holds Tryz.pinned (OpenSpec.ofChange runStepsWrong)

/-- 'grafterlaw25.RunJournal': WHATEVER THE INPUT: true; the input reads as it did. -/
def runJournalSpec : ChangeSpec := { name := "runJournal", fn := fun _ => fun
  | [d] => { results := [.lit (.bool true)], args := [d] }
  | _ => none }
def runJournalRow : OpenClaim := { program := "ytncjbjlmgnjhiaagreat", sum := "51ce09acc60f356cd7165331e1ae54f1047ca7c1b3d29e8166f7e4c32411a5e8", func := "grafter/grafterlaw25.RunJournal", spec := "runJournal", inPlace := ["slices.overlaps[grafter/api.Entry]", "internal/abi.NoEscape"], unfollowed := true, recurses := true, apart := false }
def RunJournalSaid : Prop := runJournalRow.holds Tryz.pinned (OpenSpec.ofChange runJournalSpec)

/-- ITS FALSE NEIGHBOUR: 'it returns false'. Refute it at one input. -/
def runJournalWrong : ChangeSpec := { name := "runJournal", fn := fun _ => fun
  | [d] => { results := [.lit (.bool false)], args := [d] }
  | _ => none }
def RunJournalWrongFalsely : Prop := runJournalRow.holds Tryz.pinned (OpenSpec.ofChange runJournalWrong)

/-- 'grafterlaw25.RunOdd': WHATEVER THE INPUT: true; the input reads as it did. -/
def runOddSpec : ChangeSpec := { name := "runOdd", fn := fun _ => fun
  | [d1, d2, d3] => { results := [.lit (.bool true)], args := [d1, d2, d3] }
  | _ => none }
def runOddRow : OpenClaim := { program := "ytncjbjlmgnjhiaagreat", sum := "51ce09acc60f356cd7165331e1ae54f1047ca7c1b3d29e8166f7e4c32411a5e8", func := "grafter/grafterlaw25.RunOdd", spec := "runOdd", inPlace := ["slices.overlaps[grafter/api.Entry]", "internal/abi.NoEscape"], unfollowed := true, recurses := true, apart := false }
def RunOddSaid : Prop := runOddRow.holds Tryz.pinned (OpenSpec.ofChange runOddSpec)

/-- ITS FALSE NEIGHBOUR: 'it returns false'. Refute it at one input. -/
def runOddWrong : ChangeSpec := { name := "runOdd", fn := fun _ => fun
  | [d1, d2, d3] => { results := [.lit (.bool false)], args := [d1, d2, d3] }
  | _ => none }
def RunOddWrongFalsely : Prop := runOddRow.holds Tryz.pinned (OpenSpec.ofChange runOddWrong)

/-- 'grafterlaw25.RunSwept': WHATEVER THE INPUT: true; the input reads as it did. -/
def runSweptSpec : ChangeSpec := { name := "runSwept", fn := fun _ => fun
  | [d] => { results := [.lit (.bool true)], args := [d] }
  | _ => none }
def runSweptRow : OpenClaim := { program := "ytncjbjlmgnjhiaagreat", sum := "51ce09acc60f356cd7165331e1ae54f1047ca7c1b3d29e8166f7e4c32411a5e8", func := "grafter/grafterlaw25.RunSwept", spec := "runSwept", inPlace := ["slices.overlaps[grafter/api.Entry]", "internal/abi.NoEscape"], unfollowed := true, recurses := true, apart := false }
def RunSweptSaid : Prop := runSweptRow.holds Tryz.pinned (OpenSpec.ofChange runSweptSpec)

/-- ITS FALSE NEIGHBOUR: 'it returns false'. Refute it at one input. -/
def runSweptWrong : ChangeSpec := { name := "runSwept", fn := fun _ => fun
  | [d] => { results := [.lit (.bool false)], args := [d] }
  | _ => none }
def RunSweptWrongFalsely : Prop := runSweptRow.holds Tryz.pinned (OpenSpec.ofChange runSweptWrong)

/-- 'grafterlaw25.RunPrefix': WHATEVER THE INPUT: true; the input reads as it did. -/
def runPrefixSpec : ChangeSpec := { name := "runPrefix", fn := fun _ => fun
  | [d1, d2, d3] => { results := [.lit (.bool true)], args := [d1, d2, d3] }
  | _ => none }
def runPrefixRow : OpenClaim := { program := "ytncjbjlmgnjhiaagreat", sum := "51ce09acc60f356cd7165331e1ae54f1047ca7c1b3d29e8166f7e4c32411a5e8", func := "grafter/grafterlaw25.RunPrefix", spec := "runPrefix", inPlace := ["slices.overlaps[grafter/api.Entry]", "internal/abi.NoEscape"], unfollowed := true, recurses := true, apart := false }
def RunPrefixSaid : Prop := runPrefixRow.holds Tryz.pinned (OpenSpec.ofChange runPrefixSpec)

/-- ITS FALSE NEIGHBOUR: 'it returns false'. Refute it at one input. -/
def runPrefixWrong : ChangeSpec := { name := "runPrefix", fn := fun _ => fun
  | [d1, d2, d3] => { results := [.lit (.bool false)], args := [d1, d2, d3] }
  | _ => none }
def RunPrefixWrongFalsely : Prop := runPrefixRow.holds Tryz.pinned (OpenSpec.ofChange runPrefixWrong)

/-- 'grafterlaw25.RunIdle': WHATEVER THE INPUT: true; the input reads as it did. -/
def runIdleSpec : ChangeSpec := { name := "runIdle", fn := fun _ => fun
  | [d1, d2] => { results := [.lit (.bool true)], args := [d1, d2] }
  | _ => none }
def runIdleRow : OpenClaim := { program := "ytncjbjlmgnjhiaagreat", sum := "51ce09acc60f356cd7165331e1ae54f1047ca7c1b3d29e8166f7e4c32411a5e8", func := "grafter/grafterlaw25.RunIdle", spec := "runIdle", inPlace := ["slices.overlaps[grafter/api.Entry]", "internal/abi.NoEscape"], unfollowed := true, recurses := true, apart := false }
def RunIdleSaid : Prop := runIdleRow.holds Tryz.pinned (OpenSpec.ofChange runIdleSpec)

/-- ITS FALSE NEIGHBOUR: 'it returns false'. Refute it at one input. -/
def runIdleWrong : ChangeSpec := { name := "runIdle", fn := fun _ => fun
  | [d1, d2] => { results := [.lit (.bool false)], args := [d1, d2] }
  | _ => none }
def RunIdleWrongFalsely : Prop := runIdleRow.holds Tryz.pinned (OpenSpec.ofChange runIdleWrong)

/-- 'grafterlaw25.RunDone': WHATEVER THE INPUT: true; the input reads as it did. -/
def runDoneSpec : ChangeSpec := { name := "runDone", fn := fun _ => fun
  | [d] => { results := [.lit (.bool true)], args := [d] }
  | _ => none }
def runDoneRow : OpenClaim := { program := "ytncjbjlmgnjhiaagreat", sum := "51ce09acc60f356cd7165331e1ae54f1047ca7c1b3d29e8166f7e4c32411a5e8", func := "grafter/grafterlaw25.RunDone", spec := "runDone", inPlace := ["slices.overlaps[grafter/api.Entry]", "internal/abi.NoEscape"], unfollowed := true, recurses := true, apart := false }
def RunDoneSaid : Prop := runDoneRow.holds Tryz.pinned (OpenSpec.ofChange runDoneSpec)

/-- ITS FALSE NEIGHBOUR: 'it returns false'. Refute it at one input. -/
def runDoneWrong : ChangeSpec := { name := "runDone", fn := fun _ => fun
  | [d] => { results := [.lit (.bool false)], args := [d] }
  | _ => none }
def RunDoneWrongFalsely : Prop := runDoneRow.holds Tryz.pinned (OpenSpec.ofChange runDoneWrong)

/-- 'graftertop.TopCut': WHATEVER THE INPUT: true; the input reads as it did. -/
def topCutSpec : ChangeSpec := { name := "topCut", fn := fun _ => fun
  | [d1, d2, d3] => { results := [.lit (.bool true)], args := [d1, d2, d3] }
  | _ => none }
def topCutRow : OpenClaim := { program := "ytncjbjlmgnjhiaagreat", sum := "51ce09acc60f356cd7165331e1ae54f1047ca7c1b3d29e8166f7e4c32411a5e8", func := "grafter/graftertop.TopCut", spec := "topCut", inPlace := ["slices.overlaps[grafter/api.Entry]", "internal/abi.NoEscape"], unfollowed := true, recurses := true, apart := false }
def TopCutSaid : Prop := topCutRow.holds Tryz.pinned (OpenSpec.ofChange topCutSpec)

/-- ITS FALSE NEIGHBOUR: 'it returns false'. Refute it at one input. -/
def topCutWrong : ChangeSpec := { name := "topCut", fn := fun _ => fun
  | [d1, d2, d3] => { results := [.lit (.bool false)], args := [d1, d2, d3] }
  | _ => none }
def TopCutWrongFalsely : Prop := topCutRow.holds Tryz.pinned (OpenSpec.ofChange topCutWrong)

/-- 'graftertop.TopTwice': WHATEVER THE INPUT: true; the input reads as it did. -/
def topTwiceSpec : ChangeSpec := { name := "topTwice", fn := fun _ => fun
  | [d1, d2, d3, d4] => { results := [.lit (.bool true)], args := [d1, d2, d3, d4] }
  | _ => none }
def topTwiceRow : OpenClaim := { program := "ytncjbjlmgnjhiaagreat", sum := "51ce09acc60f356cd7165331e1ae54f1047ca7c1b3d29e8166f7e4c32411a5e8", func := "grafter/graftertop.TopTwice", spec := "topTwice", inPlace := ["slices.overlaps[grafter/api.Entry]", "internal/abi.NoEscape"], unfollowed := true, recurses := true, apart := false }
def TopTwiceSaid : Prop := topTwiceRow.holds Tryz.pinned (OpenSpec.ofChange topTwiceSpec)

/-- ITS FALSE NEIGHBOUR: 'it returns false'. Refute it at one input. -/
def topTwiceWrong : ChangeSpec := { name := "topTwice", fn := fun _ => fun
  | [d1, d2, d3, d4] => { results := [.lit (.bool false)], args := [d1, d2, d3, d4] }
  | _ => none }
def TopTwiceWrongFalsely : Prop := topTwiceRow.holds Tryz.pinned (OpenSpec.ofChange topTwiceWrong)

/- THE SECOND FORM. 'bulk': how many values and letters a reading holds, each counted each time it is reached (what is shared counts as often as it is met; a slice's spare places count too). A statement '..UptoSaid' is the law's where the arguments, and the package variables that the reading takes, are together of bulk at most 1048576: NARROWER than '..Said'. Prove '..Said' where nothing that the law and all that it calls make is longer than what came in: it says more and counts as full. Else prove '..UptoSaid'. A law counts once. -/
mutual
def uptoBulk {H : Type} : DataW H → Nat
  | .lit (.string bytes) => bytes.length + 1
  | .lit _ => 1
  | .nil => 1
  | .ptr d => uptoBulk d + 1
  | .slice elems spare => uptoBulkAll elems + uptoBulkAll spare + 1
  | .agg parts => uptoBulkAll parts + 1
  | .iface _ d => uptoBulk d + 1
  | .map entries => uptoBulkEntries entries + 1
  | .held _ => 1
def uptoBulkAll {H : Type} : List (DataW H) → Nat
  | [] => 0
  | d :: r => uptoBulk d + uptoBulkAll r
def uptoBulkEntries {H : Type} : List (Lit × DataW H) → Nat
  | [] => 0
  | x :: r => uptoBulkEntry x + uptoBulkEntries r
def uptoBulkEntry {H : Type} : Lit × DataW H → Nat
  | (.string bytes, d) => bytes.length + uptoBulk d + 1
  | (_, d) => uptoBulk d + 1
 end
def uptoSmall : (H : Type) → List (DataW H) → Bool := fun _ ds => decide (uptoBulkAll ds ≤ 1048576)
def OpenSpec.upto (s : _root_.Go.ChangeSpec) : _root_.Go.OpenSpec := { _root_.Go.OpenSpec.ofChange s with cond := some uptoSmall }

/-- 'grafterlaw25.Runs', WHERE WHAT IT READS IS OF BULK AT MOST 1048576: true; the input reads as it did. -/
def runsUptoRow : OpenClaim := { program := "ytncjbjlmgnjhiaagreat", sum := "51ce09acc60f356cd7165331e1ae54f1047ca7c1b3d29e8166f7e4c32411a5e8", func := "grafter/grafterlaw25.Runs", spec := "runs", inPlace := ["slices.overlaps[grafter/api.Entry]", "internal/abi.NoEscape"], unfollowed := true, recurses := true, apart := false, narrowed := true }
def RunsUptoSaid : Prop := runsUptoRow.holds Tryz.pinned (OpenSpec.upto runsSpec)

/-- 'grafterlaw25.RunForms', WHERE WHAT IT READS IS OF BULK AT MOST 1048576: true; the input reads as it did. -/
def runFormsUptoRow : OpenClaim := { program := "ytncjbjlmgnjhiaagreat", sum := "51ce09acc60f356cd7165331e1ae54f1047ca7c1b3d29e8166f7e4c32411a5e8", func := "grafter/grafterlaw25.RunForms", spec := "runForms", inPlace := ["slices.overlaps[grafter/api.Entry]", "internal/abi.NoEscape"], unfollowed := true, recurses := true, apart := false, narrowed := true }
def RunFormsUptoSaid : Prop := runFormsUptoRow.holds Tryz.pinned (OpenSpec.upto runFormsSpec)

/-- 'grafterlaw25.RunSteps', WHERE WHAT IT READS IS OF BULK AT MOST 1048576: true; the input reads as it did. -/
def runStepsUptoRow : OpenClaim := { program := "ytncjbjlmgnjhiaagreat", sum := "51ce09acc60f356cd7165331e1ae54f1047ca7c1b3d29e8166f7e4c32411a5e8", func := "grafter/grafterlaw25.RunSteps", spec := "runSteps", inPlace := ["slices.overlaps[grafter/api.Entry]", "internal/abi.NoEscape"], unfollowed := true, recurses := true, apart := false, narrowed := true }
def RunStepsUptoSaid : Prop := runStepsUptoRow.holds Tryz.pinned (OpenSpec.upto runStepsSpec)

/-- 'grafterlaw25.RunJournal', WHERE WHAT IT READS IS OF BULK AT MOST 1048576: true; the input reads as it did. -/
def runJournalUptoRow : OpenClaim := { program := "ytncjbjlmgnjhiaagreat", sum := "51ce09acc60f356cd7165331e1ae54f1047ca7c1b3d29e8166f7e4c32411a5e8", func := "grafter/grafterlaw25.RunJournal", spec := "runJournal", inPlace := ["slices.overlaps[grafter/api.Entry]", "internal/abi.NoEscape"], unfollowed := true, recurses := true, apart := false, narrowed := true }
def RunJournalUptoSaid : Prop := runJournalUptoRow.holds Tryz.pinned (OpenSpec.upto runJournalSpec)

/-- 'grafterlaw25.RunOdd', WHERE WHAT IT READS IS OF BULK AT MOST 1048576: true; the input reads as it did. -/
def runOddUptoRow : OpenClaim := { program := "ytncjbjlmgnjhiaagreat", sum := "51ce09acc60f356cd7165331e1ae54f1047ca7c1b3d29e8166f7e4c32411a5e8", func := "grafter/grafterlaw25.RunOdd", spec := "runOdd", inPlace := ["slices.overlaps[grafter/api.Entry]", "internal/abi.NoEscape"], unfollowed := true, recurses := true, apart := false, narrowed := true }
def RunOddUptoSaid : Prop := runOddUptoRow.holds Tryz.pinned (OpenSpec.upto runOddSpec)

/-- 'grafterlaw25.RunSwept', WHERE WHAT IT READS IS OF BULK AT MOST 1048576: true; the input reads as it did. -/
def runSweptUptoRow : OpenClaim := { program := "ytncjbjlmgnjhiaagreat", sum := "51ce09acc60f356cd7165331e1ae54f1047ca7c1b3d29e8166f7e4c32411a5e8", func := "grafter/grafterlaw25.RunSwept", spec := "runSwept", inPlace := ["slices.overlaps[grafter/api.Entry]", "internal/abi.NoEscape"], unfollowed := true, recurses := true, apart := false, narrowed := true }
def RunSweptUptoSaid : Prop := runSweptUptoRow.holds Tryz.pinned (OpenSpec.upto runSweptSpec)

/-- 'grafterlaw25.RunPrefix', WHERE WHAT IT READS IS OF BULK AT MOST 1048576: true; the input reads as it did. -/
def runPrefixUptoRow : OpenClaim := { program := "ytncjbjlmgnjhiaagreat", sum := "51ce09acc60f356cd7165331e1ae54f1047ca7c1b3d29e8166f7e4c32411a5e8", func := "grafter/grafterlaw25.RunPrefix", spec := "runPrefix", inPlace := ["slices.overlaps[grafter/api.Entry]", "internal/abi.NoEscape"], unfollowed := true, recurses := true, apart := false, narrowed := true }
def RunPrefixUptoSaid : Prop := runPrefixUptoRow.holds Tryz.pinned (OpenSpec.upto runPrefixSpec)

/-- 'grafterlaw25.RunIdle', WHERE WHAT IT READS IS OF BULK AT MOST 1048576: true; the input reads as it did. -/
def runIdleUptoRow : OpenClaim := { program := "ytncjbjlmgnjhiaagreat", sum := "51ce09acc60f356cd7165331e1ae54f1047ca7c1b3d29e8166f7e4c32411a5e8", func := "grafter/grafterlaw25.RunIdle", spec := "runIdle", inPlace := ["slices.overlaps[grafter/api.Entry]", "internal/abi.NoEscape"], unfollowed := true, recurses := true, apart := false, narrowed := true }
def RunIdleUptoSaid : Prop := runIdleUptoRow.holds Tryz.pinned (OpenSpec.upto runIdleSpec)

/-- 'grafterlaw25.RunDone', WHERE WHAT IT READS IS OF BULK AT MOST 1048576: true; the input reads as it did. -/
def runDoneUptoRow : OpenClaim := { program := "ytncjbjlmgnjhiaagreat", sum := "51ce09acc60f356cd7165331e1ae54f1047ca7c1b3d29e8166f7e4c32411a5e8", func := "grafter/grafterlaw25.RunDone", spec := "runDone", inPlace := ["slices.overlaps[grafter/api.Entry]", "internal/abi.NoEscape"], unfollowed := true, recurses := true, apart := false, narrowed := true }
def RunDoneUptoSaid : Prop := runDoneUptoRow.holds Tryz.pinned (OpenSpec.upto runDoneSpec)

/-- 'graftertop.TopCut', WHERE WHAT IT READS IS OF BULK AT MOST 1048576: true; the input reads as it did. -/
def topCutUptoRow : OpenClaim := { program := "ytncjbjlmgnjhiaagreat", sum := "51ce09acc60f356cd7165331e1ae54f1047ca7c1b3d29e8166f7e4c32411a5e8", func := "grafter/graftertop.TopCut", spec := "topCut", inPlace := ["slices.overlaps[grafter/api.Entry]", "internal/abi.NoEscape"], unfollowed := true, recurses := true, apart := false, narrowed := true }
def TopCutUptoSaid : Prop := topCutUptoRow.holds Tryz.pinned (OpenSpec.upto topCutSpec)

/-- 'graftertop.TopTwice', WHERE WHAT IT READS IS OF BULK AT MOST 1048576: true; the input reads as it did. -/
def topTwiceUptoRow : OpenClaim := { program := "ytncjbjlmgnjhiaagreat", sum := "51ce09acc60f356cd7165331e1ae54f1047ca7c1b3d29e8166f7e4c32411a5e8", func := "grafter/graftertop.TopTwice", spec := "topTwice", inPlace := ["slices.overlaps[grafter/api.Entry]", "internal/abi.NoEscape"], unfollowed := true, recurses := true, apart := false, narrowed := true }
def TopTwiceUptoSaid : Prop := topTwiceUptoRow.holds Tryz.pinned (OpenSpec.upto topTwiceSpec)

end Rows
end Go.Proofs.YtncjbjlmgnjhiaaGreat
