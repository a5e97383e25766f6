/-
  No cell of these rows narrows 'for every input' (looked for: loops, veiled, ifaces, maps, wideKeys, modest, calm, conditions, laid).
  DERIVED. THE GIVEN ROWS OF THIS SEAT. 10 by the template 'for every input the law returns true; each argument reads behind the call as it read before'; 0 by the template 'total and deterministic' (their statements: YtjageapgbpdlhaaTotals.lean).
  GIVEN WITH THE SEED: the statements are not yours to turn. If you find one false, say at which input.
  Laid BY PROGRAM, IN A SANDBOX (cutbox-rows.mjs): the forced cells as the released guide's own fill.sh prints them over the translation 8731037c1e4f72c9… (all of the seat's roots in one cut). By AI agents, Wed Nov 11 2026. No macro, syntax, notation, axiom, sorry.
-/
import Derived.Test.YtjageapgbpdlhaaChecked
import GoSem.Claim
import GoSem.ClaimJoined
import GoSem.ClaimMapViews
import Derived.JoinedTies
import Derived.KernelRfl
namespace Go.Proofs.Ytjageapgbpdlhaa
/- THE CELL 'sum', in the pinned program and in every row, IS THE sha256 OF THE DUMP (.gsa) THAT YtjageapgbpdlhaaProg.lean LOADS. Nothing in Lean hashes anything: it is a label: what it is worth is what the hold of that sum in a sandbox is worth. -/
noncomputable def Try.pinned : Pinned := { name := "ytjageapgbpdlhaa", sum := "8731037c1e4f72c9f88b1e264f73dbd9f6c4a9d27e5f97894ff89424649399ac", checked := Try.checked }
namespace Rows
def none {H : Type} : Left H := { results := [], args := [] }

/-- 'grafterlaw7.Backs': WHATEVER THE INPUT: true; the input reads as it did. -/
def backsSpec : ChangeSpec := { name := "backs", fn := fun _ => fun
  | [d1, d2, d3] => { results := [.lit (.bool true)], args := [d1, d2, d3] }
  | _ => none }
def backsRow : OpenClaim := { program := "ytjageapgbpdlhaa", sum := "8731037c1e4f72c9f88b1e264f73dbd9f6c4a9d27e5f97894ff89424649399ac", func := "grafter/grafterlaw7.Backs", spec := "backs", unfollowed := true, recurses := true, apart := false }
def BacksSaid : Prop := backsRow.holds Try.pinned (OpenSpec.ofChange backsSpec)

/-- ITS FALSE NEIGHBOUR: 'it returns false'. Refute it at one input. -/
def backsWrong : ChangeSpec := { name := "backs", fn := fun _ => fun
  | [d1, d2, d3] => { results := [.lit (.bool false)], args := [d1, d2, d3] }
  | _ => none }
def BacksWrongFalsely : Prop := backsRow.holds Try.pinned (OpenSpec.ofChange backsWrong)

/-- 'grafterlaw7.BackRight': WHATEVER THE INPUT: true; the input reads as it did. -/
def backRightSpec : ChangeSpec := { name := "backRight", fn := fun _ => fun
  | [d1, d2, d3] => { results := [.lit (.bool true)], args := [d1, d2, d3] }
  | _ => none }
def backRightRow : OpenClaim := { program := "ytjageapgbpdlhaa", sum := "8731037c1e4f72c9f88b1e264f73dbd9f6c4a9d27e5f97894ff89424649399ac", func := "grafter/grafterlaw7.BackRight", spec := "backRight", unfollowed := true, recurses := true, apart := false }
def BackRightSaid : Prop := backRightRow.holds Try.pinned (OpenSpec.ofChange backRightSpec)

/-- ITS FALSE NEIGHBOUR: 'it returns false'. Refute it at one input. -/
def backRightWrong : ChangeSpec := { name := "backRight", fn := fun _ => fun
  | [d1, d2, d3] => { results := [.lit (.bool false)], args := [d1, d2, d3] }
  | _ => none }
def BackRightWrongFalsely : Prop := backRightRow.holds Try.pinned (OpenSpec.ofChange backRightWrong)

/-- 'grafterlaw7.BackForms': WHATEVER THE INPUT: true; the input reads as it did. -/
def backFormsSpec : ChangeSpec := { name := "backForms", fn := fun _ => fun
  | [d1, d2] => { results := [.lit (.bool true)], args := [d1, d2] }
  | _ => none }
def backFormsRow : OpenClaim := { program := "ytjageapgbpdlhaa", sum := "8731037c1e4f72c9f88b1e264f73dbd9f6c4a9d27e5f97894ff89424649399ac", func := "grafter/grafterlaw7.BackForms", spec := "backForms", unfollowed := true, recurses := true, apart := false }
def BackFormsSaid : Prop := backFormsRow.holds Try.pinned (OpenSpec.ofChange backFormsSpec)

/-- ITS FALSE NEIGHBOUR: 'it returns false'. Refute it at one input. -/
def backFormsWrong : ChangeSpec := { name := "backForms", fn := fun _ => fun
  | [d1, d2] => { results := [.lit (.bool false)], args := [d1, d2] }
  | _ => none }
def BackFormsWrongFalsely : Prop := backFormsRow.holds Try.pinned (OpenSpec.ofChange backFormsWrong)

/-- 'grafterlaw7.BackBias': WHATEVER THE INPUT: true; the input reads as it did. -/
def backBiasSpec : ChangeSpec := { name := "backBias", fn := fun _ => fun
  | [d1, d2, d3] => { results := [.lit (.bool true)], args := [d1, d2, d3] }
  | _ => none }
def backBiasRow : OpenClaim := { program := "ytjageapgbpdlhaa", sum := "8731037c1e4f72c9f88b1e264f73dbd9f6c4a9d27e5f97894ff89424649399ac", func := "grafter/grafterlaw7.BackBias", spec := "backBias", unfollowed := true, recurses := true, apart := false }
def BackBiasSaid : Prop := backBiasRow.holds Try.pinned (OpenSpec.ofChange backBiasSpec)

/-- ITS FALSE NEIGHBOUR: 'it returns false'. Refute it at one input. -/
def backBiasWrong : ChangeSpec := { name := "backBias", fn := fun _ => fun
  | [d1, d2, d3] => { results := [.lit (.bool false)], args := [d1, d2, d3] }
  | _ => none }
def BackBiasWrongFalsely : Prop := backBiasRow.holds Try.pinned (OpenSpec.ofChange backBiasWrong)

/-- 'grafterlaw7.BackZero': WHATEVER THE INPUT: true; the input reads as it did. -/
def backZeroSpec : ChangeSpec := { name := "backZero", fn := fun _ => fun
  | [d1, d2, d3] => { results := [.lit (.bool true)], args := [d1, d2, d3] }
  | _ => none }
def backZeroRow : OpenClaim := { program := "ytjageapgbpdlhaa", sum := "8731037c1e4f72c9f88b1e264f73dbd9f6c4a9d27e5f97894ff89424649399ac", func := "grafter/grafterlaw7.BackZero", spec := "backZero", unfollowed := true, recurses := true, apart := false }
def BackZeroSaid : Prop := backZeroRow.holds Try.pinned (OpenSpec.ofChange backZeroSpec)

/-- ITS FALSE NEIGHBOUR: 'it returns false'. Refute it at one input. -/
def backZeroWrong : ChangeSpec := { name := "backZero", fn := fun _ => fun
  | [d1, d2, d3] => { results := [.lit (.bool false)], args := [d1, d2, d3] }
  | _ => none }
def BackZeroWrongFalsely : Prop := backZeroRow.holds Try.pinned (OpenSpec.ofChange backZeroWrong)

/-- 'grafterlaw21.Trains': WHATEVER THE INPUT: true; the input reads as it did. -/
def trainsSpec : ChangeSpec := { name := "trains", fn := fun _ => fun
  | [d1, d2, d3] => { results := [.lit (.bool true)], args := [d1, d2, d3] }
  | _ => none }
def trainsRow : OpenClaim := { program := "ytjageapgbpdlhaa", sum := "8731037c1e4f72c9f88b1e264f73dbd9f6c4a9d27e5f97894ff89424649399ac", func := "grafter/grafterlaw21.Trains", spec := "trains", unfollowed := true, recurses := true, apart := false }
def TrainsSaid : Prop := trainsRow.holds Try.pinned (OpenSpec.ofChange trainsSpec)

/-- ITS FALSE NEIGHBOUR: 'it returns false'. Refute it at one input. -/
def trainsWrong : ChangeSpec := { name := "trains", fn := fun _ => fun
  | [d1, d2, d3] => { results := [.lit (.bool false)], args := [d1, d2, d3] }
  | _ => none }
def TrainsWrongFalsely : Prop := trainsRow.holds Try.pinned (OpenSpec.ofChange trainsWrong)

/-- 'grafterlaw21.TrainForms': WHATEVER THE INPUT: true; the input reads as it did. -/
def trainFormsSpec : ChangeSpec := { name := "trainForms", fn := fun _ => fun
  | [d1, d2] => { results := [.lit (.bool true)], args := [d1, d2] }
  | _ => none }
def trainFormsRow : OpenClaim := { program := "ytjageapgbpdlhaa", sum := "8731037c1e4f72c9f88b1e264f73dbd9f6c4a9d27e5f97894ff89424649399ac", func := "grafter/grafterlaw21.TrainForms", spec := "trainForms", unfollowed := true, recurses := true, apart := false }
def TrainFormsSaid : Prop := trainFormsRow.holds Try.pinned (OpenSpec.ofChange trainFormsSpec)

/-- ITS FALSE NEIGHBOUR: 'it returns false'. Refute it at one input. -/
def trainFormsWrong : ChangeSpec := { name := "trainForms", fn := fun _ => fun
  | [d1, d2] => { results := [.lit (.bool false)], args := [d1, d2] }
  | _ => none }
def TrainFormsWrongFalsely : Prop := trainFormsRow.holds Try.pinned (OpenSpec.ofChange trainFormsWrong)

/-- 'grafterlaw21.TrainParts': WHATEVER THE INPUT: true; the input reads as it did. -/
def trainPartsSpec : ChangeSpec := { name := "trainParts", fn := fun _ => fun
  | [d1, d2, d3] => { results := [.lit (.bool true)], args := [d1, d2, d3] }
  | _ => none }
def trainPartsRow : OpenClaim := { program := "ytjageapgbpdlhaa", sum := "8731037c1e4f72c9f88b1e264f73dbd9f6c4a9d27e5f97894ff89424649399ac", func := "grafter/grafterlaw21.TrainParts", spec := "trainParts", unfollowed := true, recurses := true, apart := false }
def TrainPartsSaid : Prop := trainPartsRow.holds Try.pinned (OpenSpec.ofChange trainPartsSpec)

/-- ITS FALSE NEIGHBOUR: 'it returns false'. Refute it at one input. -/
def trainPartsWrong : ChangeSpec := { name := "trainParts", fn := fun _ => fun
  | [d1, d2, d3] => { results := [.lit (.bool false)], args := [d1, d2, d3] }
  | _ => none }
def TrainPartsWrongFalsely : Prop := trainPartsRow.holds Try.pinned (OpenSpec.ofChange trainPartsWrong)

/-- 'grafterlaw21.TrainOwn': WHATEVER THE INPUT: true; the input reads as it did. -/
def trainOwnSpec : ChangeSpec := { name := "trainOwn", fn := fun _ => fun
  | [d1, d2, d3, d4] => { results := [.lit (.bool true)], args := [d1, d2, d3, d4] }
  | _ => none }
def trainOwnRow : OpenClaim := { program := "ytjageapgbpdlhaa", sum := "8731037c1e4f72c9f88b1e264f73dbd9f6c4a9d27e5f97894ff89424649399ac", func := "grafter/grafterlaw21.TrainOwn", spec := "trainOwn", unfollowed := true, recurses := true, apart := false }
def TrainOwnSaid : Prop := trainOwnRow.holds Try.pinned (OpenSpec.ofChange trainOwnSpec)

/-- ITS FALSE NEIGHBOUR: 'it returns false'. Refute it at one input. -/
def trainOwnWrong : ChangeSpec := { name := "trainOwn", fn := fun _ => fun
  | [d1, d2, d3, d4] => { results := [.lit (.bool false)], args := [d1, d2, d3, d4] }
  | _ => none }
def TrainOwnWrongFalsely : Prop := trainOwnRow.holds Try.pinned (OpenSpec.ofChange trainOwnWrong)

/-- 'grafterlaw21.TrainRow': WHATEVER THE INPUT: true; the input reads as it did. -/
def trainRowSpec : ChangeSpec := { name := "trainRow", fn := fun _ => fun
  | [d1, d2] => { results := [.lit (.bool true)], args := [d1, d2] }
  | _ => none }
def trainRowRow : OpenClaim := { program := "ytjageapgbpdlhaa", sum := "8731037c1e4f72c9f88b1e264f73dbd9f6c4a9d27e5f97894ff89424649399ac", func := "grafter/grafterlaw21.TrainRow", spec := "trainRow", unfollowed := true, recurses := true, apart := false }
def TrainRowSaid : Prop := trainRowRow.holds Try.pinned (OpenSpec.ofChange trainRowSpec)

/-- ITS FALSE NEIGHBOUR: 'it returns false'. Refute it at one input. -/
def trainRowWrong : ChangeSpec := { name := "trainRow", fn := fun _ => fun
  | [d1, d2] => { results := [.lit (.bool false)], args := [d1, d2] }
  | _ => none }
def TrainRowWrongFalsely : Prop := trainRowRow.holds Try.pinned (OpenSpec.ofChange trainRowWrong)

/- THE SECOND FORM. 'bulk': how many values and letters a reading holds, each counted each time it is reached (what is shared counts as often as it is met; a slice's spare places count too). A statement '..UptoSaid' is the law's where the arguments, and the package variables that the reading takes, are together of bulk at most 1048576: NARROWER than '..Said'. Prove '..Said' where nothing that the law and all that it calls make is longer than what came in: it says more and counts as full. Else prove '..UptoSaid'. A law counts once. -/
mutual
def uptoBulk {H : Type} : DataW H → Nat
  | .lit (.string bytes) => bytes.length + 1
  | .lit _ => 1
  | .nil => 1
  | .ptr d => uptoBulk d + 1
  | .slice elems spare => uptoBulkAll elems + uptoBulkAll spare + 1
  | .agg parts => uptoBulkAll parts + 1
  | .iface _ d => uptoBulk d + 1
  | .map entries => uptoBulkEntries entries + 1
  | .held _ => 1
def uptoBulkAll {H : Type} : List (DataW H) → Nat
  | [] => 0
  | d :: r => uptoBulk d + uptoBulkAll r
def uptoBulkEntries {H : Type} : List (Lit × DataW H) → Nat
  | [] => 0
  | x :: r => uptoBulkEntry x + uptoBulkEntries r
def uptoBulkEntry {H : Type} : Lit × DataW H → Nat
  | (.string bytes, d) => bytes.length + uptoBulk d + 1
  | (_, d) => uptoBulk d + 1
 end
def uptoSmall : (H : Type) → List (DataW H) → Bool := fun _ ds => decide (uptoBulkAll ds ≤ 1048576)
def OpenSpec.upto (s : _root_.Go.ChangeSpec) : _root_.Go.OpenSpec := { _root_.Go.OpenSpec.ofChange s with cond := some uptoSmall }

/-- 'grafterlaw7.Backs', WHERE WHAT IT READS IS OF BULK AT MOST 1048576: true; the input reads as it did. -/
def backsUptoRow : OpenClaim := { program := "ytjageapgbpdlhaa", sum := "8731037c1e4f72c9f88b1e264f73dbd9f6c4a9d27e5f97894ff89424649399ac", func := "grafter/grafterlaw7.Backs", spec := "backs", unfollowed := true, recurses := true, apart := false, narrowed := true }
def BacksUptoSaid : Prop := backsUptoRow.holds Try.pinned (OpenSpec.upto backsSpec)

/-- 'grafterlaw7.BackRight', WHERE WHAT IT READS IS OF BULK AT MOST 1048576: true; the input reads as it did. -/
def backRightUptoRow : OpenClaim := { program := "ytjageapgbpdlhaa", sum := "8731037c1e4f72c9f88b1e264f73dbd9f6c4a9d27e5f97894ff89424649399ac", func := "grafter/grafterlaw7.BackRight", spec := "backRight", unfollowed := true, recurses := true, apart := false, narrowed := true }
def BackRightUptoSaid : Prop := backRightUptoRow.holds Try.pinned (OpenSpec.upto backRightSpec)

/-- 'grafterlaw7.BackForms', WHERE WHAT IT READS IS OF BULK AT MOST 1048576: true; the input reads as it did. -/
def backFormsUptoRow : OpenClaim := { program := "ytjageapgbpdlhaa", sum := "8731037c1e4f72c9f88b1e264f73dbd9f6c4a9d27e5f97894ff89424649399ac", func := "grafter/grafterlaw7.BackForms", spec := "backForms", unfollowed := true, recurses := true, apart := false, narrowed := true }
def BackFormsUptoSaid : Prop := backFormsUptoRow.holds Try.pinned (OpenSpec.upto backFormsSpec)

/-- 'grafterlaw7.BackBias', WHERE WHAT IT READS IS OF BULK AT MOST 1048576: true; the input reads as it did. -/
def backBiasUptoRow : OpenClaim := { program := "ytjageapgbpdlhaa", sum := "8731037c1e4f72c9f88b1e264f73dbd9f6c4a9d27e5f97894ff89424649399ac", func := "grafter/grafterlaw7.BackBias", spec := "backBias", unfollowed := true, recurses := true, apart := false, narrowed := true }
def BackBiasUptoSaid : Prop := backBiasUptoRow.holds Try.pinned (OpenSpec.upto backBiasSpec)

/-- 'grafterlaw7.BackZero', WHERE WHAT IT READS IS OF BULK AT MOST 1048576: true; the input reads as it did. -/
def backZeroUptoRow : OpenClaim := { program := "ytjageapgbpdlhaa", sum := "8731037c1e4f72c9f88b1e264f73dbd9f6c4a9d27e5f97894ff89424649399ac", func := "grafter/grafterlaw7.BackZero", spec := "backZero", unfollowed := true, recurses := true, apart := false, narrowed := true }
def BackZeroUptoSaid : Prop := backZeroUptoRow.holds Try.pinned (OpenSpec.upto backZeroSpec)

/-- 'grafterlaw21.Trains', WHERE WHAT IT READS IS OF BULK AT MOST 1048576: true; the input reads as it did. -/
def trainsUptoRow : OpenClaim := { program := "ytjageapgbpdlhaa", sum := "8731037c1e4f72c9f88b1e264f73dbd9f6c4a9d27e5f97894ff89424649399ac", func := "grafter/grafterlaw21.Trains", spec := "trains", unfollowed := true, recurses := true, apart := false, narrowed := true }
def TrainsUptoSaid : Prop := trainsUptoRow.holds Try.pinned (OpenSpec.upto trainsSpec)

/-- 'grafterlaw21.TrainForms', WHERE WHAT IT READS IS OF BULK AT MOST 1048576: true; the input reads as it did. -/
def trainFormsUptoRow : OpenClaim := { program := "ytjageapgbpdlhaa", sum := "8731037c1e4f72c9f88b1e264f73dbd9f6c4a9d27e5f97894ff89424649399ac", func := "grafter/grafterlaw21.TrainForms", spec := "trainForms", unfollowed := true, recurses := true, apart := false, narrowed := true }
def TrainFormsUptoSaid : Prop := trainFormsUptoRow.holds Try.pinned (OpenSpec.upto trainFormsSpec)

/-- 'grafterlaw21.TrainParts', WHERE WHAT IT READS IS OF BULK AT MOST 1048576: true; the input reads as it did. -/
def trainPartsUptoRow : OpenClaim := { program := "ytjageapgbpdlhaa", sum := "8731037c1e4f72c9f88b1e264f73dbd9f6c4a9d27e5f97894ff89424649399ac", func := "grafter/grafterlaw21.TrainParts", spec := "trainParts", unfollowed := true, recurses := true, apart := false, narrowed := true }
def TrainPartsUptoSaid : Prop := trainPartsUptoRow.holds Try.pinned (OpenSpec.upto trainPartsSpec)

/-- 'grafterlaw21.TrainOwn', WHERE WHAT IT READS IS OF BULK AT MOST 1048576: true; the input reads as it did. -/
def trainOwnUptoRow : OpenClaim := { program := "ytjageapgbpdlhaa", sum := "8731037c1e4f72c9f88b1e264f73dbd9f6c4a9d27e5f97894ff89424649399ac", func := "grafter/grafterlaw21.TrainOwn", spec := "trainOwn", unfollowed := true, recurses := true, apart := false, narrowed := true }
def TrainOwnUptoSaid : Prop := trainOwnUptoRow.holds Try.pinned (OpenSpec.upto trainOwnSpec)

/-- 'grafterlaw21.TrainRow', WHERE WHAT IT READS IS OF BULK AT MOST 1048576: true; the input reads as it did. -/
def trainRowUptoRow : OpenClaim := { program := "ytjageapgbpdlhaa", sum := "8731037c1e4f72c9f88b1e264f73dbd9f6c4a9d27e5f97894ff89424649399ac", func := "grafter/grafterlaw21.TrainRow", spec := "trainRow", unfollowed := true, recurses := true, apart := false, narrowed := true }
def TrainRowUptoSaid : Prop := trainRowUptoRow.holds Try.pinned (OpenSpec.upto trainRowSpec)

end Rows
end Go.Proofs.Ytjageapgbpdlhaa
