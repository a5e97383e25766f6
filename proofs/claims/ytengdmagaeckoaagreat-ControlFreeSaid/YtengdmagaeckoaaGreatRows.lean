/-
  No cell of these rows narrows 'for every input' (looked for: loops, veiled, ifaces, maps, wideKeys, modest, calm, conditions, laid).
  DERIVED. THE GIVEN ROWS OF THIS SEAT. 7 by the template 'for every input the law returns true; each argument reads behind the call as it read before'; 0 by the template 'total and deterministic' (their statements: YtengdmagaeckoaaGreatTotals.lean).
  GIVEN WITH THE SEED: the statements are not yours to turn. If you find one false, say at which input.
  Laid BY PROGRAM, IN A SANDBOX (cutbox-rows.mjs): the forced cells as the released guide's own fill.sh prints them over the translation aa03f16b55ff8620… (all of the seat's roots in one cut). By AI agents, Wed Nov 11 2026. No macro, syntax, notation, axiom, sorry.
-/
import Derived.Test.YtengdmagaeckoaaGreatChecked
import GoSem.Claim
import GoSem.ClaimJoined
import GoSem.ClaimMapViews
import Derived.JoinedTies
import Derived.KernelRfl
namespace Go.Proofs.YtengdmagaeckoaaGreat
/- THE CELL 'sum', in the pinned program and in every row, IS THE sha256 OF THE DUMP (.gsa) THAT YtengdmagaeckoaaGreatProg.lean LOADS. Nothing in Lean hashes anything: it is a label: what it is worth is what the hold of that sum in a sandbox is worth. -/
noncomputable def Tryz.pinned : Pinned := { name := "ytengdmagaeckoaagreat", sum := "aa03f16b55ff8620fcba48e0b57acab878d3cc90b0ea97c71b82817c04df076e", checked := Tryz.checked }
namespace Rows
def none {H : Type} : Left H := { results := [], args := [] }

/-- 'grafterlaw24.Folds': WHATEVER THE INPUT: true; the input reads as it did. -/
def foldsSpec : ChangeSpec := { name := "folds", fn := fun _ => fun
  | [d1, d2, d3, d4] => { results := [.lit (.bool true)], args := [d1, d2, d3, d4] }
  | _ => none }
def foldsRow : OpenClaim := { program := "ytengdmagaeckoaagreat", sum := "aa03f16b55ff8620fcba48e0b57acab878d3cc90b0ea97c71b82817c04df076e", func := "grafter/grafterlaw24.Folds", spec := "folds", unfollowed := true, recurses := true, apart := false }
def FoldsSaid : Prop := foldsRow.holds Tryz.pinned (OpenSpec.ofChange foldsSpec)

/-- ITS FALSE NEIGHBOUR: 'it returns false'. Refute it at one input. -/
def foldsWrong : ChangeSpec := { name := "folds", fn := fun _ => fun
  | [d1, d2, d3, d4] => { results := [.lit (.bool false)], args := [d1, d2, d3, d4] }
  | _ => none }
def FoldsWrongFalsely : Prop := foldsRow.holds Tryz.pinned (OpenSpec.ofChange foldsWrong)

/-- 'grafterlaw24.FoldFirst': WHATEVER THE INPUT: true; the input reads as it did. -/
def foldFirstSpec : ChangeSpec := { name := "foldFirst", fn := fun _ => fun
  | [d1, d2, d3] => { results := [.lit (.bool true)], args := [d1, d2, d3] }
  | _ => none }
def foldFirstRow : OpenClaim := { program := "ytengdmagaeckoaagreat", sum := "aa03f16b55ff8620fcba48e0b57acab878d3cc90b0ea97c71b82817c04df076e", func := "grafter/grafterlaw24.FoldFirst", spec := "foldFirst", unfollowed := true, recurses := true, apart := false }
def FoldFirstSaid : Prop := foldFirstRow.holds Tryz.pinned (OpenSpec.ofChange foldFirstSpec)

/-- ITS FALSE NEIGHBOUR: 'it returns false'. Refute it at one input. -/
def foldFirstWrong : ChangeSpec := { name := "foldFirst", fn := fun _ => fun
  | [d1, d2, d3] => { results := [.lit (.bool false)], args := [d1, d2, d3] }
  | _ => none }
def FoldFirstWrongFalsely : Prop := foldFirstRow.holds Tryz.pinned (OpenSpec.ofChange foldFirstWrong)

/-- 'grafterlaw24.FoldMore': WHATEVER THE INPUT: true; the input reads as it did. -/
def foldMoreSpec : ChangeSpec := { name := "foldMore", fn := fun _ => fun
  | [d1, d2, d3, d4, d5] => { results := [.lit (.bool true)], args := [d1, d2, d3, d4, d5] }
  | _ => none }
def foldMoreRow : OpenClaim := { program := "ytengdmagaeckoaagreat", sum := "aa03f16b55ff8620fcba48e0b57acab878d3cc90b0ea97c71b82817c04df076e", func := "grafter/grafterlaw24.FoldMore", spec := "foldMore", unfollowed := true, recurses := true, apart := false }
def FoldMoreSaid : Prop := foldMoreRow.holds Tryz.pinned (OpenSpec.ofChange foldMoreSpec)

/-- ITS FALSE NEIGHBOUR: 'it returns false'. Refute it at one input. -/
def foldMoreWrong : ChangeSpec := { name := "foldMore", fn := fun _ => fun
  | [d1, d2, d3, d4, d5] => { results := [.lit (.bool false)], args := [d1, d2, d3, d4, d5] }
  | _ => none }
def FoldMoreWrongFalsely : Prop := foldMoreRow.holds Tryz.pinned (OpenSpec.ofChange foldMoreWrong)

/-- 'grafterlaw22.Controls': WHATEVER THE INPUT: true; the input reads as it did. -/
def controlsSpec : ChangeSpec := { name := "controls", fn := fun _ => fun
  | [d1, d2] => { results := [.lit (.bool true)], args := [d1, d2] }
  | _ => none }
def controlsRow : OpenClaim := { program := "ytengdmagaeckoaagreat", sum := "aa03f16b55ff8620fcba48e0b57acab878d3cc90b0ea97c71b82817c04df076e", func := "grafter/grafterlaw22.Controls", spec := "controls", inPlace := ["slices.overlaps[grafter/api.Entry]"], unfollowed := true, recurses := true, apart := false }
def ControlsSaid : Prop := controlsRow.holds Tryz.pinned (OpenSpec.ofChange controlsSpec)

/-- ITS FALSE NEIGHBOUR: 'it returns false'. Refute it at one input. -/
def controlsWrong : ChangeSpec := { name := "controls", fn := fun _ => fun
  | [d1, d2] => { results := [.lit (.bool false)], args := [d1, d2] }
  | _ => none }
def ControlsWrongFalsely : Prop := controlsRow.holds Tryz.pinned (OpenSpec.ofChange controlsWrong)

/-- 'grafterlaw22.ControlForms': WHATEVER THE INPUT: true; the input reads as it did. -/
def controlFormsSpec : ChangeSpec := { name := "controlForms", fn := fun _ => fun
  | [d1, d2] => { results := [.lit (.bool true)], args := [d1, d2] }
  | _ => none }
def controlFormsRow : OpenClaim := { program := "ytengdmagaeckoaagreat", sum := "aa03f16b55ff8620fcba48e0b57acab878d3cc90b0ea97c71b82817c04df076e", func := "grafter/grafterlaw22.ControlForms", spec := "controlForms", inPlace := ["slices.overlaps[grafter/api.Entry]"], unfollowed := true, recurses := true, apart := false }
def ControlFormsSaid : Prop := controlFormsRow.holds Tryz.pinned (OpenSpec.ofChange controlFormsSpec)

/-- ITS FALSE NEIGHBOUR: 'it returns false'. Refute it at one input. -/
def controlFormsWrong : ChangeSpec := { name := "controlForms", fn := fun _ => fun
  | [d1, d2] => { results := [.lit (.bool false)], args := [d1, d2] }
  | _ => none }
def ControlFormsWrongFalsely : Prop := controlFormsRow.holds Tryz.pinned (OpenSpec.ofChange controlFormsWrong)

/-- 'grafterlaw22.ControlNew': WHATEVER THE INPUT: true; the input reads as it did. -/
def controlNewSpec : ChangeSpec := { name := "controlNew", fn := fun _ => fun
  | [d] => { results := [.lit (.bool true)], args := [d] }
  | _ => none }
def controlNewRow : OpenClaim := { program := "ytengdmagaeckoaagreat", sum := "aa03f16b55ff8620fcba48e0b57acab878d3cc90b0ea97c71b82817c04df076e", func := "grafter/grafterlaw22.ControlNew", spec := "controlNew", inPlace := ["slices.overlaps[grafter/api.Entry]"], unfollowed := true, recurses := true, apart := false }
def ControlNewSaid : Prop := controlNewRow.holds Tryz.pinned (OpenSpec.ofChange controlNewSpec)

/-- ITS FALSE NEIGHBOUR: 'it returns false'. Refute it at one input. -/
def controlNewWrong : ChangeSpec := { name := "controlNew", fn := fun _ => fun
  | [d] => { results := [.lit (.bool false)], args := [d] }
  | _ => none }
def ControlNewWrongFalsely : Prop := controlNewRow.holds Tryz.pinned (OpenSpec.ofChange controlNewWrong)

/-- 'grafterlaw22.ControlFree': WHATEVER THE INPUT: true; the input reads as it did. -/
def controlFreeSpec : ChangeSpec := { name := "controlFree", fn := fun _ => fun
  | [d1, d2] => { results := [.lit (.bool true)], args := [d1, d2] }
  | _ => none }
def controlFreeRow : OpenClaim := { program := "ytengdmagaeckoaagreat", sum := "aa03f16b55ff8620fcba48e0b57acab878d3cc90b0ea97c71b82817c04df076e", func := "grafter/grafterlaw22.ControlFree", spec := "controlFree", inPlace := ["slices.overlaps[grafter/api.Entry]"], unfollowed := true, recurses := true, apart := false }
def ControlFreeSaid : Prop := controlFreeRow.holds Tryz.pinned (OpenSpec.ofChange controlFreeSpec)

/-- ITS FALSE NEIGHBOUR: 'it returns false'. Refute it at one input. -/
def controlFreeWrong : ChangeSpec := { name := "controlFree", fn := fun _ => fun
  | [d1, d2] => { results := [.lit (.bool false)], args := [d1, d2] }
  | _ => none }
def ControlFreeWrongFalsely : Prop := controlFreeRow.holds Tryz.pinned (OpenSpec.ofChange controlFreeWrong)

/- THE SECOND FORM. 'bulk': how many values and letters a reading holds, each counted each time it is reached (what is shared counts as often as it is met; a slice's spare places count too). A statement '..UptoSaid' is the law's where the arguments, and the package variables that the reading takes, are together of bulk at most 1048576: NARROWER than '..Said'. Prove '..Said' where nothing that the law and all that it calls make is longer than what came in: it says more and counts as full. Else prove '..UptoSaid'. A law counts once. -/
mutual
def uptoBulk {H : Type} : DataW H → Nat
  | .lit (.string bytes) => bytes.length + 1
  | .lit _ => 1
  | .nil => 1
  | .ptr d => uptoBulk d + 1
  | .slice elems spare => uptoBulkAll elems + uptoBulkAll spare + 1
  | .agg parts => uptoBulkAll parts + 1
  | .iface _ d => uptoBulk d + 1
  | .map entries => uptoBulkEntries entries + 1
  | .held _ => 1
def uptoBulkAll {H : Type} : List (DataW H) → Nat
  | [] => 0
  | d :: r => uptoBulk d + uptoBulkAll r
def uptoBulkEntries {H : Type} : List (Lit × DataW H) → Nat
  | [] => 0
  | x :: r => uptoBulkEntry x + uptoBulkEntries r
def uptoBulkEntry {H : Type} : Lit × DataW H → Nat
  | (.string bytes, d) => bytes.length + uptoBulk d + 1
  | (_, d) => uptoBulk d + 1
 end
def uptoSmall : (H : Type) → List (DataW H) → Bool := fun _ ds => decide (uptoBulkAll ds ≤ 1048576)
def OpenSpec.upto (s : _root_.Go.ChangeSpec) : _root_.Go.OpenSpec := { _root_.Go.OpenSpec.ofChange s with cond := some uptoSmall }

/-- 'grafterlaw24.Folds', WHERE WHAT IT READS IS OF BULK AT MOST 1048576: true; the input reads as it did. -/
def foldsUptoRow : OpenClaim := { program := "ytengdmagaeckoaagreat", sum := "aa03f16b55ff8620fcba48e0b57acab878d3cc90b0ea97c71b82817c04df076e", func := "grafter/grafterlaw24.Folds", spec := "folds", unfollowed := true, recurses := true, apart := false, narrowed := true }
def FoldsUptoSaid : Prop := foldsUptoRow.holds Tryz.pinned (OpenSpec.upto foldsSpec)

/-- 'grafterlaw24.FoldFirst', WHERE WHAT IT READS IS OF BULK AT MOST 1048576: true; the input reads as it did. -/
def foldFirstUptoRow : OpenClaim := { program := "ytengdmagaeckoaagreat", sum := "aa03f16b55ff8620fcba48e0b57acab878d3cc90b0ea97c71b82817c04df076e", func := "grafter/grafterlaw24.FoldFirst", spec := "foldFirst", unfollowed := true, recurses := true, apart := false, narrowed := true }
def FoldFirstUptoSaid : Prop := foldFirstUptoRow.holds Tryz.pinned (OpenSpec.upto foldFirstSpec)

/-- 'grafterlaw24.FoldMore', WHERE WHAT IT READS IS OF BULK AT MOST 1048576: true; the input reads as it did. -/
def foldMoreUptoRow : OpenClaim := { program := "ytengdmagaeckoaagreat", sum := "aa03f16b55ff8620fcba48e0b57acab878d3cc90b0ea97c71b82817c04df076e", func := "grafter/grafterlaw24.FoldMore", spec := "foldMore", unfollowed := true, recurses := true, apart := false, narrowed := true }
def FoldMoreUptoSaid : Prop := foldMoreUptoRow.holds Tryz.pinned (OpenSpec.upto foldMoreSpec)

/-- 'grafterlaw22.Controls', WHERE WHAT IT READS IS OF BULK AT MOST 1048576: true; the input reads as it did. -/
def controlsUptoRow : OpenClaim := { program := "ytengdmagaeckoaagreat", sum := "aa03f16b55ff8620fcba48e0b57acab878d3cc90b0ea97c71b82817c04df076e", func := "grafter/grafterlaw22.Controls", spec := "controls", inPlace := ["slices.overlaps[grafter/api.Entry]"], unfollowed := true, recurses := true, apart := false, narrowed := true }
def ControlsUptoSaid : Prop := controlsUptoRow.holds Tryz.pinned (OpenSpec.upto controlsSpec)

/-- 'grafterlaw22.ControlForms', WHERE WHAT IT READS IS OF BULK AT MOST 1048576: true; the input reads as it did. -/
def controlFormsUptoRow : OpenClaim := { program := "ytengdmagaeckoaagreat", sum := "aa03f16b55ff8620fcba48e0b57acab878d3cc90b0ea97c71b82817c04df076e", func := "grafter/grafterlaw22.ControlForms", spec := "controlForms", inPlace := ["slices.overlaps[grafter/api.Entry]"], unfollowed := true, recurses := true, apart := false, narrowed := true }
def ControlFormsUptoSaid : Prop := controlFormsUptoRow.holds Tryz.pinned (OpenSpec.upto controlFormsSpec)

/-- 'grafterlaw22.ControlNew', WHERE WHAT IT READS IS OF BULK AT MOST 1048576: true; the input reads as it did. -/
def controlNewUptoRow : OpenClaim := { program := "ytengdmagaeckoaagreat", sum := "aa03f16b55ff8620fcba48e0b57acab878d3cc90b0ea97c71b82817c04df076e", func := "grafter/grafterlaw22.ControlNew", spec := "controlNew", inPlace := ["slices.overlaps[grafter/api.Entry]"], unfollowed := true, recurses := true, apart := false, narrowed := true }
def ControlNewUptoSaid : Prop := controlNewUptoRow.holds Tryz.pinned (OpenSpec.upto controlNewSpec)

/-- 'grafterlaw22.ControlFree', WHERE WHAT IT READS IS OF BULK AT MOST 1048576: true; the input reads as it did. -/
def controlFreeUptoRow : OpenClaim := { program := "ytengdmagaeckoaagreat", sum := "aa03f16b55ff8620fcba48e0b57acab878d3cc90b0ea97c71b82817c04df076e", func := "grafter/grafterlaw22.ControlFree", spec := "controlFree", inPlace := ["slices.overlaps[grafter/api.Entry]"], unfollowed := true, recurses := true, apart := false, narrowed := true }
def ControlFreeUptoSaid : Prop := controlFreeUptoRow.holds Tryz.pinned (OpenSpec.upto controlFreeSpec)

end Rows
end Go.Proofs.YtengdmagaeckoaaGreat
