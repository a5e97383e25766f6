/-
  No cell of these rows narrows 'for every input' (looked for: loops, veiled, ifaces, maps, wideKeys, modest, calm, conditions, laid).
  DERIVED. THE GIVEN ROWS OF THIS SEAT. 5 by the template 'for every input the law returns true; each argument reads behind the call as it read before'; 0 by the template 'total and deterministic' (their statements: YtibpfgamiilpkaaTotals.lean).
  GIVEN WITH THE SEED: the statements are not yours to turn. If you find one false, say at which input.
  Laid BY PROGRAM, IN A SANDBOX (cutbox-rows.mjs): the forced cells as the released guide's own fill.sh prints them over the translation 332c7ecd86465609… (all of the seat's roots in one cut). By AI agents, Wed Nov 11 2026. No macro, syntax, notation, axiom, sorry.
-/
import Derived.Test.YtibpfgamiilpkaaChecked
import GoSem.Claim
import GoSem.ClaimJoined
import GoSem.ClaimMapViews
import Derived.JoinedTies
import Derived.KernelRfl
namespace Go.Proofs.Ytibpfgamiilpkaa
/- THE CELL 'sum', in the pinned program and in every row, IS THE sha256 OF THE DUMP (.gsa) THAT YtibpfgamiilpkaaProg.lean LOADS. Nothing in Lean hashes anything: it is a label: what it is worth is what the hold of that sum in a sandbox is worth. -/
noncomputable def Try.pinned : Pinned := { name := "ytibpfgamiilpkaa", sum := "332c7ecd864656096973491fe342a0574f15bf0cb82cbf63e8c5e191b0df21d6", checked := Try.checked }
namespace Rows
def none {H : Type} : Left H := { results := [], args := [] }

/-- 'grafterlaw18.Lineages': WHATEVER THE INPUT: true; the input reads as it did. -/
def lineagesSpec : ChangeSpec := { name := "lineages", fn := fun _ => fun
  | [d1, d2, d3] => { results := [.lit (.bool true)], args := [d1, d2, d3] }
  | _ => none }
def lineagesRow : OpenClaim := { program := "ytibpfgamiilpkaa", sum := "332c7ecd864656096973491fe342a0574f15bf0cb82cbf63e8c5e191b0df21d6", func := "grafter/grafterlaw18.Lineages", spec := "lineages", unfollowed := true, recurses := true, apart := false }
def LineagesSaid : Prop := lineagesRow.holds Try.pinned (OpenSpec.ofChange lineagesSpec)

/-- ITS FALSE NEIGHBOUR: 'it returns false'. Refute it at one input. -/
def lineagesWrong : ChangeSpec := { name := "lineages", fn := fun _ => fun
  | [d1, d2, d3] => { results := [.lit (.bool false)], args := [d1, d2, d3] }
  | _ => none }
def LineagesWrongFalsely : Prop := lineagesRow.holds Try.pinned (OpenSpec.ofChange lineagesWrong)

/-- 'grafterlaw18.LineageForms': WHATEVER THE INPUT: true; the input reads as it did. -/
def lineageFormsSpec : ChangeSpec := { name := "lineageForms", fn := fun _ => fun
  | [d1, d2] => { results := [.lit (.bool true)], args := [d1, d2] }
  | _ => none }
def lineageFormsRow : OpenClaim := { program := "ytibpfgamiilpkaa", sum := "332c7ecd864656096973491fe342a0574f15bf0cb82cbf63e8c5e191b0df21d6", func := "grafter/grafterlaw18.LineageForms", spec := "lineageForms", unfollowed := true, recurses := true, apart := false }
def LineageFormsSaid : Prop := lineageFormsRow.holds Try.pinned (OpenSpec.ofChange lineageFormsSpec)

/-- ITS FALSE NEIGHBOUR: 'it returns false'. Refute it at one input. -/
def lineageFormsWrong : ChangeSpec := { name := "lineageForms", fn := fun _ => fun
  | [d1, d2] => { results := [.lit (.bool false)], args := [d1, d2] }
  | _ => none }
def LineageFormsWrongFalsely : Prop := lineageFormsRow.holds Try.pinned (OpenSpec.ofChange lineageFormsWrong)

/-- 'grafterlaw18.LineageMany': WHATEVER THE INPUT: true; the input reads as it did. -/
def lineageManySpec : ChangeSpec := { name := "lineageMany", fn := fun _ => fun
  | [d1, d2] => { results := [.lit (.bool true)], args := [d1, d2] }
  | _ => none }
def lineageManyRow : OpenClaim := { program := "ytibpfgamiilpkaa", sum := "332c7ecd864656096973491fe342a0574f15bf0cb82cbf63e8c5e191b0df21d6", func := "grafter/grafterlaw18.LineageMany", spec := "lineageMany", unfollowed := true, recurses := true, apart := false }
def LineageManySaid : Prop := lineageManyRow.holds Try.pinned (OpenSpec.ofChange lineageManySpec)

/-- ITS FALSE NEIGHBOUR: 'it returns false'. Refute it at one input. -/
def lineageManyWrong : ChangeSpec := { name := "lineageMany", fn := fun _ => fun
  | [d1, d2] => { results := [.lit (.bool false)], args := [d1, d2] }
  | _ => none }
def LineageManyWrongFalsely : Prop := lineageManyRow.holds Try.pinned (OpenSpec.ofChange lineageManyWrong)

/-- 'grafterlaw18.LineageCut': WHATEVER THE INPUT: true; the input reads as it did. -/
def lineageCutSpec : ChangeSpec := { name := "lineageCut", fn := fun _ => fun
  | [d1, d2, d3] => { results := [.lit (.bool true)], args := [d1, d2, d3] }
  | _ => none }
def lineageCutRow : OpenClaim := { program := "ytibpfgamiilpkaa", sum := "332c7ecd864656096973491fe342a0574f15bf0cb82cbf63e8c5e191b0df21d6", func := "grafter/grafterlaw18.LineageCut", spec := "lineageCut", unfollowed := true, recurses := true, apart := false }
def LineageCutSaid : Prop := lineageCutRow.holds Try.pinned (OpenSpec.ofChange lineageCutSpec)

/-- ITS FALSE NEIGHBOUR: 'it returns false'. Refute it at one input. -/
def lineageCutWrong : ChangeSpec := { name := "lineageCut", fn := fun _ => fun
  | [d1, d2, d3] => { results := [.lit (.bool false)], args := [d1, d2, d3] }
  | _ => none }
def LineageCutWrongFalsely : Prop := lineageCutRow.holds Try.pinned (OpenSpec.ofChange lineageCutWrong)

/-- 'grafterlaw18.LineageGrows': WHATEVER THE INPUT: true; the input reads as it did. -/
def lineageGrowsSpec : ChangeSpec := { name := "lineageGrows", fn := fun _ => fun
  | [d1, d2, d3, d4] => { results := [.lit (.bool true)], args := [d1, d2, d3, d4] }
  | _ => none }
def lineageGrowsRow : OpenClaim := { program := "ytibpfgamiilpkaa", sum := "332c7ecd864656096973491fe342a0574f15bf0cb82cbf63e8c5e191b0df21d6", func := "grafter/grafterlaw18.LineageGrows", spec := "lineageGrows", unfollowed := true, recurses := true, apart := false }
def LineageGrowsSaid : Prop := lineageGrowsRow.holds Try.pinned (OpenSpec.ofChange lineageGrowsSpec)

/-- ITS FALSE NEIGHBOUR: 'it returns false'. Refute it at one input. -/
def lineageGrowsWrong : ChangeSpec := { name := "lineageGrows", fn := fun _ => fun
  | [d1, d2, d3, d4] => { results := [.lit (.bool false)], args := [d1, d2, d3, d4] }
  | _ => none }
def LineageGrowsWrongFalsely : Prop := lineageGrowsRow.holds Try.pinned (OpenSpec.ofChange lineageGrowsWrong)

/- THE SECOND FORM. 'bulk': how many values and letters a reading holds, each counted each time it is reached (what is shared counts as often as it is met; a slice's spare places count too). A statement '..UptoSaid' is the law's where the arguments, and the package variables that the reading takes, are together of bulk at most 1048576: NARROWER than '..Said'. Prove '..Said' where nothing that the law and all that it calls make is longer than what came in: it says more and counts as full. Else prove '..UptoSaid'. A law counts once. -/
mutual
def uptoBulk {H : Type} : DataW H → Nat
  | .lit (.string bytes) => bytes.length + 1
  | .lit _ => 1
  | .nil => 1
  | .ptr d => uptoBulk d + 1
  | .slice elems spare => uptoBulkAll elems + uptoBulkAll spare + 1
  | .agg parts => uptoBulkAll parts + 1
  | .iface _ d => uptoBulk d + 1
  | .map entries => uptoBulkEntries entries + 1
  | .held _ => 1
def uptoBulkAll {H : Type} : List (DataW H) → Nat
  | [] => 0
  | d :: r => uptoBulk d + uptoBulkAll r
def uptoBulkEntries {H : Type} : List (Lit × DataW H) → Nat
  | [] => 0
  | x :: r => uptoBulkEntry x + uptoBulkEntries r
def uptoBulkEntry {H : Type} : Lit × DataW H → Nat
  | (.string bytes, d) => bytes.length + uptoBulk d + 1
  | (_, d) => uptoBulk d + 1
 end
def uptoSmall : (H : Type) → List (DataW H) → Bool := fun _ ds => decide (uptoBulkAll ds ≤ 1048576)
def OpenSpec.upto (s : _root_.Go.ChangeSpec) : _root_.Go.OpenSpec := { _root_.Go.OpenSpec.ofChange s with cond := some uptoSmall }

/-- 'grafterlaw18.Lineages', WHERE WHAT IT READS IS OF BULK AT MOST 1048576: true; the input reads as it did. -/
def lineagesUptoRow : OpenClaim := { program := "ytibpfgamiilpkaa", sum := "332c7ecd864656096973491fe342a0574f15bf0cb82cbf63e8c5e191b0df21d6", func := "grafter/grafterlaw18.Lineages", spec := "lineages", unfollowed := true, recurses := true, apart := false, narrowed := true }
def LineagesUptoSaid : Prop := lineagesUptoRow.holds Try.pinned (OpenSpec.upto lineagesSpec)

/-- 'grafterlaw18.LineageForms', WHERE WHAT IT READS IS OF BULK AT MOST 1048576: true; the input reads as it did. -/
def lineageFormsUptoRow : OpenClaim := { program := "ytibpfgamiilpkaa", sum := "332c7ecd864656096973491fe342a0574f15bf0cb82cbf63e8c5e191b0df21d6", func := "grafter/grafterlaw18.LineageForms", spec := "lineageForms", unfollowed := true, recurses := true, apart := false, narrowed := true }
def LineageFormsUptoSaid : Prop := lineageFormsUptoRow.holds Try.pinned (OpenSpec.upto lineageFormsSpec)

/-- 'grafterlaw18.LineageMany', WHERE WHAT IT READS IS OF BULK AT MOST 1048576: true; the input reads as it did. -/
def lineageManyUptoRow : OpenClaim := { program := "ytibpfgamiilpkaa", sum := "332c7ecd864656096973491fe342a0574f15bf0cb82cbf63e8c5e191b0df21d6", func := "grafter/grafterlaw18.LineageMany", spec := "lineageMany", unfollowed := true, recurses := true, apart := false, narrowed := true }
def LineageManyUptoSaid : Prop := lineageManyUptoRow.holds Try.pinned (OpenSpec.upto lineageManySpec)

/-- 'grafterlaw18.LineageCut', WHERE WHAT IT READS IS OF BULK AT MOST 1048576: true; the input reads as it did. -/
def lineageCutUptoRow : OpenClaim := { program := "ytibpfgamiilpkaa", sum := "332c7ecd864656096973491fe342a0574f15bf0cb82cbf63e8c5e191b0df21d6", func := "grafter/grafterlaw18.LineageCut", spec := "lineageCut", unfollowed := true, recurses := true, apart := false, narrowed := true }
def LineageCutUptoSaid : Prop := lineageCutUptoRow.holds Try.pinned (OpenSpec.upto lineageCutSpec)

/-- 'grafterlaw18.LineageGrows', WHERE WHAT IT READS IS OF BULK AT MOST 1048576: true; the input reads as it did. -/
def lineageGrowsUptoRow : OpenClaim := { program := "ytibpfgamiilpkaa", sum := "332c7ecd864656096973491fe342a0574f15bf0cb82cbf63e8c5e191b0df21d6", func := "grafter/grafterlaw18.LineageGrows", spec := "lineageGrows", unfollowed := true, recurses := true, apart := false, narrowed := true }
def LineageGrowsUptoSaid : Prop := lineageGrowsUptoRow.holds Try.pinned (OpenSpec.upto lineageGrowsSpec)

end Rows
end Go.Proofs.Ytibpfgamiilpkaa
