/-
  No cell of these rows narrows 'for every input' (looked for: loops, veiled, ifaces, maps, wideKeys, modest, calm, conditions, laid).
  DERIVED. THE GIVEN ROWS OF THIS SEAT. 9 by the template 'for every input the law returns true; each argument reads behind the call as it read before'; 0 by the template 'total and deterministic' (their statements: YtiekbfjmoemdgaaTotals.lean).
  GIVEN WITH THE SEED: the statements are not yours to turn. If you find one false, say at which input.
  Laid BY PROGRAM, IN A SANDBOX (cutbox-rows.mjs): the forced cells as the released guide's own fill.sh prints them over the translation 7d6fb5c1cf86e4f0… (all of the seat's roots in one cut). By AI agents, Wed Nov 11 2026. No macro, syntax, notation, axiom, sorry.
-/
import Derived.Test.YtiekbfjmoemdgaaChecked
import GoSem.Claim
import GoSem.ClaimJoined
import GoSem.ClaimMapViews
import Derived.JoinedTies
import Derived.KernelRfl
namespace Go.Proofs.Ytiekbfjmoemdgaa
/- THE CELL 'sum', in the pinned program and in every row, IS THE sha256 OF THE DUMP (.gsa) THAT YtiekbfjmoemdgaaProg.lean LOADS. Nothing in Lean hashes anything: it is a label: what it is worth is what the hold of that sum in a sandbox is worth. -/
noncomputable def Try.pinned : Pinned := { name := "ytiekbfjmoemdgaa", sum := "7d6fb5c1cf86e4f04449fe5b0a13607ed06a7c8fcb8226d05b503849fc0eb0ce", checked := Try.checked }
namespace Rows
def none {H : Type} : Left H := { results := [], args := [] }

/-- 'grafterlaw12.Ranks': WHATEVER THE INPUT: true; the input reads as it did. -/
def ranksSpec : ChangeSpec := { name := "ranks", fn := fun _ => fun
  | [d] => { results := [.lit (.bool true)], args := [d] }
  | _ => none }
def ranksRow : OpenClaim := { program := "ytiekbfjmoemdgaa", sum := "7d6fb5c1cf86e4f04449fe5b0a13607ed06a7c8fcb8226d05b503849fc0eb0ce", func := "grafter/grafterlaw12.Ranks", spec := "ranks", unfollowed := true, recurses := true, apart := false }
def RanksSaid : Prop := ranksRow.holds Try.pinned (OpenSpec.ofChange ranksSpec)

/-- ITS FALSE NEIGHBOUR: 'it returns false'. Refute it at one input. -/
def ranksWrong : ChangeSpec := { name := "ranks", fn := fun _ => fun
  | [d] => { results := [.lit (.bool false)], args := [d] }
  | _ => none }
def RanksWrongFalsely : Prop := ranksRow.holds Try.pinned (OpenSpec.ofChange ranksWrong)

/-- 'grafterlaw12.RankForms': WHATEVER THE INPUT: true; the input reads as it did. -/
def rankFormsSpec : ChangeSpec := { name := "rankForms", fn := fun _ => fun
  | [d1, d2] => { results := [.lit (.bool true)], args := [d1, d2] }
  | _ => none }
def rankFormsRow : OpenClaim := { program := "ytiekbfjmoemdgaa", sum := "7d6fb5c1cf86e4f04449fe5b0a13607ed06a7c8fcb8226d05b503849fc0eb0ce", func := "grafter/grafterlaw12.RankForms", spec := "rankForms", unfollowed := true, recurses := true, apart := false }
def RankFormsSaid : Prop := rankFormsRow.holds Try.pinned (OpenSpec.ofChange rankFormsSpec)

/-- ITS FALSE NEIGHBOUR: 'it returns false'. Refute it at one input. -/
def rankFormsWrong : ChangeSpec := { name := "rankForms", fn := fun _ => fun
  | [d1, d2] => { results := [.lit (.bool false)], args := [d1, d2] }
  | _ => none }
def RankFormsWrongFalsely : Prop := rankFormsRow.holds Try.pinned (OpenSpec.ofChange rankFormsWrong)

/-- 'grafterlaw12.RankRow': WHATEVER THE INPUT: true; the input reads as it did. -/
def rankRowSpec : ChangeSpec := { name := "rankRow", fn := fun _ => fun
  | [d] => { results := [.lit (.bool true)], args := [d] }
  | _ => none }
def rankRowRow : OpenClaim := { program := "ytiekbfjmoemdgaa", sum := "7d6fb5c1cf86e4f04449fe5b0a13607ed06a7c8fcb8226d05b503849fc0eb0ce", func := "grafter/grafterlaw12.RankRow", spec := "rankRow", unfollowed := true, recurses := true, apart := false }
def RankRowSaid : Prop := rankRowRow.holds Try.pinned (OpenSpec.ofChange rankRowSpec)

/-- ITS FALSE NEIGHBOUR: 'it returns false'. Refute it at one input. -/
def rankRowWrong : ChangeSpec := { name := "rankRow", fn := fun _ => fun
  | [d] => { results := [.lit (.bool false)], args := [d] }
  | _ => none }
def RankRowWrongFalsely : Prop := rankRowRow.holds Try.pinned (OpenSpec.ofChange rankRowWrong)

/-- 'grafterlaw12.RankTwo': WHATEVER THE INPUT: true; the input reads as it did. -/
def rankTwoSpec : ChangeSpec := { name := "rankTwo", fn := fun _ => fun
  | [d1, d2, d3] => { results := [.lit (.bool true)], args := [d1, d2, d3] }
  | _ => none }
def rankTwoRow : OpenClaim := { program := "ytiekbfjmoemdgaa", sum := "7d6fb5c1cf86e4f04449fe5b0a13607ed06a7c8fcb8226d05b503849fc0eb0ce", func := "grafter/grafterlaw12.RankTwo", spec := "rankTwo", unfollowed := true, recurses := true, apart := false }
def RankTwoSaid : Prop := rankTwoRow.holds Try.pinned (OpenSpec.ofChange rankTwoSpec)

/-- ITS FALSE NEIGHBOUR: 'it returns false'. Refute it at one input. -/
def rankTwoWrong : ChangeSpec := { name := "rankTwo", fn := fun _ => fun
  | [d1, d2, d3] => { results := [.lit (.bool false)], args := [d1, d2, d3] }
  | _ => none }
def RankTwoWrongFalsely : Prop := rankTwoRow.holds Try.pinned (OpenSpec.ofChange rankTwoWrong)

/-- 'grafterlaw13.Choices': WHATEVER THE INPUT: true; the input reads as it did. -/
def choicesSpec : ChangeSpec := { name := "choices", fn := fun _ => fun
  | [d1, d2, d3, d4] => { results := [.lit (.bool true)], args := [d1, d2, d3, d4] }
  | _ => none }
def choicesRow : OpenClaim := { program := "ytiekbfjmoemdgaa", sum := "7d6fb5c1cf86e4f04449fe5b0a13607ed06a7c8fcb8226d05b503849fc0eb0ce", func := "grafter/grafterlaw13.Choices", spec := "choices", unfollowed := true, recurses := true, apart := false }
def ChoicesSaid : Prop := choicesRow.holds Try.pinned (OpenSpec.ofChange choicesSpec)

/-- ITS FALSE NEIGHBOUR: 'it returns false'. Refute it at one input. -/
def choicesWrong : ChangeSpec := { name := "choices", fn := fun _ => fun
  | [d1, d2, d3, d4] => { results := [.lit (.bool false)], args := [d1, d2, d3, d4] }
  | _ => none }
def ChoicesWrongFalsely : Prop := choicesRow.holds Try.pinned (OpenSpec.ofChange choicesWrong)

/-- 'grafterlaw13.ChoiceForms': WHATEVER THE INPUT: true; the input reads as it did. -/
def choiceFormsSpec : ChangeSpec := { name := "choiceForms", fn := fun _ => fun
  | [d1, d2] => { results := [.lit (.bool true)], args := [d1, d2] }
  | _ => none }
def choiceFormsRow : OpenClaim := { program := "ytiekbfjmoemdgaa", sum := "7d6fb5c1cf86e4f04449fe5b0a13607ed06a7c8fcb8226d05b503849fc0eb0ce", func := "grafter/grafterlaw13.ChoiceForms", spec := "choiceForms", unfollowed := true, recurses := true, apart := false }
def ChoiceFormsSaid : Prop := choiceFormsRow.holds Try.pinned (OpenSpec.ofChange choiceFormsSpec)

/-- ITS FALSE NEIGHBOUR: 'it returns false'. Refute it at one input. -/
def choiceFormsWrong : ChangeSpec := { name := "choiceForms", fn := fun _ => fun
  | [d1, d2] => { results := [.lit (.bool false)], args := [d1, d2] }
  | _ => none }
def ChoiceFormsWrongFalsely : Prop := choiceFormsRow.holds Try.pinned (OpenSpec.ofChange choiceFormsWrong)

/-- 'grafterlaw13.ChoiceRule': WHATEVER THE INPUT: true; the input reads as it did. -/
def choiceRuleSpec : ChangeSpec := { name := "choiceRule", fn := fun _ => fun
  | [d1, d2, d3] => { results := [.lit (.bool true)], args := [d1, d2, d3] }
  | _ => none }
def choiceRuleRow : OpenClaim := { program := "ytiekbfjmoemdgaa", sum := "7d6fb5c1cf86e4f04449fe5b0a13607ed06a7c8fcb8226d05b503849fc0eb0ce", func := "grafter/grafterlaw13.ChoiceRule", spec := "choiceRule", unfollowed := true, recurses := true, apart := false }
def ChoiceRuleSaid : Prop := choiceRuleRow.holds Try.pinned (OpenSpec.ofChange choiceRuleSpec)

/-- ITS FALSE NEIGHBOUR: 'it returns false'. Refute it at one input. -/
def choiceRuleWrong : ChangeSpec := { name := "choiceRule", fn := fun _ => fun
  | [d1, d2, d3] => { results := [.lit (.bool false)], args := [d1, d2, d3] }
  | _ => none }
def ChoiceRuleWrongFalsely : Prop := choiceRuleRow.holds Try.pinned (OpenSpec.ofChange choiceRuleWrong)

/-- 'grafterlaw13.ChoiceDraws': WHATEVER THE INPUT: true; the input reads as it did. -/
def choiceDrawsSpec : ChangeSpec := { name := "choiceDraws", fn := fun _ => fun
  | [d1, d2] => { results := [.lit (.bool true)], args := [d1, d2] }
  | _ => none }
def choiceDrawsRow : OpenClaim := { program := "ytiekbfjmoemdgaa", sum := "7d6fb5c1cf86e4f04449fe5b0a13607ed06a7c8fcb8226d05b503849fc0eb0ce", func := "grafter/grafterlaw13.ChoiceDraws", spec := "choiceDraws", unfollowed := true, recurses := true, apart := false }
def ChoiceDrawsSaid : Prop := choiceDrawsRow.holds Try.pinned (OpenSpec.ofChange choiceDrawsSpec)

/-- ITS FALSE NEIGHBOUR: 'it returns false'. Refute it at one input. -/
def choiceDrawsWrong : ChangeSpec := { name := "choiceDraws", fn := fun _ => fun
  | [d1, d2] => { results := [.lit (.bool false)], args := [d1, d2] }
  | _ => none }
def ChoiceDrawsWrongFalsely : Prop := choiceDrawsRow.holds Try.pinned (OpenSpec.ofChange choiceDrawsWrong)

/-- 'grafterlaw13.ChoiceBest': WHATEVER THE INPUT: true; the input reads as it did. -/
def choiceBestSpec : ChangeSpec := { name := "choiceBest", fn := fun _ => fun
  | [d1, d2] => { results := [.lit (.bool true)], args := [d1, d2] }
  | _ => none }
def choiceBestRow : OpenClaim := { program := "ytiekbfjmoemdgaa", sum := "7d6fb5c1cf86e4f04449fe5b0a13607ed06a7c8fcb8226d05b503849fc0eb0ce", func := "grafter/grafterlaw13.ChoiceBest", spec := "choiceBest", unfollowed := true, recurses := true, apart := false }
def ChoiceBestSaid : Prop := choiceBestRow.holds Try.pinned (OpenSpec.ofChange choiceBestSpec)

/-- ITS FALSE NEIGHBOUR: 'it returns false'. Refute it at one input. -/
def choiceBestWrong : ChangeSpec := { name := "choiceBest", fn := fun _ => fun
  | [d1, d2] => { results := [.lit (.bool false)], args := [d1, d2] }
  | _ => none }
def ChoiceBestWrongFalsely : Prop := choiceBestRow.holds Try.pinned (OpenSpec.ofChange choiceBestWrong)

/- THE SECOND FORM. 'bulk': how many values and letters a reading holds, each counted each time it is reached (what is shared counts as often as it is met; a slice's spare places count too). A statement '..UptoSaid' is the law's where the arguments, and the package variables that the reading takes, are together of bulk at most 1048576: NARROWER than '..Said'. Prove '..Said' where nothing that the law and all that it calls make is longer than what came in: it says more and counts as full. Else prove '..UptoSaid'. A law counts once. -/
mutual
def uptoBulk {H : Type} : DataW H → Nat
  | .lit (.string bytes) => bytes.length + 1
  | .lit _ => 1
  | .nil => 1
  | .ptr d => uptoBulk d + 1
  | .slice elems spare => uptoBulkAll elems + uptoBulkAll spare + 1
  | .agg parts => uptoBulkAll parts + 1
  | .iface _ d => uptoBulk d + 1
  | .map entries => uptoBulkEntries entries + 1
  | .held _ => 1
def uptoBulkAll {H : Type} : List (DataW H) → Nat
  | [] => 0
  | d :: r => uptoBulk d + uptoBulkAll r
def uptoBulkEntries {H : Type} : List (Lit × DataW H) → Nat
  | [] => 0
  | x :: r => uptoBulkEntry x + uptoBulkEntries r
def uptoBulkEntry {H : Type} : Lit × DataW H → Nat
  | (.string bytes, d) => bytes.length + uptoBulk d + 1
  | (_, d) => uptoBulk d + 1
 end
def uptoSmall : (H : Type) → List (DataW H) → Bool := fun _ ds => decide (uptoBulkAll ds ≤ 1048576)
def OpenSpec.upto (s : _root_.Go.ChangeSpec) : _root_.Go.OpenSpec := { _root_.Go.OpenSpec.ofChange s with cond := some uptoSmall }

/-- 'grafterlaw12.Ranks', WHERE WHAT IT READS IS OF BULK AT MOST 1048576: true; the input reads as it did. -/
def ranksUptoRow : OpenClaim := { program := "ytiekbfjmoemdgaa", sum := "7d6fb5c1cf86e4f04449fe5b0a13607ed06a7c8fcb8226d05b503849fc0eb0ce", func := "grafter/grafterlaw12.Ranks", spec := "ranks", unfollowed := true, recurses := true, apart := false, narrowed := true }
def RanksUptoSaid : Prop := ranksUptoRow.holds Try.pinned (OpenSpec.upto ranksSpec)

/-- 'grafterlaw12.RankForms', WHERE WHAT IT READS IS OF BULK AT MOST 1048576: true; the input reads as it did. -/
def rankFormsUptoRow : OpenClaim := { program := "ytiekbfjmoemdgaa", sum := "7d6fb5c1cf86e4f04449fe5b0a13607ed06a7c8fcb8226d05b503849fc0eb0ce", func := "grafter/grafterlaw12.RankForms", spec := "rankForms", unfollowed := true, recurses := true, apart := false, narrowed := true }
def RankFormsUptoSaid : Prop := rankFormsUptoRow.holds Try.pinned (OpenSpec.upto rankFormsSpec)

/-- 'grafterlaw12.RankRow', WHERE WHAT IT READS IS OF BULK AT MOST 1048576: true; the input reads as it did. -/
def rankRowUptoRow : OpenClaim := { program := "ytiekbfjmoemdgaa", sum := "7d6fb5c1cf86e4f04449fe5b0a13607ed06a7c8fcb8226d05b503849fc0eb0ce", func := "grafter/grafterlaw12.RankRow", spec := "rankRow", unfollowed := true, recurses := true, apart := false, narrowed := true }
def RankRowUptoSaid : Prop := rankRowUptoRow.holds Try.pinned (OpenSpec.upto rankRowSpec)

/-- 'grafterlaw12.RankTwo', WHERE WHAT IT READS IS OF BULK AT MOST 1048576: true; the input reads as it did. -/
def rankTwoUptoRow : OpenClaim := { program := "ytiekbfjmoemdgaa", sum := "7d6fb5c1cf86e4f04449fe5b0a13607ed06a7c8fcb8226d05b503849fc0eb0ce", func := "grafter/grafterlaw12.RankTwo", spec := "rankTwo", unfollowed := true, recurses := true, apart := false, narrowed := true }
def RankTwoUptoSaid : Prop := rankTwoUptoRow.holds Try.pinned (OpenSpec.upto rankTwoSpec)

/-- 'grafterlaw13.Choices', WHERE WHAT IT READS IS OF BULK AT MOST 1048576: true; the input reads as it did. -/
def choicesUptoRow : OpenClaim := { program := "ytiekbfjmoemdgaa", sum := "7d6fb5c1cf86e4f04449fe5b0a13607ed06a7c8fcb8226d05b503849fc0eb0ce", func := "grafter/grafterlaw13.Choices", spec := "choices", unfollowed := true, recurses := true, apart := false, narrowed := true }
def ChoicesUptoSaid : Prop := choicesUptoRow.holds Try.pinned (OpenSpec.upto choicesSpec)

/-- 'grafterlaw13.ChoiceForms', WHERE WHAT IT READS IS OF BULK AT MOST 1048576: true; the input reads as it did. -/
def choiceFormsUptoRow : OpenClaim := { program := "ytiekbfjmoemdgaa", sum := "7d6fb5c1cf86e4f04449fe5b0a13607ed06a7c8fcb8226d05b503849fc0eb0ce", func := "grafter/grafterlaw13.ChoiceForms", spec := "choiceForms", unfollowed := true, recurses := true, apart := false, narrowed := true }
def ChoiceFormsUptoSaid : Prop := choiceFormsUptoRow.holds Try.pinned (OpenSpec.upto choiceFormsSpec)

/-- 'grafterlaw13.ChoiceRule', WHERE WHAT IT READS IS OF BULK AT MOST 1048576: true; the input reads as it did. -/
def choiceRuleUptoRow : OpenClaim := { program := "ytiekbfjmoemdgaa", sum := "7d6fb5c1cf86e4f04449fe5b0a13607ed06a7c8fcb8226d05b503849fc0eb0ce", func := "grafter/grafterlaw13.ChoiceRule", spec := "choiceRule", unfollowed := true, recurses := true, apart := false, narrowed := true }
def ChoiceRuleUptoSaid : Prop := choiceRuleUptoRow.holds Try.pinned (OpenSpec.upto choiceRuleSpec)

/-- 'grafterlaw13.ChoiceDraws', WHERE WHAT IT READS IS OF BULK AT MOST 1048576: true; the input reads as it did. -/
def choiceDrawsUptoRow : OpenClaim := { program := "ytiekbfjmoemdgaa", sum := "7d6fb5c1cf86e4f04449fe5b0a13607ed06a7c8fcb8226d05b503849fc0eb0ce", func := "grafter/grafterlaw13.ChoiceDraws", spec := "choiceDraws", unfollowed := true, recurses := true, apart := false, narrowed := true }
def ChoiceDrawsUptoSaid : Prop := choiceDrawsUptoRow.holds Try.pinned (OpenSpec.upto choiceDrawsSpec)

/-- 'grafterlaw13.ChoiceBest', WHERE WHAT IT READS IS OF BULK AT MOST 1048576: true; the input reads as it did. -/
def choiceBestUptoRow : OpenClaim := { program := "ytiekbfjmoemdgaa", sum := "7d6fb5c1cf86e4f04449fe5b0a13607ed06a7c8fcb8226d05b503849fc0eb0ce", func := "grafter/grafterlaw13.ChoiceBest", spec := "choiceBest", unfollowed := true, recurses := true, apart := false, narrowed := true }
def ChoiceBestUptoSaid : Prop := choiceBestUptoRow.holds Try.pinned (OpenSpec.upto choiceBestSpec)

end Rows
end Go.Proofs.Ytiekbfjmoemdgaa
