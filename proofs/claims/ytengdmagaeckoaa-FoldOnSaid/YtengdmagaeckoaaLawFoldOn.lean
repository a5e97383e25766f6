/- The law grafterlaw24.FoldOn answers true whatever its input is, and its input reads as it did. -/
import Derived.Test.YtengdmagaeckoaaJF9
import Derived.Test.YtengdmagaeckoaaRows
import Derived.WalkKit
import Derived.ProofKit
import Derived.OpenShut
import Derived.JoinedCond
import Derived.SizedLaws
namespace Go.Proofs.Ytengdmagaeckoaa.foldOn
open Go Go.ChangeShapes Go.WideShapes Go.ChangeAt Go.RowKit Go.Proofs.Ytengdmagaeckoaa.VM
set_option linter.unusedVariables false
theorem own : ownKnob Try.prog.godebug = none := by kernel_rfl
theorem laidOut : laidOutB Try.prog = true := by kernel_rfl
theorem reads : ∀ t ∈ Try.f5.params.toList, readable T 12 t = true ∧ Try.prog.readableRec t = true ∧ t < Try.prog.types.size := of_decide_eq_true (by kernel_rfl)
theorem true_ : TrueSpec Rows.foldOnSpec Try.f5.params.size := ⟨rfl, fun D ds hl => by
  replace hl : ds.length = 3 := hl
  match ds, hl with
  | [d0, d1, d2], _ => exact ⟨rfl, rfl, rfl⟩⟩
set_option maxRecDepth 100000 in
theorem lifted (os : Os) (started : os.Started) (H : Type) (enc : TypeId × Value → H) :
    ReturnsInHanded {} Try.checked os 5 .any (Rows.foldOnSpec.pre6 enc Try.prog Try.f5 Rows.foldOnRow.domain false) (Rows.foldOnSpec.post enc Try.prog Try.f5 false true false false) := by
  refine returnsInHanded_of_change_sized (C := Try.checked) own started (by kernel_rfl) Try.func5
    (ChangeSpec.witness6 (enc := enc) (C := Try.checked) false ⟨#[], #[.agg #[.int .i64 0, .int .i64 0, .int .i64 0, .slice none 0 0, .int .i64 0, .int .i64 0, .int .i64 0, .int .i64 0, .bool false], .slice none 0 0, .int .i64 0], []⟩ 8 (by kernel_rfl) (by kernel_rfl) (by kernel_rfl) (by kernel_rfl)) ?_
  intro W base args ds gs before hval hW _ hsz _
  exact law_contract fit laidOut (n := 12) (rt := 4) rfl Try.underlying4 reads true_ hval hW hsz fun K vs ro h => VM.law_foldOn K vs ds ro h
theorem over : Rows.foldOnRow.holds Try.pinned (OpenSpec.ofChange Rows.foldOnSpec) :=
  OpenClaim.holds_of_wide 5 Try.f5 rfl rfl rfl rfl rfl rfl rfl ⟨rfl, rfl, rfl, rfl, rfl⟩ rfl rfl rfl rfl rfl (by kernel_rfl) Try.func5 (by kernel_rfl)
    (of_decide_eq_true (by kernel_rfl)) (by unfold Func.isWrapper; first | (rw [if_pos (by decide +kernel)]; kernel_rfl) | (rw [if_neg (by decide +kernel)]; exact ⟨rfl, rfl⟩))
    (fun os started H enc _ => lifted os started H enc)
theorem proved : Rows.FoldOnSaid := over
end Go.Proofs.Ytengdmagaeckoaa.foldOn
namespace Go.Proofs.Ytengdmagaeckoaa
/-- The row, under a short name, for the claim. -/
theorem foldOn_holds : Rows.FoldOnSaid := foldOn.proved
#print axioms foldOn_holds
end Go.Proofs.Ytengdmagaeckoaa
