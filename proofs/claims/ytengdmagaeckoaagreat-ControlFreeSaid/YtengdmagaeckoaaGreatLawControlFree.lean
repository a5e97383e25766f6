/- The law grafterlaw22.ControlFree answers true whatever its input is, and its input reads as it did. -/
import Derived.Test.YtengdmagaeckoaaGreatJL11
import Derived.Test.YtengdmagaeckoaaGreatRows
import Derived.WalkKit
import Derived.ProofKit
import Derived.OpenShut
import Derived.JoinedCond
import Derived.SizedLaws
namespace Go.Proofs.YtengdmagaeckoaaGreat.controlFree
open Go Go.ChangeShapes Go.WideShapes Go.ChangeAt Go.RowKit Go.Proofs.YtengdmagaeckoaaGreat.VM
set_option linter.unusedVariables false
theorem own : ownKnob Tryz.prog.godebug = none := by kernel_rfl
theorem laidOut : laidOutB Tryz.prog = true := by kernel_rfl
theorem reads : ∀ t ∈ Tryz.f9.params.toList, readable T 12 t = true ∧ Tryz.prog.readableRec t = true ∧ t < Tryz.prog.types.size := of_decide_eq_true (by kernel_rfl)
theorem true_ : TrueSpec Rows.controlFreeSpec Tryz.f9.params.size := ⟨rfl, fun D ds hl => by
  replace hl : ds.length = 2 := hl
  match ds, hl with
  | [d0, d1], _ => exact ⟨rfl, rfl, rfl⟩⟩
set_option maxRecDepth 100000 in
theorem lifted (os : Os) (started : os.Started) (H : Type) (enc : TypeId × Value → H) :
    ReturnsInHanded {} Tryz.checked os 9 .any (Rows.controlFreeSpec.pre6 enc Tryz.prog Tryz.f9 Rows.controlFreeRow.domain false) (Rows.controlFreeSpec.post enc Tryz.prog Tryz.f9 false true false false) := by
  refine returnsInHanded_of_change_sized (C := Tryz.checked) own started (by kernel_rfl) Tryz.func9
    (ChangeSpec.witness6 (enc := enc) (C := Tryz.checked) false ⟨#[], #[.agg #[.int .i64 0, .int .i64 0, .int .i64 0, .slice none 0 0, .int .i64 0, .int .i64 0, .int .i64 0, .int .i64 0, .bool false, .slice none 0 0, .slice none 0 0, .slice none 0 0], .int .i64 0], []⟩ 8 (by kernel_rfl) (by kernel_rfl) (by kernel_rfl) (by kernel_rfl)) ?_
  intro W base args ds gs before hval hW _ hsz _
  exact law_contract fit laidOut (n := 12) (rt := 4) rfl Tryz.underlying4 reads true_ hval hW hsz fun K vs ro h => VM.law_controlFree K vs ds ro h
theorem over : Rows.controlFreeRow.holds Tryz.pinned (OpenSpec.ofChange Rows.controlFreeSpec) :=
  OpenClaim.holds_of_wide 9 Tryz.f9 rfl rfl rfl rfl rfl rfl rfl ⟨rfl, rfl, rfl, rfl, rfl⟩ rfl rfl rfl rfl rfl (by kernel_rfl) Tryz.func9 (by kernel_rfl)
    (of_decide_eq_true (by kernel_rfl)) (by unfold Func.isWrapper; first | (rw [if_pos (by decide +kernel)]; kernel_rfl) | (rw [if_neg (by decide +kernel)]; exact ⟨rfl, rfl⟩))
    (fun os started H enc _ => lifted os started H enc)
theorem proved : Rows.ControlFreeSaid := over
end Go.Proofs.YtengdmagaeckoaaGreat.controlFree
namespace Go.Proofs.YtengdmagaeckoaaGreat
/-- The row, under a short name, for the claim. -/
theorem controlFree_holds : Rows.ControlFreeSaid := controlFree.proved
#print axioms controlFree_holds
end Go.Proofs.YtengdmagaeckoaaGreat
