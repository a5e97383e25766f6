/- The law grafterlaw15.StoreCounts answers true whatever its input is, and its input reads as it did. -/
import Derived.Test.YtekifjeckbndiaaJS9
import Derived.Test.YtekifjeckbndiaaRows
import Derived.WalkKit
import Derived.ProofKit
import Derived.OpenShut
import Derived.JoinedCond
import Derived.SizedLaws
namespace Go.Proofs.Ytekifjeckbndiaa.storeCounts
open Go Go.ChangeShapes Go.WideShapes Go.ChangeAt Go.RowKit Go.Proofs.Ytekifjeckbndiaa.VM
set_option linter.unusedVariables false
theorem own : ownKnob Try.prog.godebug = none := by kernel_rfl
theorem laidOut : laidOutB Try.prog = true := by kernel_rfl
theorem reads : ∀ t ∈ Try.f10.params.toList, readable T 12 t = true ∧ Try.prog.readableRec t = true ∧ t < Try.prog.types.size := of_decide_eq_true (by kernel_rfl)
theorem true_ : TrueSpec Rows.storeCountsSpec Try.f10.params.size := ⟨rfl, fun D ds hl => by
  replace hl : ds.length = 1 := hl
  match ds, hl with
  | [d0], _ => exact ⟨rfl, rfl, rfl⟩⟩
set_option maxRecDepth 100000 in
theorem lifted (os : Os) (started : os.Started) (H : Type) (enc : TypeId × Value → H) :
    ReturnsInHanded {} Try.checked os 10 .any (Rows.storeCountsSpec.pre6 enc Try.prog Try.f10 Rows.storeCountsRow.domain false) (Rows.storeCountsSpec.post enc Try.prog Try.f10 false true false false) := by
  refine returnsInHanded_of_change_sized (C := Try.checked) own started (by kernel_rfl) Try.func10
    (ChangeSpec.witness6 (enc := enc) (C := Try.checked) false ⟨#[], #[.slice none 0 0], []⟩ 8 (by kernel_rfl) (by kernel_rfl) (by kernel_rfl) (by kernel_rfl)) ?_
  intro W base args ds gs before hval hW _ hsz _
  exact law_contract fit laidOut (n := 12) (rt := 4) rfl Try.underlying4 reads true_ hval hW hsz fun K vs ro h => VM.law_storeCounts K vs ds ro h
theorem over : Rows.storeCountsRow.holds Try.pinned (OpenSpec.ofChange Rows.storeCountsSpec) :=
  OpenClaim.holds_of_wide 10 Try.f10 rfl rfl rfl rfl rfl rfl rfl ⟨rfl, rfl, rfl, rfl, rfl⟩ rfl rfl rfl rfl rfl (by kernel_rfl) Try.func10 (by kernel_rfl)
    (of_decide_eq_true (by kernel_rfl)) (by unfold Func.isWrapper; first | (rw [if_pos (by decide +kernel)]; kernel_rfl) | (rw [if_neg (by decide +kernel)]; exact ⟨rfl, rfl⟩))
    (fun os started H enc _ => lifted os started H enc)
theorem proved : Rows.StoreCountsSaid := over
end Go.Proofs.Ytekifjeckbndiaa.storeCounts
namespace Go.Proofs.Ytekifjeckbndiaa
/-- The row, under a short name, for the claim. -/
theorem storeCounts_holds : Rows.StoreCountsSaid := storeCounts.proved
#print axioms storeCounts_holds
end Go.Proofs.Ytekifjeckbndiaa
