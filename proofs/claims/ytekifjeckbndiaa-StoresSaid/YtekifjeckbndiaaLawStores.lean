/- The law grafterlaw15.Stores answers true whatever its input is, and its input reads as it did. -/
import Derived.Test.YtekifjeckbndiaaJS9
import Derived.Test.YtekifjeckbndiaaRows
import Derived.WalkKit
import Derived.ProofKit
import Derived.OpenShut
import Derived.JoinedCond
import Derived.SizedLaws
namespace Go.Proofs.Ytekifjeckbndiaa.stores
open Go Go.ChangeShapes Go.WideShapes Go.ChangeAt Go.RowKit Go.Proofs.Ytekifjeckbndiaa.VM
set_option linter.unusedVariables false
theorem own : ownKnob Try.prog.godebug = none := by kernel_rfl
theorem laidOut : laidOutB Try.prog = true := by kernel_rfl
theorem reads : ∀ t ∈ Try.f8.params.toList, readable T 12 t = true ∧ Try.prog.readableRec t = true ∧ t < Try.prog.types.size := of_decide_eq_true (by kernel_rfl)
theorem true_ : TrueSpec Rows.storesSpec Try.f8.params.size := ⟨rfl, fun D ds hl => by
  replace hl : ds.length = 3 := hl
  match ds, hl with
  | [d0, d1, d2], _ => exact ⟨rfl, rfl, rfl⟩⟩
set_option maxRecDepth 100000 in
theorem lifted (os : Os) (started : os.Started) (H : Type) (enc : TypeId × Value → H) :
    ReturnsInHanded {} Try.checked os 8 .any (Rows.storesSpec.pre6 enc Try.prog Try.f8 Rows.storesRow.domain false) (Rows.storesSpec.post enc Try.prog Try.f8 false true false false) := by
  refine returnsInHanded_of_change_sized (C := Try.checked) own started (by kernel_rfl) Try.func8
    (ChangeSpec.witness6 (enc := enc) (C := Try.checked) false ⟨#[], #[.slice none 0 0, .string ByteArray.empty, .int .i64 0], []⟩ 8 (by kernel_rfl) (by kernel_rfl) (by kernel_rfl) (by kernel_rfl)) ?_
  intro W base args ds gs before hval hW _ hsz _
  exact law_contract fit laidOut (n := 12) (rt := 4) rfl Try.underlying4 reads true_ hval hW hsz fun K vs ro h => VM.law_stores K vs ds ro h
theorem over : Rows.storesRow.holds Try.pinned (OpenSpec.ofChange Rows.storesSpec) :=
  OpenClaim.holds_of_wide 8 Try.f8 rfl rfl rfl rfl rfl rfl rfl ⟨rfl, rfl, rfl, rfl, rfl⟩ rfl rfl rfl rfl rfl (by kernel_rfl) Try.func8 (by kernel_rfl)
    (of_decide_eq_true (by kernel_rfl)) (by unfold Func.isWrapper; first | (rw [if_pos (by decide +kernel)]; kernel_rfl) | (rw [if_neg (by decide +kernel)]; exact ⟨rfl, rfl⟩))
    (fun os started H enc _ => lifted os started H enc)
theorem proved : Rows.StoresSaid := over
end Go.Proofs.Ytekifjeckbndiaa.stores
namespace Go.Proofs.Ytekifjeckbndiaa
/-- The row, under a short name, for the claim. -/
theorem stores_holds : Rows.StoresSaid := stores.proved
#print axioms stores_holds
end Go.Proofs.Ytekifjeckbndiaa
