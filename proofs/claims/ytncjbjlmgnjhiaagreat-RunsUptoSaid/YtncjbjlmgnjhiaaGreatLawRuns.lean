import Derived.Test.YtncjbjlmgnjhiaaGreatJCRunRuns
import Derived.Deep.CondSized
import Derived.Test.YtncjbjlmgnjhiaaGreatOver
set_option linter.unusedVariables false
namespace Go.Proofs.YtncjbjlmgnjhiaaGreat.runs
open Go Go.ChangeShapes Go.WideShapes Go.ChangeAt Go.RowKit Go.Proofs.YtncjbjlmgnjhiaaGreat.VM
theorem own : ownKnob Tryz.prog.godebug = none := by kernel_rfl
theorem laidOut : laidOutB Tryz.prog = true := by kernel_rfl
theorem reads : ∀ t ∈ Tryz.f3.params.toList, readable T 12 t = true ∧ Tryz.prog.readableRec t = true ∧ t < Tryz.prog.types.size := of_decide_eq_true (by kernel_rfl)
theorem true_ : Xx Rows.runsSpec Tryz.f3.params.size := ⟨rfl, fun D ds hl => by
  replace hl : ds.length = 4 := hl
  match ds, hl with
  | [d0, d1, d2, d3], _ => exact ⟨rfl, rfl, rfl⟩⟩
variable {D : Type}
theorem one (d : DataW D) : 1 ≤ Rows.uptoBulk d := by
 cases d with
 | lit l => cases l <;> simp [Rows.uptoBulk]
 | _ => simp [Rows.uptoBulk]
theorem len : ∀ l : List (DataW D), l.length ≤ Rows.uptoBulkAll l
 | [] => Nat.zero_le _
 | d :: r => by have := one d; have := len r; simp only [Rows.uptoBulkAll, List.length_cons]; omega
theorem most : ∀ (l : List (DataW D)) d, d ∈ l → slen d ≤ Rows.uptoBulkAll l
 | x :: r, d, h => by
  simp only [Rows.uptoBulkAll]
  cases List.mem_cons.1 h with
  | inl e =>
   subst e
   cases d with
   | slice a b => have := len a; simp only [Rows.uptoBulk, slen]; omega
   | _ => exact Nat.zero_le _
  | inr e => have := most r d e; omega
set_option maxRecDepth 100000 in
theorem lifted (os : Os) (started : os.Started) (H : Type) (enc : TypeId × Value → H) (F : Stop.Interp) :
    ReturnsInHanded {} Tryz.checked os 3 .any ((Rows.OpenSpec.upto Rows.runsSpec).pre6 enc Tryz.prog Tryz.f3 Rows.runsUptoRow.domain false) (((Rows.OpenSpec.upto Rows.runsSpec).at F).post enc Tryz.prog Tryz.f3 false true false false) := by
  refine returnsInHanded_of_cond_sized (C := Tryz.checked) (s := Rows.OpenSpec.upto Rows.runsSpec) (k := Rows.uptoSmall) rfl own started (by kernel_rfl) Tryz.func3
    (OpenSpec.witness (enc := enc) (C := Tryz.checked) (s := Rows.OpenSpec.upto Rows.runsSpec) (k := Rows.uptoSmall) rfl false ⟨#[], #[.agg #[.int .i64 0, .int .i64 0, .int .i64 0, .slice none 0 0, .int .i64 0, .int .i64 0, .int .i64 0, .int .i64 0, .bool false], .slice none 0 0, .string ByteArray.empty, .agg #[.int .i64 0, .int .i64 0, .int .i64 0, .slice none 0 0, .int .i64 0, .int .i64 0, .int .i64 0, .int .i64 0, .bool false, .slice none 0 0, .slice none 0 0, .slice none 0 0]], []⟩ 8 (by kernel_rfl) (by kernel_rfl) (by kernel_rfl)
      (x := ([.agg [.lit (.int .i64 0), .agg [.lit (.int .i64 0), .lit (.int .i64 0)], .nil, .lit (.int .i64 0), .lit (.int .i64 0), .lit (.int .i64 0), .lit (.int .i64 0), .lit (.bool false)], .nil, .lit (.string []), .agg [.agg [.lit (.int .i64 0), .agg [.lit (.int .i64 0), .lit (.int .i64 0)], .nil, .lit (.int .i64 0), .lit (.int .i64 0), .lit (.int .i64 0), .lit (.int .i64 0), .lit (.bool false)], .nil, .nil, .nil]], [], [])) (by kernel_rfl) rfl (by kernel_rfl)) ?_
  intro W base args ds gs before hval hW _ hk hsz _
  have hb := of_decide_eq_true hk
  exact law_contract fit laidOut (n := 12) (rt := 4) rfl Tryz.underlying4 reads true_ hval hW hsz fun K vs ro h => VM.law_runs K vs ds (fun d hd => Nat.le_trans (most _ d (List.mem_append_left gs hd)) hb) ro h
set_option maxHeartbeats 8000000 in
theorem joined : joinedFacts Tryz.pinned.checked.prog 3 Tryz.f3 (Rows.OpenSpec.upto Rows.runsSpec).bare Rows.runsUptoRow = true := by
  unfold joinedFacts
  simp only [Bool.and_eq_true]
  refine ⟨⟨⟨⟨⟨⟨⟨⟨⟨⟨⟨⟨⟨⟨⟨⟨⟨⟨⟨⟨⟨⟨⟨⟨⟨⟨⟨⟨⟨⟨⟨?_, ?_⟩, ?_⟩, ?_⟩, ?_⟩, ?_⟩, ?_⟩, ?_⟩, ?_⟩, ?_⟩, ?_⟩, ?_⟩, ?_⟩, ?_⟩, ?_⟩, ?_⟩, ?_⟩, ?_⟩, ?_⟩, ?_⟩, ?_⟩, ?_⟩, ?_⟩, ?_⟩, ?_⟩, ?_⟩, ?_⟩, ?_⟩, ?_⟩, ?_⟩, ?_⟩, ?_⟩
  rotate_left 1
  exact Over.laid_
  exact Over.rowed_
  rotate_left 21
  exact Over.heard_
  exact Over.mayEnter_
  rw [Over.lifts_]; decide +kernel
  rw [Over.make_]; decide +kernel
  all_goals decide +kernel
theorem over : Rows.runsUptoRow.holds Tryz.pinned (Rows.OpenSpec.upto Rows.runsSpec) :=
  OpenClaim.holds_of_cond 3 Tryz.f3 rfl rfl rfl rfl rfl rfl rfl ⟨rfl, rfl, rfl, rfl, rfl⟩ rfl rfl rfl rfl rfl (by kernel_rfl) Tryz.func3 joined
    (of_decide_eq_true (by kernel_rfl)) (by unfold Func.isWrapper; first | (rw [if_pos (by decide +kernel)]; kernel_rfl) | (rw [if_neg (by decide +kernel)]; exact ⟨rfl, rfl⟩))
    (fun os started H enc _ F => lifted os started H enc F)
theorem proved : Rows.RunsUptoSaid := over
end Go.Proofs.YtncjbjlmgnjhiaaGreat.runs
namespace Go.Proofs.YtncjbjlmgnjhiaaGreat
/-- The row, under a short name, for the claim. -/
theorem runs_holds : Rows.RunsUptoSaid := runs.proved
#print axioms runs_holds
end Go.Proofs.YtncjbjlmgnjhiaaGreat
