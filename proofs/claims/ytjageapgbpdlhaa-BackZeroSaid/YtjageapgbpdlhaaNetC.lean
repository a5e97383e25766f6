/- Layers 5 and 6: do weights and inputs fit; a net's units. -/
import Derived.Test.YtjageapgbpdlhaaNetB
namespace Go.Proofs.Ytjageapgbpdlhaa.VM
open Go
set_option linter.unusedVariables false
set_option linter.unusedSimpArgs false
attribute [local irreducible] wq wqL wqD wqE wqO Th Bk EndR
set_option maxHeartbeats 8000000

theorem shape_nat {i h : Int} (hs : shapeMay i h = true) : ∃ i' h' : Nat, i = i' ∧ h = h' ∧ 1 ≤ i' ∧ i' ≤ 3 ∧ 1 ≤ h' ∧ h' ≤ 3 := by
  simp [shapeMay, within] at hs
  exact ⟨i.toNat, h.toNat, by omega, by omega, by omega, by omega, by omega, by omega⟩
theorem size_cast (i h : Nat) : ((netSize i h : Nat) : Int) = (h : Int) * ((i : Int) + 1) + h + 1 := by unfold netSize; push_cast; rfl
theorem beq_cast (a b : Nat) : ((a : Int) == (b : Int)) = decide ((a : Int) = (b : Int)) := by
  apply Bool.eq_iff_iff.2; simp

theorem shapeFits_ (H : Heap) (i h : Int) (w : V) (ws : List Int) (hw : Sl 1 intC H w ws) (hl : ws.length ≤ 2 ^ 47) : Call Try.prog 74 [.agg [.int .i64 i, .int .i64 h], w] H (.bool (fits i h ws)) H := by
  refine call_plain fit mixed Try.func74 rfl rfl rfl (by kernel_rfl) rfl ?_
  have hlen := hw.len T24 rfl
  have hw' := hw.mono (List.prefix_append H [.row [.int .i64 i, .int .i64 h] true])
  have c1 := shapeMay_ (H ++ [.row [.int .i64 i, .int .i64 h] true]) i h
  have c3 := vecMay_ (H ++ [.row [.int .i64 i, .int .i64 h] true]) w ws hw' hl
  cases hs : shapeMay i h
  · rw [hs] at c1
    have hfin : fits i h ws = false := by simp [fits, hs]
    repeat (first | refine l_go ?_ | refine d_go ?_ | refine l_onG ?_ | refine l_offG ?_ | refine d_onG ?_ | refine d_offG ?_ | refine wq_seq ?_ | refine wq_line ?_ | refine wq_draw (by decide +kernel) ?_ | refine wq_block ?_ | refine l_nil ?_ | refine d_nil ?_ | refine wq_skip ?_ | refine wq_ret ?_ | refine wq_exit ?_ | refine th_normal ?_ | refine th_ret ?_ | refine th_exit ?_ | refine bk_normal ?_ | refine bk_ret ?_ | refine bk_exit ?_ | refine bk_other rfl ?_)
    refine l_callG c1 ?_
    repeat (first | refine l_go ?_ | refine d_go ?_ | refine l_onG ?_ | refine l_offG ?_ | refine d_onG ?_ | refine d_offG ?_ | refine wq_seq ?_ | refine wq_line ?_ | refine wq_draw (by decide +kernel) ?_ | refine wq_block ?_ | refine l_nil ?_ | refine d_nil ?_ | refine wq_skip ?_ | refine wq_ret ?_ | refine wq_exit ?_ | refine th_normal ?_ | refine th_ret ?_ | refine th_exit ?_ | refine bk_normal ?_ | refine bk_ret ?_ | refine bk_exit ?_ | refine bk_other rfl ?_)
    refine end_ret (by simp only [resRf, resRs, resR]; first | done | rfl) ⟨?_, by first | exact List.prefix_refl _ | exact List.prefix_append _ _ | assumption | (refine List.IsPrefix.trans (by assumption) (List.prefix_append _ _)) | (simp only [List.append_assoc, List.cons_append, List.nil_append, List.set_cons_zero, List.set_cons_succ]; exact ⟨_, by simp only [List.append_assoc, List.cons_append, List.nil_append]; rfl⟩)⟩; simp [put_app, put_none, *]
  · rw [hs] at c1
    obtain ⟨i, h, rfl, rfl, hi1, hi2, hh1, hh2⟩ := shape_nat hs
    have c2 := shapeMany_ (H ++ [.row [.int .i64 i, .int .i64 h] true]) i h hi2 hh2
    have hfin : fits i h ws = (vecMay ws && ((ws.length : Int) == ((netSize i h : Nat) : Int))) := by rw [fits, hs, Bool.true_and, beq_cast, size_cast]
    clear hi1 hi2 hh1 hh2 hl hs
    repeat (first | refine l_go ?_ | refine d_go ?_ | refine l_onG ?_ | refine l_offG ?_ | refine d_onG ?_ | refine d_offG ?_ | refine wq_seq ?_ | refine wq_line ?_ | refine wq_draw (by decide +kernel) ?_ | refine wq_block ?_ | refine l_nil ?_ | refine d_nil ?_ | refine wq_skip ?_ | refine wq_ret ?_ | refine wq_exit ?_ | refine th_normal ?_ | refine th_ret ?_ | refine th_exit ?_ | refine bk_normal ?_ | refine bk_ret ?_ | refine bk_exit ?_ | refine bk_other rfl ?_)
    refine l_callG c1 ?_
    repeat (first | refine l_go ?_ | refine d_go ?_ | refine l_onG ?_ | refine l_offG ?_ | refine d_onG ?_ | refine d_offG ?_ | refine wq_seq ?_ | refine wq_line ?_ | refine wq_draw (by decide +kernel) ?_ | refine wq_block ?_ | refine l_nil ?_ | refine d_nil ?_ | refine wq_skip ?_ | refine wq_ret ?_ | refine wq_exit ?_ | refine th_normal ?_ | refine th_ret ?_ | refine th_exit ?_ | refine bk_normal ?_ | refine bk_ret ?_ | refine bk_exit ?_ | refine bk_other rfl ?_)
    refine l_callG c2 ?_
    repeat (first | refine l_go ?_ | refine d_go ?_ | refine l_onG ?_ | refine l_offG ?_ | refine d_onG ?_ | refine d_offG ?_ | refine wq_seq ?_ | refine wq_line ?_ | refine wq_draw (by decide +kernel) ?_ | refine wq_block ?_ | refine l_nil ?_ | refine d_nil ?_ | refine wq_skip ?_ | refine wq_ret ?_ | refine wq_exit ?_ | refine th_normal ?_ | refine th_ret ?_ | refine th_exit ?_ | refine bk_normal ?_ | refine bk_ret ?_ | refine bk_exit ?_ | refine bk_other rfl ?_)
    first | refine l_partG (fun hb => ?_) (fun hb => ?_) | refine d_partG (fun hb => ?_) (fun hb => ?_)
    · repeat (first | refine l_go ?_ | refine d_go ?_ | refine l_onG ?_ | refine l_offG ?_ | refine d_onG ?_ | refine d_offG ?_ | refine wq_seq ?_ | refine wq_line ?_ | refine wq_draw (by decide +kernel) ?_ | refine wq_block ?_ | refine l_nil ?_ | refine d_nil ?_ | refine wq_skip ?_ | refine wq_ret ?_ | refine wq_exit ?_ | refine th_normal ?_ | refine th_ret ?_ | refine th_exit ?_ | refine bk_normal ?_ | refine bk_ret ?_ | refine bk_exit ?_ | refine bk_other rfl ?_)
      refine l_callG c3 ?_
      repeat (first | refine l_go ?_ | refine d_go ?_ | refine l_onG ?_ | refine l_offG ?_ | refine d_onG ?_ | refine d_offG ?_ | refine wq_seq ?_ | refine wq_line ?_ | refine wq_draw (by decide +kernel) ?_ | refine wq_block ?_ | refine l_nil ?_ | refine d_nil ?_ | refine wq_skip ?_ | refine wq_ret ?_ | refine wq_exit ?_ | refine th_normal ?_ | refine th_ret ?_ | refine th_exit ?_ | refine bk_normal ?_ | refine bk_ret ?_ | refine bk_exit ?_ | refine bk_other rfl ?_)
      refine end_ret (by simp only [resRf, resRs, resR]; first | done | rfl) ⟨?_, by first | exact List.prefix_refl _ | exact List.prefix_append _ _ | assumption | (refine List.IsPrefix.trans (by assumption) (List.prefix_append _ _)) | (simp only [List.append_assoc, List.cons_append, List.nil_append, List.set_cons_zero, List.set_cons_succ]; exact ⟨_, by simp only [List.append_assoc, List.cons_append, List.nil_append]; rfl⟩)⟩
      simp [put_app, put_none, hfin, hb]
    · repeat (first | refine l_go ?_ | refine d_go ?_ | refine l_onG ?_ | refine l_offG ?_ | refine d_onG ?_ | refine d_offG ?_ | refine wq_seq ?_ | refine wq_line ?_ | refine wq_draw (by decide +kernel) ?_ | refine wq_block ?_ | refine l_nil ?_ | refine d_nil ?_ | refine wq_skip ?_ | refine wq_ret ?_ | refine wq_exit ?_ | refine th_normal ?_ | refine th_ret ?_ | refine th_exit ?_ | refine bk_normal ?_ | refine bk_ret ?_ | refine bk_exit ?_ | refine bk_other rfl ?_)
      refine end_ret (by simp only [resRf, resRs, resR]; first | done | rfl) ⟨?_, by first | exact List.prefix_refl _ | exact List.prefix_append _ _ | assumption | (refine List.IsPrefix.trans (by assumption) (List.prefix_append _ _)) | (simp only [List.append_assoc, List.cons_append, List.nil_append, List.set_cons_zero, List.set_cons_succ]; exact ⟨_, by simp only [List.append_assoc, List.cons_append, List.nil_append]; rfl⟩)⟩
      simp [put_app, put_none, hfin, hb]

theorem inputs_ (H : Heap) (i h : Int) (x : V) (xs : List Int) (hx : Sl 1 intC H x xs) (hl : xs.length ≤ 2 ^ 47) : Call Try.prog 75 [.agg [.int .i64 i, .int .i64 h], x] H (.bool (feeds i xs)) H := by
  refine call_plain fit mixed Try.func75 rfl rfl rfl (by kernel_rfl) rfl ?_
  have hlen := hx.len T24 rfl
  have c3 := vecMay_ (H ++ [.row [.int .i64 i, .int .i64 h] true]) x xs (hx.mono (List.prefix_append H [.row [.int .i64 i, .int .i64 h] true])) hl
  have hfin : feeds i xs = (((xs.length : Int) == i) && vecMay xs) := by rw [feeds]; rfl
  clear hl
  repeat (first | refine l_go ?_ | refine d_go ?_ | refine l_onG ?_ | refine l_offG ?_ | refine d_onG ?_ | refine d_offG ?_ | refine wq_seq ?_ | refine wq_line ?_ | refine wq_draw (by decide +kernel) ?_ | refine wq_block ?_ | refine l_nil ?_ | refine d_nil ?_ | refine wq_skip ?_ | refine wq_ret ?_ | refine wq_exit ?_ | refine th_normal ?_ | refine th_ret ?_ | refine th_exit ?_ | refine bk_normal ?_ | refine bk_ret ?_ | refine bk_exit ?_ | refine bk_other rfl ?_)
  first | refine l_partG (fun hb => ?_) (fun hb => ?_) | refine d_partG (fun hb => ?_) (fun hb => ?_)
  · repeat (first | refine l_go ?_ | refine d_go ?_ | refine l_onG ?_ | refine l_offG ?_ | refine d_onG ?_ | refine d_offG ?_ | refine wq_seq ?_ | refine wq_line ?_ | refine wq_draw (by decide +kernel) ?_ | refine wq_block ?_ | refine l_nil ?_ | refine d_nil ?_ | refine wq_skip ?_ | refine wq_ret ?_ | refine wq_exit ?_ | refine th_normal ?_ | refine th_ret ?_ | refine th_exit ?_ | refine bk_normal ?_ | refine bk_ret ?_ | refine bk_exit ?_ | refine bk_other rfl ?_)
    refine l_callG c3 ?_
    repeat (first | refine l_go ?_ | refine d_go ?_ | refine l_onG ?_ | refine l_offG ?_ | refine d_onG ?_ | refine d_offG ?_ | refine wq_seq ?_ | refine wq_line ?_ | refine wq_draw (by decide +kernel) ?_ | refine wq_block ?_ | refine l_nil ?_ | refine d_nil ?_ | refine wq_skip ?_ | refine wq_ret ?_ | refine wq_exit ?_ | refine th_normal ?_ | refine th_ret ?_ | refine th_exit ?_ | refine bk_normal ?_ | refine bk_ret ?_ | refine bk_exit ?_ | refine bk_other rfl ?_)
    refine end_ret (by simp only [resRf, resRs, resR]; first | done | rfl) ⟨?_, by first | exact List.prefix_refl _ | exact List.prefix_append _ _ | assumption | (refine List.IsPrefix.trans (by assumption) (List.prefix_append _ _)) | (simp only [List.append_assoc, List.cons_append, List.nil_append, List.set_cons_zero, List.set_cons_succ]; exact ⟨_, by simp only [List.append_assoc, List.cons_append, List.nil_append]; rfl⟩)⟩
    simp [put_app, put_none, hfin, hb]
  · repeat (first | refine l_go ?_ | refine d_go ?_ | refine l_onG ?_ | refine l_offG ?_ | refine d_onG ?_ | refine d_offG ?_ | refine wq_seq ?_ | refine wq_line ?_ | refine wq_draw (by decide +kernel) ?_ | refine wq_block ?_ | refine l_nil ?_ | refine d_nil ?_ | refine wq_skip ?_ | refine wq_ret ?_ | refine wq_exit ?_ | refine th_normal ?_ | refine th_ret ?_ | refine th_exit ?_ | refine bk_normal ?_ | refine bk_ret ?_ | refine bk_exit ?_ | refine bk_other rfl ?_)
    refine end_ret (by simp only [resRf, resRs, resR]; first | done | rfl) ⟨?_, by first | exact List.prefix_refl _ | exact List.prefix_append _ _ | assumption | (refine List.IsPrefix.trans (by assumption) (List.prefix_append _ _)) | (simp only [List.append_assoc, List.cons_append, List.nil_append, List.set_cons_zero, List.set_cons_succ]; exact ⟨_, by simp only [List.append_assoc, List.cons_append, List.nil_append]; rfl⟩)⟩
    simp [put_app, put_none, hfin, hb]

theorem refFits_ (H : Heap) (i h : Int) (w : V) (ws : List Int) (hw : Sl 1 intC H w ws) (hl : ws.length ≤ 2 ^ 47) : Call Try.prog 51 [.agg [.int .i64 i, .int .i64 h], w] H (.bool (fits i h ws)) H := by
  refine call_plain fit mixed Try.func51 rfl rfl rfl (by kernel_rfl) rfl ?_
  have hlen := hw.len T24 rfl
  have hw' := hw.mono (List.prefix_append H [.row [.int .i64 i, .int .i64 h] true])
  have c1 := refShapeMay_ (H ++ [.row [.int .i64 i, .int .i64 h] true]) i h
  have c3 := refVecMay_ (H ++ [.row [.int .i64 i, .int .i64 h] true]) w ws hw' hl
  cases hs : shapeMay i h
  · rw [hs] at c1
    have hfin : fits i h ws = false := by simp [fits, hs]
    repeat (first | refine l_go ?_ | refine d_go ?_ | refine l_onG ?_ | refine l_offG ?_ | refine d_onG ?_ | refine d_offG ?_ | refine wq_seq ?_ | refine wq_line ?_ | refine wq_draw (by decide +kernel) ?_ | refine wq_block ?_ | refine l_nil ?_ | refine d_nil ?_ | refine wq_skip ?_ | refine wq_ret ?_ | refine wq_exit ?_ | refine th_normal ?_ | refine th_ret ?_ | refine th_exit ?_ | refine bk_normal ?_ | refine bk_ret ?_ | refine bk_exit ?_ | refine bk_other rfl ?_)
    refine l_callG c1 ?_
    repeat (first | refine l_go ?_ | refine d_go ?_ | refine l_onG ?_ | refine l_offG ?_ | refine d_onG ?_ | refine d_offG ?_ | refine wq_seq ?_ | refine wq_line ?_ | refine wq_draw (by decide +kernel) ?_ | refine wq_block ?_ | refine l_nil ?_ | refine d_nil ?_ | refine wq_skip ?_ | refine wq_ret ?_ | refine wq_exit ?_ | refine th_normal ?_ | refine th_ret ?_ | refine th_exit ?_ | refine bk_normal ?_ | refine bk_ret ?_ | refine bk_exit ?_ | refine bk_other rfl ?_)
    refine end_ret (by simp only [resRf, resRs, resR]; first | done | rfl) ⟨?_, by first | exact List.prefix_refl _ | exact List.prefix_append _ _ | assumption | (refine List.IsPrefix.trans (by assumption) (List.prefix_append _ _)) | (simp only [List.append_assoc, List.cons_append, List.nil_append, List.set_cons_zero, List.set_cons_succ]; exact ⟨_, by simp only [List.append_assoc, List.cons_append, List.nil_append]; rfl⟩)⟩; simp [put_app, put_none, *]
  · rw [hs] at c1
    obtain ⟨i, h, rfl, rfl, hi1, hi2, hh1, hh2⟩ := shape_nat hs
    have c2 := refsize_ (H ++ [.row [.int .i64 i, .int .i64 h] true]) i h hi2 hh2
    have hfin : fits i h ws = (vecMay ws && ((ws.length : Int) == ((netSize i h : Nat) : Int))) := by rw [fits, hs, Bool.true_and, beq_cast, size_cast]
    clear hi1 hi2 hh1 hh2 hl hs
    repeat (first | refine l_go ?_ | refine d_go ?_ | refine l_onG ?_ | refine l_offG ?_ | refine d_onG ?_ | refine d_offG ?_ | refine wq_seq ?_ | refine wq_line ?_ | refine wq_draw (by decide +kernel) ?_ | refine wq_block ?_ | refine l_nil ?_ | refine d_nil ?_ | refine wq_skip ?_ | refine wq_ret ?_ | refine wq_exit ?_ | refine th_normal ?_ | refine th_ret ?_ | refine th_exit ?_ | refine bk_normal ?_ | refine bk_ret ?_ | refine bk_exit ?_ | refine bk_other rfl ?_)
    refine l_callG c1 ?_
    repeat (first | refine l_go ?_ | refine d_go ?_ | refine l_onG ?_ | refine l_offG ?_ | refine d_onG ?_ | refine d_offG ?_ | refine wq_seq ?_ | refine wq_line ?_ | refine wq_draw (by decide +kernel) ?_ | refine wq_block ?_ | refine l_nil ?_ | refine d_nil ?_ | refine wq_skip ?_ | refine wq_ret ?_ | refine wq_exit ?_ | refine th_normal ?_ | refine th_ret ?_ | refine th_exit ?_ | refine bk_normal ?_ | refine bk_ret ?_ | refine bk_exit ?_ | refine bk_other rfl ?_)
    refine l_callG c3 ?_
    repeat (first | refine l_go ?_ | refine d_go ?_ | refine l_onG ?_ | refine l_offG ?_ | refine d_onG ?_ | refine d_offG ?_ | refine wq_seq ?_ | refine wq_line ?_ | refine wq_draw (by decide +kernel) ?_ | refine wq_block ?_ | refine l_nil ?_ | refine d_nil ?_ | refine wq_skip ?_ | refine wq_ret ?_ | refine wq_exit ?_ | refine th_normal ?_ | refine th_ret ?_ | refine th_exit ?_ | refine bk_normal ?_ | refine bk_ret ?_ | refine bk_exit ?_ | refine bk_other rfl ?_)
    first | refine l_partG (fun hb => ?_) (fun hb => ?_) | refine d_partG (fun hb => ?_) (fun hb => ?_)
    · repeat (first | refine l_go ?_ | refine d_go ?_ | refine l_onG ?_ | refine l_offG ?_ | refine d_onG ?_ | refine d_offG ?_ | refine wq_seq ?_ | refine wq_line ?_ | refine wq_draw (by decide +kernel) ?_ | refine wq_block ?_ | refine l_nil ?_ | refine d_nil ?_ | refine wq_skip ?_ | refine wq_ret ?_ | refine wq_exit ?_ | refine th_normal ?_ | refine th_ret ?_ | refine th_exit ?_ | refine bk_normal ?_ | refine bk_ret ?_ | refine bk_exit ?_ | refine bk_other rfl ?_)
      refine l_callG c2 ?_
      repeat (first | refine l_go ?_ | refine d_go ?_ | refine l_onG ?_ | refine l_offG ?_ | refine d_onG ?_ | refine d_offG ?_ | refine wq_seq ?_ | refine wq_line ?_ | refine wq_draw (by decide +kernel) ?_ | refine wq_block ?_ | refine l_nil ?_ | refine d_nil ?_ | refine wq_skip ?_ | refine wq_ret ?_ | refine wq_exit ?_ | refine th_normal ?_ | refine th_ret ?_ | refine th_exit ?_ | refine bk_normal ?_ | refine bk_ret ?_ | refine bk_exit ?_ | refine bk_other rfl ?_)
      refine end_ret (by simp only [resRf, resRs, resR]; first | done | rfl) ⟨?_, by first | exact List.prefix_refl _ | exact List.prefix_append _ _ | assumption | (refine List.IsPrefix.trans (by assumption) (List.prefix_append _ _)) | (simp only [List.append_assoc, List.cons_append, List.nil_append, List.set_cons_zero, List.set_cons_succ]; exact ⟨_, by simp only [List.append_assoc, List.cons_append, List.nil_append]; rfl⟩)⟩
      simp [put_app, put_none, hfin, hb]
    · repeat (first | refine l_go ?_ | refine d_go ?_ | refine l_onG ?_ | refine l_offG ?_ | refine d_onG ?_ | refine d_offG ?_ | refine wq_seq ?_ | refine wq_line ?_ | refine wq_draw (by decide +kernel) ?_ | refine wq_block ?_ | refine l_nil ?_ | refine d_nil ?_ | refine wq_skip ?_ | refine wq_ret ?_ | refine wq_exit ?_ | refine th_normal ?_ | refine th_ret ?_ | refine th_exit ?_ | refine bk_normal ?_ | refine bk_ret ?_ | refine bk_exit ?_ | refine bk_other rfl ?_)
      refine end_ret (by simp only [resRf, resRs, resR]; first | done | rfl) ⟨?_, by first | exact List.prefix_refl _ | exact List.prefix_append _ _ | assumption | (refine List.IsPrefix.trans (by assumption) (List.prefix_append _ _)) | (simp only [List.append_assoc, List.cons_append, List.nil_append, List.set_cons_zero, List.set_cons_succ]; exact ⟨_, by simp only [List.append_assoc, List.cons_append, List.nil_append]; rfl⟩)⟩
      simp [put_app, put_none, hfin, hb]

theorem refFeeds_ (H : Heap) (i h : Int) (x : V) (xs : List Int) (hx : Sl 1 intC H x xs) (hl : xs.length ≤ 2 ^ 47) : Call Try.prog 57 [.agg [.int .i64 i, .int .i64 h], x] H (.bool (feeds i xs)) H := by
  refine call_plain fit mixed Try.func57 rfl rfl rfl (by kernel_rfl) rfl ?_
  have hlen := hx.len T24 rfl
  have c3 := refVecMay_ (H ++ [.row [.int .i64 i, .int .i64 h] true]) x xs (hx.mono (List.prefix_append H [.row [.int .i64 i, .int .i64 h] true])) hl
  have hfin : feeds i xs = (((xs.length : Int) == i) && vecMay xs) := by rw [feeds]; rfl
  clear hl
  repeat (first | refine l_go ?_ | refine d_go ?_ | refine l_onG ?_ | refine l_offG ?_ | refine d_onG ?_ | refine d_offG ?_ | refine wq_seq ?_ | refine wq_line ?_ | refine wq_draw (by decide +kernel) ?_ | refine wq_block ?_ | refine l_nil ?_ | refine d_nil ?_ | refine wq_skip ?_ | refine wq_ret ?_ | refine wq_exit ?_ | refine th_normal ?_ | refine th_ret ?_ | refine th_exit ?_ | refine bk_normal ?_ | refine bk_ret ?_ | refine bk_exit ?_ | refine bk_other rfl ?_)
  first | refine l_partG (fun hb => ?_) (fun hb => ?_) | refine d_partG (fun hb => ?_) (fun hb => ?_)
  · repeat (first | refine l_go ?_ | refine d_go ?_ | refine l_onG ?_ | refine l_offG ?_ | refine d_onG ?_ | refine d_offG ?_ | refine wq_seq ?_ | refine wq_line ?_ | refine wq_draw (by decide +kernel) ?_ | refine wq_block ?_ | refine l_nil ?_ | refine d_nil ?_ | refine wq_skip ?_ | refine wq_ret ?_ | refine wq_exit ?_ | refine th_normal ?_ | refine th_ret ?_ | refine th_exit ?_ | refine bk_normal ?_ | refine bk_ret ?_ | refine bk_exit ?_ | refine bk_other rfl ?_)
    refine l_callG c3 ?_
    repeat (first | refine l_go ?_ | refine d_go ?_ | refine l_onG ?_ | refine l_offG ?_ | refine d_onG ?_ | refine d_offG ?_ | refine wq_seq ?_ | refine wq_line ?_ | refine wq_draw (by decide +kernel) ?_ | refine wq_block ?_ | refine l_nil ?_ | refine d_nil ?_ | refine wq_skip ?_ | refine wq_ret ?_ | refine wq_exit ?_ | refine th_normal ?_ | refine th_ret ?_ | refine th_exit ?_ | refine bk_normal ?_ | refine bk_ret ?_ | refine bk_exit ?_ | refine bk_other rfl ?_)
    refine end_ret (by simp only [resRf, resRs, resR]; first | done | rfl) ⟨?_, by first | exact List.prefix_refl _ | exact List.prefix_append _ _ | assumption | (refine List.IsPrefix.trans (by assumption) (List.prefix_append _ _)) | (simp only [List.append_assoc, List.cons_append, List.nil_append, List.set_cons_zero, List.set_cons_succ]; exact ⟨_, by simp only [List.append_assoc, List.cons_append, List.nil_append]; rfl⟩)⟩
    simp [put_app, put_none, hfin, hb]
  · repeat (first | refine l_go ?_ | refine d_go ?_ | refine l_onG ?_ | refine l_offG ?_ | refine d_onG ?_ | refine d_offG ?_ | refine wq_seq ?_ | refine wq_line ?_ | refine wq_draw (by decide +kernel) ?_ | refine wq_block ?_ | refine l_nil ?_ | refine d_nil ?_ | refine wq_skip ?_ | refine wq_ret ?_ | refine wq_exit ?_ | refine th_normal ?_ | refine th_ret ?_ | refine th_exit ?_ | refine bk_normal ?_ | refine bk_ret ?_ | refine bk_exit ?_ | refine bk_other rfl ?_)
    refine end_ret (by simp only [resRf, resRs, resR]; first | done | rfl) ⟨?_, by first | exact List.prefix_refl _ | exact List.prefix_append _ _ | assumption | (refine List.IsPrefix.trans (by assumption) (List.prefix_append _ _)) | (simp only [List.append_assoc, List.cons_append, List.nil_append, List.set_cons_zero, List.set_cons_succ]; exact ⟨_, by simp only [List.append_assoc, List.cons_append, List.nil_append]; rfl⟩)⟩
    simp [put_app, put_none, hfin, hb]

/-- a net lies there -/
structure NetAt (H : Heap) (b : Nat) (i h : Int) (w : V) : Prop where
  a0 : H.loadN b 0 1 = some [.int .i64 i]
  a1 : H.loadN b 1 1 = some [.int .i64 h]
  a2 : H.loadN b 2 1 = some [w]
theorem NetAt.mono {H H' : Heap} {b : Nat} {i h : Int} {w : V} (hp : H <+: H') (n : NetAt H b i h w) : NetAt H' b i h w := ⟨loadN_pre hp n.a0, loadN_pre hp n.a1, loadN_pre hp n.a2⟩
theorem netAt_row {H l : Heap} {i h : Int} {w : V} : NetAt (H ++ (.row [.int .i64 i, .int .i64 h, w] true :: l)) H.length i h w := by
  refine ⟨?_, ?_, ?_⟩ <;> (rw [loadN_app0]; rfl)

theorem new_ (H : Heap) (i h : Int) (w x : V) (ws xs : List Int) (hw : Sl 1 intC H w ws) (hx : Sl 1 intC H x xs) (lw : ws.length ≤ 2 ^ 47) (lx : xs.length ≤ 2 ^ 47) :
    ∃ b H', Call Try.prog 42 [.agg [.int .i64 i, .int .i64 h], w, x] H (.tup [.ptr b 0, .bool (fits i h ws && feeds i xs)]) H' ∧ H <+: H' ∧ NetAt H' b i h w := by
  suffices hh : ∃ u H', (∃ b, u = .tup [.ptr b 0, .bool (fits i h ws && feeds i xs)] ∧ H <+: H' ∧ NetAt H' b i h w) ∧ Call Try.prog 42 [.agg [.int .i64 i, .int .i64 h], w, x] H u H' by
    obtain ⟨u, H', ⟨b, rfl, h1, h2⟩, h3⟩ := hh
    exact ⟨b, H', h3, h1, h2⟩
  refine call_wq fit mixed Try.func42 rfl rfl rfl (by kernel_rfl) ?_
  obtain ⟨H1, hH1⟩ : ∃ H1, H ++ [.row [.int .i64 i, .int .i64 h] true] ++ [.row [.int .i64 i, .int .i64 h, w] true] = H1 := ⟨_, rfl⟩
  have p1 : H <+: H1 := by rw [← hH1, List.append_assoc]; exact List.prefix_append _ _
  have nat : NetAt H1 (H ++ [Blk.row [.int .i64 i, .int .i64 h] true]).length i h w := by rw [← hH1]; exact netAt_row
  have hld : loadV T 23 H1 H.length 0 = some (.agg [.int .i64 i, .int .i64 h]) := by
    refine loadV_agg T23 rfl ?_
    rw [← hH1, List.append_assoc, loadN_app0]; rfl
  have c1 := shapeFits_ H1 i h w ws (hw.mono p1) lw
  have c2 := inputs_ H1 i h x xs (hx.mono p1) lx
  clear lw lx
  rcases hw.two with rfl | ⟨_, _, _, _, _, _, rfl⟩ <;> cases hf : fits i h ws <;> rw [hf] at c1
  all_goals clear hw hx
  all_goals repeat (first | refine l_go ?_ | refine d_go ?_ | refine l_onG ?_ | refine l_offG ?_ | refine d_onG ?_ | refine d_offG ?_ | refine wq_seq ?_ | refine wq_line ?_ | refine wq_draw (by decide +kernel) ?_ | refine wq_block ?_ | refine l_nil ?_ | refine d_nil ?_ | refine wq_skip ?_ | refine wq_ret ?_ | refine wq_exit ?_ | refine th_normal ?_ | refine th_ret ?_ | refine th_exit ?_ | refine bk_normal ?_ | refine bk_ret ?_ | refine bk_exit ?_ | refine bk_other rfl ?_)
  all_goals refine d_heap (h' := H1) hH1 ?_
  all_goals repeat (first | refine l_go ?_ | refine d_go ?_ | refine l_onG ?_ | refine l_offG ?_ | refine d_onG ?_ | refine d_offG ?_ | refine wq_seq ?_ | refine wq_line ?_ | refine wq_draw (by decide +kernel) ?_ | refine wq_block ?_ | refine l_nil ?_ | refine d_nil ?_ | refine wq_skip ?_ | refine wq_ret ?_ | refine wq_exit ?_ | refine th_normal ?_ | refine th_ret ?_ | refine th_exit ?_ | refine bk_normal ?_ | refine bk_ret ?_ | refine bk_exit ?_ | refine bk_other rfl ?_)
  all_goals refine d_call0G c1 ?_
  all_goals repeat (first | refine l_go ?_ | refine d_go ?_ | refine l_onG ?_ | refine l_offG ?_ | refine d_onG ?_ | refine d_offG ?_ | refine wq_seq ?_ | refine wq_line ?_ | refine wq_draw (by decide +kernel) ?_ | refine wq_block ?_ | refine l_nil ?_ | refine d_nil ?_ | refine wq_skip ?_ | refine wq_ret ?_ | refine wq_exit ?_ | refine th_normal ?_ | refine th_ret ?_ | refine th_exit ?_ | refine bk_normal ?_ | refine bk_ret ?_ | refine bk_exit ?_ | refine bk_other rfl ?_)
  all_goals try refine d_call0G c2 ?_
  all_goals repeat (first | refine l_go ?_ | refine d_go ?_ | refine l_onG ?_ | refine l_offG ?_ | refine d_onG ?_ | refine d_offG ?_ | refine wq_seq ?_ | refine wq_line ?_ | refine wq_draw (by decide +kernel) ?_ | refine wq_block ?_ | refine l_nil ?_ | refine d_nil ?_ | refine wq_skip ?_ | refine wq_ret ?_ | refine wq_exit ?_ | refine th_normal ?_ | refine th_ret ?_ | refine th_exit ?_ | refine bk_normal ?_ | refine bk_ret ?_ | refine bk_exit ?_ | refine bk_other rfl ?_)
  all_goals refine end_ret (by simp only [resRf, resRs, resR]; first | done | rfl) ⟨_, ?_, p1, nat⟩
  all_goals simp [put_app, put_none]
end Go.Proofs.Ytjageapgbpdlhaa.VM
