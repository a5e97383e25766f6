/- Layers 1, 2, 5: numbers, activation, shapes: the program's functions and the document's. -/
import Derived.Test.YtjageapgbpdlhaaNum
import Derived.Test.YtjageapgbpdlhaaTab
namespace Go.Proofs.Ytjageapgbpdlhaa.VM
open Go
set_option linter.unusedVariables false
set_option linter.unusedSimpArgs false
attribute [local irreducible] wq wqL wqD wqE wqO Th Bk EndR
set_option maxHeartbeats 8000000

theorem fixMay_ (H : Heap) (x : Int) : Call Try.prog 43 [.int .i64 x] H (.bool (fixMay x)) H := by
  refine call_plain fit mixed Try.func43 rfl rfl rfl (by kernel_rfl) rfl ?_
  repeat' (first | refine l_go ?_ | refine d_go ?_ | refine l_onG ?_ | refine l_offG ?_ | refine d_onG ?_ | refine d_offG ?_ | refine wq_seq ?_ | refine wq_line ?_ | refine wq_draw (by decide +kernel) ?_ | refine wq_block ?_ | refine l_nil ?_ | refine d_nil ?_ | refine wq_skip ?_ | refine wq_ret ?_ | refine wq_exit ?_ | refine th_normal ?_ | refine th_ret ?_ | refine th_exit ?_ | refine bk_normal ?_ | refine bk_ret ?_ | refine bk_exit ?_ | refine bk_other rfl ?_ | first | refine l_partG (fun hb => ?_) (fun hb => ?_) | refine d_partG (fun hb => ?_) (fun hb => ?_))
  all_goals refine end_ret (by simp only [resRf, resRs, resR]; first | done | rfl) ⟨?_, by first | exact List.prefix_refl _ | exact List.prefix_append _ _ | assumption | (refine List.IsPrefix.trans (by assumption) (List.prefix_append _ _)) | (simp only [List.append_assoc, List.cons_append, List.nil_append, List.set_cons_zero, List.set_cons_succ]; exact ⟨_, by simp only [List.append_assoc, List.cons_append, List.nil_append]; rfl⟩)⟩; simp [put_app, put_none, *]
  all_goals simp_all [within]
  all_goals (first | done | omega)

theorem clip_min (x a b : Int) (h : a ≤ b) : (if (if x > a then x else a) < b then (if x > a then x else a) else b) = clip x a b := by
  unfold clip; split <;> split <;> (try split) <;> omega
theorem clip_max (x a b : Int) (h : a ≤ b) : (if (if x < b then x else b) > a then (if x < b then x else b) else a) = clip x a b := by
  unfold clip; split <;> split <;> (try split) <;> omega

theorem fixCut_ (H : Heap) (x : Int) : Call Try.prog 78 [.int .i64 x] H (.int .i64 (cut x)) H := by
  refine call_plain fit mixed Try.func78 rfl rfl rfl (by kernel_rfl) rfl ?_
  repeat (first | refine l_go ?_ | refine d_go ?_ | refine l_onG ?_ | refine l_offG ?_ | refine d_onG ?_ | refine d_offG ?_ | refine wq_seq ?_ | refine wq_line ?_ | refine wq_draw (by decide +kernel) ?_ | refine wq_block ?_ | refine l_nil ?_ | refine d_nil ?_ | refine wq_skip ?_ | refine wq_ret ?_ | refine wq_exit ?_ | refine th_normal ?_ | refine th_ret ?_ | refine th_exit ?_ | refine bk_normal ?_ | refine bk_ret ?_ | refine bk_exit ?_ | refine bk_other rfl ?_)
  refine end_ret (by simp only [resRf, resRs, resR]; first | done | rfl) ⟨?_, by first | exact List.prefix_refl _ | exact List.prefix_append _ _ | assumption | (refine List.IsPrefix.trans (by assumption) (List.prefix_append _ _)) | (simp only [List.append_assoc, List.cons_append, List.nil_append, List.set_cons_zero, List.set_cons_succ]; exact ⟨_, by simp only [List.append_assoc, List.cons_append, List.nil_append]; rfl⟩)⟩
  simp only [put_app, put_none]
  simp only [Nat.reduceEqDiff, reduceIte, Option.some.injEq, reduceCtorEq]
  rw [clip_min x _ _ (by decide)]
  rfl

theorem fixTimes_ (H : Heap) (a b : Int) : Call Try.prog 48 [.int .i64 a, .int .i64 b] H (.int .i64 (times a b)) H := by
  refine call_plain fit mixed Try.func48 rfl rfl rfl (by kernel_rfl) rfl ?_
  repeat (first | refine l_go ?_ | refine d_go ?_ | refine l_onG ?_ | refine l_offG ?_ | refine d_onG ?_ | refine d_offG ?_ | refine wq_seq ?_ | refine wq_line ?_ | refine wq_draw (by decide +kernel) ?_ | refine wq_block ?_ | refine l_nil ?_ | refine d_nil ?_ | refine wq_skip ?_ | refine wq_ret ?_ | refine wq_exit ?_ | refine th_normal ?_ | refine th_ret ?_ | refine th_exit ?_ | refine bk_normal ?_ | refine bk_ret ?_ | refine bk_exit ?_ | refine bk_other rfl ?_)
  refine l_callG (fixCut_ _ _) ?_
  repeat (first | refine l_go ?_ | refine d_go ?_ | refine l_onG ?_ | refine l_offG ?_ | refine d_onG ?_ | refine d_offG ?_ | refine wq_seq ?_ | refine wq_line ?_ | refine wq_draw (by decide +kernel) ?_ | refine wq_block ?_ | refine l_nil ?_ | refine d_nil ?_ | refine wq_skip ?_ | refine wq_ret ?_ | refine wq_exit ?_ | refine th_normal ?_ | refine th_ret ?_ | refine th_exit ?_ | refine bk_normal ?_ | refine bk_ret ?_ | refine bk_exit ?_ | refine bk_other rfl ?_)
  refine end_ret (by simp only [resRf, resRs, resR]; first | done | rfl) ⟨?_, by first | exact List.prefix_refl _ | exact List.prefix_append _ _ | assumption | (refine List.IsPrefix.trans (by assumption) (List.prefix_append _ _)) | (simp only [List.append_assoc, List.cons_append, List.nil_append, List.set_cons_zero, List.set_cons_succ]; exact ⟨_, by simp only [List.append_assoc, List.cons_append, List.nil_append]; rfl⟩)⟩
  simp [put_app, put_none, times]
  rfl

theorem fixAnd_ (H : Heap) (a b : Int) : Call Try.prog 45 [.int .i64 a, .int .i64 b] H (.int .i64 (plus a b)) H := by
  refine call_plain fit mixed Try.func45 rfl rfl rfl (by kernel_rfl) rfl ?_
  repeat (first | refine l_go ?_ | refine d_go ?_ | refine l_onG ?_ | refine l_offG ?_ | refine d_onG ?_ | refine d_offG ?_ | refine wq_seq ?_ | refine wq_line ?_ | refine wq_draw (by decide +kernel) ?_ | refine wq_block ?_ | refine l_nil ?_ | refine d_nil ?_ | refine wq_skip ?_ | refine wq_ret ?_ | refine wq_exit ?_ | refine th_normal ?_ | refine th_ret ?_ | refine th_exit ?_ | refine bk_normal ?_ | refine bk_ret ?_ | refine bk_exit ?_ | refine bk_other rfl ?_)
  refine l_callG (fixCut_ _ _) ?_
  repeat (first | refine l_go ?_ | refine d_go ?_ | refine l_onG ?_ | refine l_offG ?_ | refine d_onG ?_ | refine d_offG ?_ | refine wq_seq ?_ | refine wq_line ?_ | refine wq_draw (by decide +kernel) ?_ | refine wq_block ?_ | refine l_nil ?_ | refine d_nil ?_ | refine wq_skip ?_ | refine wq_ret ?_ | refine wq_exit ?_ | refine th_normal ?_ | refine th_ret ?_ | refine th_exit ?_ | refine bk_normal ?_ | refine bk_ret ?_ | refine bk_exit ?_ | refine bk_other rfl ?_)
  refine end_ret (by simp only [resRf, resRs, resR]; first | done | rfl) ⟨?_, by first | exact List.prefix_refl _ | exact List.prefix_append _ _ | assumption | (refine List.IsPrefix.trans (by assumption) (List.prefix_append _ _)) | (simp only [List.append_assoc, List.cons_append, List.nil_append, List.set_cons_zero, List.set_cons_succ]; exact ⟨_, by simp only [List.append_assoc, List.cons_append, List.nil_append]; rfl⟩)⟩
  simp [put_app, put_none, plus]

theorem actHard_ (H : Heap) (x : Int) : Call Try.prog 79 [.int .i64 x] H (.int .i64 (hard x)) H := by
  refine call_plain fit mixed Try.func79 rfl rfl rfl (by kernel_rfl) rfl ?_
  repeat (first | refine l_go ?_ | refine d_go ?_ | refine l_onG ?_ | refine l_offG ?_ | refine d_onG ?_ | refine d_offG ?_ | refine wq_seq ?_ | refine wq_line ?_ | refine wq_draw (by decide +kernel) ?_ | refine wq_block ?_ | refine l_nil ?_ | refine d_nil ?_ | refine wq_skip ?_ | refine wq_ret ?_ | refine wq_exit ?_ | refine th_normal ?_ | refine th_ret ?_ | refine th_exit ?_ | refine bk_normal ?_ | refine bk_ret ?_ | refine bk_exit ?_ | refine bk_other rfl ?_)
  refine end_ret (by simp only [resRf, resRs, resR]; first | done | rfl) ⟨?_, by first | exact List.prefix_refl _ | exact List.prefix_append _ _ | assumption | (refine List.IsPrefix.trans (by assumption) (List.prefix_append _ _)) | (simp only [List.append_assoc, List.cons_append, List.nil_append, List.set_cons_zero, List.set_cons_succ]; exact ⟨_, by simp only [List.append_assoc, List.cons_append, List.nil_append]; rfl⟩)⟩
  simp only [put_app, put_none]
  simp only [Nat.reduceEqDiff, reduceIte, Option.some.injEq, reduceCtorEq]
  rw [clip_min x _ _ (by decide)]
  rfl

theorem actRise_ (H : Heap) (x : Int) : Call Try.prog 49 [.int .i64 x] H (.int .i64 (rise x)) H := by
  refine call_plain fit mixed Try.func49 rfl rfl rfl (by kernel_rfl) rfl ?_
  repeat' (first | refine l_go ?_ | refine d_go ?_ | refine l_onG ?_ | refine l_offG ?_ | refine d_onG ?_ | refine d_offG ?_ | refine wq_seq ?_ | refine wq_line ?_ | refine wq_draw (by decide +kernel) ?_ | refine wq_block ?_ | refine l_nil ?_ | refine d_nil ?_ | refine wq_skip ?_ | refine wq_ret ?_ | refine wq_exit ?_ | refine th_normal ?_ | refine th_ret ?_ | refine th_exit ?_ | refine bk_normal ?_ | refine bk_ret ?_ | refine bk_exit ?_ | refine bk_other rfl ?_ | first | refine l_partG (fun hb => ?_) (fun hb => ?_) | refine d_partG (fun hb => ?_) (fun hb => ?_))
  all_goals refine cond_go (fun hb => ?_) (fun hb => ?_)
  all_goals (repeat (first | refine l_go ?_ | refine d_go ?_ | refine l_onG ?_ | refine l_offG ?_ | refine d_onG ?_ | refine d_offG ?_ | refine wq_seq ?_ | refine wq_line ?_ | refine wq_draw (by decide +kernel) ?_ | refine wq_block ?_ | refine l_nil ?_ | refine d_nil ?_ | refine wq_skip ?_ | refine wq_ret ?_ | refine wq_exit ?_ | refine th_normal ?_ | refine th_ret ?_ | refine th_exit ?_ | refine bk_normal ?_ | refine bk_ret ?_ | refine bk_exit ?_ | refine bk_other rfl ?_))
  all_goals refine end_ret (by simp only [resRf, resRs, resR]; first | done | rfl) ⟨?_, by first | exact List.prefix_refl _ | exact List.prefix_append _ _ | assumption | (refine List.IsPrefix.trans (by assumption) (List.prefix_append _ _)) | (simp only [List.append_assoc, List.cons_append, List.nil_append, List.set_cons_zero, List.set_cons_succ]; exact ⟨_, by simp only [List.append_assoc, List.cons_append, List.nil_append]; rfl⟩)⟩; simp [put_app, put_none, *]
  all_goals simp_all [rise]
  all_goals (first | done | omega)

theorem shapeMay_ (H : Heap) (i h : Int) : Call Try.prog 94 [.agg [.int .i64 i, .int .i64 h]] H (.bool (shapeMay i h)) H := by
  refine call_plain fit mixed Try.func94 rfl rfl rfl (by kernel_rfl) rfl ?_
  repeat' (first | refine l_go ?_ | refine d_go ?_ | refine l_onG ?_ | refine l_offG ?_ | refine d_onG ?_ | refine d_offG ?_ | refine wq_seq ?_ | refine wq_line ?_ | refine wq_draw (by decide +kernel) ?_ | refine wq_block ?_ | refine l_nil ?_ | refine d_nil ?_ | refine wq_skip ?_ | refine wq_ret ?_ | refine wq_exit ?_ | refine th_normal ?_ | refine th_ret ?_ | refine th_exit ?_ | refine bk_normal ?_ | refine bk_ret ?_ | refine bk_exit ?_ | refine bk_other rfl ?_ | first | refine l_partG (fun hb => ?_) (fun hb => ?_) | refine d_partG (fun hb => ?_) (fun hb => ?_))
  all_goals refine end_ret (by simp only [resRf, resRs, resR]; first | done | rfl) ⟨?_, by first | exact List.prefix_refl _ | exact List.prefix_append _ _ | assumption | (refine List.IsPrefix.trans (by assumption) (List.prefix_append _ _)) | (simp only [List.append_assoc, List.cons_append, List.nil_append, List.set_cons_zero, List.set_cons_succ]; exact ⟨_, by simp only [List.append_assoc, List.cons_append, List.nil_append]; rfl⟩)⟩; simp [put_app, put_none, *]
  all_goals simp_all [shapeMay, within]
  all_goals (first | done | omega)

theorem shapeMany_ (H : Heap) (i h : Nat) (hi : i ≤ 3) (hh : h ≤ 3) : Call Try.prog 95 [.agg [.int .i64 i, .int .i64 h]] H (.int .i64 (netSize i h : Nat)) H := by
  refine call_plain fit mixed Try.func95 rfl rfl rfl (by kernel_rfl) rfl ?_
  have hm : h * (i + 1) ≤ 12 := Nat.le_trans (Nat.mul_le_mul hh (Nat.add_le_add_right hi 1)) (by decide)
  have w1 : IntKind.i64.wrap ((i : Int) + 1) = ((i + 1 : Nat) : Int) := wrap_succ (by omega)
  have w2 : IntKind.i64.wrap ((h : Int) * ((i + 1 : Nat) : Int)) = ((h * (i + 1) : Nat) : Int) := by rw [← Int.natCast_mul]; exact wrap_nat (by omega)
  have w3 : IntKind.i64.wrap (((h * (i + 1) : Nat) : Int) + (h : Int)) = ((h * (i + 1) + h : Nat) : Int) := by rw [← Int.natCast_add]; exact wrap_nat (by omega)
  have w4 : IntKind.i64.wrap (((h * (i + 1) + h : Nat) : Int) + 1) = ((h * (i + 1) + h + 1 : Nat) : Int) := wrap_succ (by omega)
  clear hm hi hh
  repeat (first | refine l_go ?_ | refine d_go ?_ | refine l_onG ?_ | refine l_offG ?_ | refine d_onG ?_ | refine d_offG ?_ | refine wq_seq ?_ | refine wq_line ?_ | refine wq_draw (by decide +kernel) ?_ | refine wq_block ?_ | refine l_nil ?_ | refine d_nil ?_ | refine wq_skip ?_ | refine wq_ret ?_ | refine wq_exit ?_ | refine th_normal ?_ | refine th_ret ?_ | refine th_exit ?_ | refine bk_normal ?_ | refine bk_ret ?_ | refine bk_exit ?_ | refine bk_other rfl ?_)
  refine end_ret (by simp only [resRf, resRs, resR]; first | done | rfl) ⟨?_, by first | exact List.prefix_refl _ | exact List.prefix_append _ _ | assumption | (refine List.IsPrefix.trans (by assumption) (List.prefix_append _ _)) | (simp only [List.append_assoc, List.cons_append, List.nil_append, List.set_cons_zero, List.set_cons_succ]; exact ⟨_, by simp only [List.append_assoc, List.cons_append, List.nil_append]; rfl⟩)⟩
  simp only [put_app, put_none]
  rfl

-- the document's
theorem upTo1_ (H : Heap) (x a b : Int) : Call Try.prog 69 [.int .i64 x, .int .i64 a, .int .i64 b] H (.bool (within x a b)) H := by
  refine call_plain fit mixed Try.func69 rfl rfl rfl (by kernel_rfl) rfl ?_
  repeat' (first | refine l_go ?_ | refine d_go ?_ | refine l_onG ?_ | refine l_offG ?_ | refine d_onG ?_ | refine d_offG ?_ | refine wq_seq ?_ | refine wq_line ?_ | refine wq_draw (by decide +kernel) ?_ | refine wq_block ?_ | refine l_nil ?_ | refine d_nil ?_ | refine wq_skip ?_ | refine wq_ret ?_ | refine wq_exit ?_ | refine th_normal ?_ | refine th_ret ?_ | refine th_exit ?_ | refine bk_normal ?_ | refine bk_ret ?_ | refine bk_exit ?_ | refine bk_other rfl ?_ | first | refine l_partG (fun hb => ?_) (fun hb => ?_) | refine d_partG (fun hb => ?_) (fun hb => ?_))
  all_goals refine end_ret (by simp only [resRf, resRs, resR]; first | done | rfl) ⟨?_, by first | exact List.prefix_refl _ | exact List.prefix_append _ _ | assumption | (refine List.IsPrefix.trans (by assumption) (List.prefix_append _ _)) | (simp only [List.append_assoc, List.cons_append, List.nil_append, List.set_cons_zero, List.set_cons_succ]; exact ⟨_, by simp only [List.append_assoc, List.cons_append, List.nil_append]; rfl⟩)⟩; simp [put_app, put_none, *]
  all_goals simp_all [within]
  all_goals (first | done | omega)

theorem refWithin_ (H : Heap) (x a b : Int) (h : a ≤ b) : Call Try.prog 58 [.int .i64 x, .int .i64 a, .int .i64 b] H (.int .i64 (clip x a b)) H := by
  refine call_plain fit mixed Try.func58 rfl rfl rfl (by kernel_rfl) rfl ?_
  have hc := clip_max x a b h
  clear h
  repeat (first | refine l_go ?_ | refine d_go ?_ | refine l_onG ?_ | refine l_offG ?_ | refine d_onG ?_ | refine d_offG ?_ | refine wq_seq ?_ | refine wq_line ?_ | refine wq_draw (by decide +kernel) ?_ | refine wq_block ?_ | refine l_nil ?_ | refine d_nil ?_ | refine wq_skip ?_ | refine wq_ret ?_ | refine wq_exit ?_ | refine th_normal ?_ | refine th_ret ?_ | refine th_exit ?_ | refine bk_normal ?_ | refine bk_ret ?_ | refine bk_exit ?_ | refine bk_other rfl ?_)
  refine end_ret (by simp only [resRf, resRs, resR]; first | done | rfl) ⟨?_, by first | exact List.prefix_refl _ | exact List.prefix_append _ _ | assumption | (refine List.IsPrefix.trans (by assumption) (List.prefix_append _ _)) | (simp only [List.append_assoc, List.cons_append, List.nil_append, List.set_cons_zero, List.set_cons_succ]; exact ⟨_, by simp only [List.append_assoc, List.cons_append, List.nil_append]; rfl⟩)⟩
  simp only [put_app, put_none]
  simp only [Nat.reduceEqDiff, reduceIte, Option.some.injEq, reduceCtorEq]
  try rw [hc]

theorem refFixMay_ (H : Heap) (x : Int) : Call Try.prog 81 [.int .i64 x] H (.bool (fixMay x)) H := by
  refine call_plain fit mixed Try.func81 rfl rfl rfl (by kernel_rfl) rfl ?_
  repeat (first | refine l_go ?_ | refine d_go ?_ | refine l_onG ?_ | refine l_offG ?_ | refine d_onG ?_ | refine d_offG ?_ | refine wq_seq ?_ | refine wq_line ?_ | refine wq_draw (by decide +kernel) ?_ | refine wq_block ?_ | refine l_nil ?_ | refine d_nil ?_ | refine wq_skip ?_ | refine wq_ret ?_ | refine wq_exit ?_ | refine th_normal ?_ | refine th_ret ?_ | refine th_exit ?_ | refine bk_normal ?_ | refine bk_ret ?_ | refine bk_exit ?_ | refine bk_other rfl ?_)
  refine l_callG (upTo1_ _ _ _ _) ?_
  repeat (first | refine l_go ?_ | refine d_go ?_ | refine l_onG ?_ | refine l_offG ?_ | refine d_onG ?_ | refine d_offG ?_ | refine wq_seq ?_ | refine wq_line ?_ | refine wq_draw (by decide +kernel) ?_ | refine wq_block ?_ | refine l_nil ?_ | refine d_nil ?_ | refine wq_skip ?_ | refine wq_ret ?_ | refine wq_exit ?_ | refine th_normal ?_ | refine th_ret ?_ | refine th_exit ?_ | refine bk_normal ?_ | refine bk_ret ?_ | refine bk_exit ?_ | refine bk_other rfl ?_)
  refine end_ret (by simp only [resRf, resRs, resR]; first | done | rfl) ⟨?_, by first | exact List.prefix_refl _ | exact List.prefix_append _ _ | assumption | (refine List.IsPrefix.trans (by assumption) (List.prefix_append _ _)) | (simp only [List.append_assoc, List.cons_append, List.nil_append, List.set_cons_zero, List.set_cons_succ]; exact ⟨_, by simp only [List.append_assoc, List.cons_append, List.nil_append]; rfl⟩)⟩; simp [put_app, put_none, *]

theorem refPlus_ (H : Heap) (a b : Int) : Call Try.prog 26 [.int .i64 a, .int .i64 b] H (.int .i64 (plus a b)) H := by
  refine call_plain fit mixed Try.func26 rfl rfl rfl (by kernel_rfl) rfl ?_
  repeat (first | refine l_go ?_ | refine d_go ?_ | refine l_onG ?_ | refine l_offG ?_ | refine d_onG ?_ | refine d_offG ?_ | refine wq_seq ?_ | refine wq_line ?_ | refine wq_draw (by decide +kernel) ?_ | refine wq_block ?_ | refine l_nil ?_ | refine d_nil ?_ | refine wq_skip ?_ | refine wq_ret ?_ | refine wq_exit ?_ | refine th_normal ?_ | refine th_ret ?_ | refine th_exit ?_ | refine bk_normal ?_ | refine bk_ret ?_ | refine bk_exit ?_ | refine bk_other rfl ?_)
  refine l_callG (refWithin_ _ _ (-1073741824) 1073741824 (by decide)) ?_
  repeat (first | refine l_go ?_ | refine d_go ?_ | refine l_onG ?_ | refine l_offG ?_ | refine d_onG ?_ | refine d_offG ?_ | refine wq_seq ?_ | refine wq_line ?_ | refine wq_draw (by decide +kernel) ?_ | refine wq_block ?_ | refine l_nil ?_ | refine d_nil ?_ | refine wq_skip ?_ | refine wq_ret ?_ | refine wq_exit ?_ | refine th_normal ?_ | refine th_ret ?_ | refine th_exit ?_ | refine bk_normal ?_ | refine bk_ret ?_ | refine bk_exit ?_ | refine bk_other rfl ?_)
  refine end_ret (by simp only [resRf, resRs, resR]; first | done | rfl) ⟨?_, by first | exact List.prefix_refl _ | exact List.prefix_append _ _ | assumption | (refine List.IsPrefix.trans (by assumption) (List.prefix_append _ _)) | (simp only [List.append_assoc, List.cons_append, List.nil_append, List.set_cons_zero, List.set_cons_succ]; exact ⟨_, by simp only [List.append_assoc, List.cons_append, List.nil_append]; rfl⟩)⟩
  simp [put_app, put_none, plus, cut]

theorem refTimes_ (H : Heap) (a b : Int) : Call Try.prog 27 [.int .i64 a, .int .i64 b] H (.int .i64 (times a b)) H := by
  refine call_plain fit mixed Try.func27 rfl rfl rfl (by kernel_rfl) rfl ?_
  repeat (first | refine l_go ?_ | refine d_go ?_ | refine l_onG ?_ | refine l_offG ?_ | refine d_onG ?_ | refine d_offG ?_ | refine wq_seq ?_ | refine wq_line ?_ | refine wq_draw (by decide +kernel) ?_ | refine wq_block ?_ | refine l_nil ?_ | refine d_nil ?_ | refine wq_skip ?_ | refine wq_ret ?_ | refine wq_exit ?_ | refine th_normal ?_ | refine th_ret ?_ | refine th_exit ?_ | refine bk_normal ?_ | refine bk_ret ?_ | refine bk_exit ?_ | refine bk_other rfl ?_)
  refine l_callG (refWithin_ _ _ (-1073741824) 1073741824 (by decide)) ?_
  repeat (first | refine l_go ?_ | refine d_go ?_ | refine l_onG ?_ | refine l_offG ?_ | refine d_onG ?_ | refine d_offG ?_ | refine wq_seq ?_ | refine wq_line ?_ | refine wq_draw (by decide +kernel) ?_ | refine wq_block ?_ | refine l_nil ?_ | refine d_nil ?_ | refine wq_skip ?_ | refine wq_ret ?_ | refine wq_exit ?_ | refine th_normal ?_ | refine th_ret ?_ | refine th_exit ?_ | refine bk_normal ?_ | refine bk_ret ?_ | refine bk_exit ?_ | refine bk_other rfl ?_)
  refine end_ret (by simp only [resRf, resRs, resR]; first | done | rfl) ⟨?_, by first | exact List.prefix_refl _ | exact List.prefix_append _ _ | assumption | (refine List.IsPrefix.trans (by assumption) (List.prefix_append _ _)) | (simp only [List.append_assoc, List.cons_append, List.nil_append, List.set_cons_zero, List.set_cons_succ]; exact ⟨_, by simp only [List.append_assoc, List.cons_append, List.nil_append]; rfl⟩)⟩
  simp [put_app, put_none, times, cut]
  rfl

theorem refShapeMay_ (H : Heap) (i h : Int) : Call Try.prog 80 [.agg [.int .i64 i, .int .i64 h]] H (.bool (shapeMay i h)) H := by
  refine call_plain fit mixed Try.func80 rfl rfl rfl (by kernel_rfl) rfl ?_
  repeat (first | refine l_go ?_ | refine d_go ?_ | refine l_onG ?_ | refine l_offG ?_ | refine d_onG ?_ | refine d_offG ?_ | refine wq_seq ?_ | refine wq_line ?_ | refine wq_draw (by decide +kernel) ?_ | refine wq_block ?_ | refine l_nil ?_ | refine d_nil ?_ | refine wq_skip ?_ | refine wq_ret ?_ | refine wq_exit ?_ | refine th_normal ?_ | refine th_ret ?_ | refine th_exit ?_ | refine bk_normal ?_ | refine bk_ret ?_ | refine bk_exit ?_ | refine bk_other rfl ?_)
  refine l_callG (upTo1_ ..) ?_
  repeat (first | refine l_go ?_ | refine d_go ?_ | refine l_onG ?_ | refine l_offG ?_ | refine d_onG ?_ | refine d_offG ?_ | refine wq_seq ?_ | refine wq_line ?_ | refine wq_draw (by decide +kernel) ?_ | refine wq_block ?_ | refine l_nil ?_ | refine d_nil ?_ | refine wq_skip ?_ | refine wq_ret ?_ | refine wq_exit ?_ | refine th_normal ?_ | refine th_ret ?_ | refine th_exit ?_ | refine bk_normal ?_ | refine bk_ret ?_ | refine bk_exit ?_ | refine bk_other rfl ?_)
  first | refine l_partG (fun hb => ?_) (fun hb => ?_) | refine d_partG (fun hb => ?_) (fun hb => ?_)
  · repeat (first | refine l_go ?_ | refine d_go ?_ | refine l_onG ?_ | refine l_offG ?_ | refine d_onG ?_ | refine d_offG ?_ | refine wq_seq ?_ | refine wq_line ?_ | refine wq_draw (by decide +kernel) ?_ | refine wq_block ?_ | refine l_nil ?_ | refine d_nil ?_ | refine wq_skip ?_ | refine wq_ret ?_ | refine wq_exit ?_ | refine th_normal ?_ | refine th_ret ?_ | refine th_exit ?_ | refine bk_normal ?_ | refine bk_ret ?_ | refine bk_exit ?_ | refine bk_other rfl ?_)
    refine l_callG (upTo1_ ..) ?_
    repeat (first | refine l_go ?_ | refine d_go ?_ | refine l_onG ?_ | refine l_offG ?_ | refine d_onG ?_ | refine d_offG ?_ | refine wq_seq ?_ | refine wq_line ?_ | refine wq_draw (by decide +kernel) ?_ | refine wq_block ?_ | refine l_nil ?_ | refine d_nil ?_ | refine wq_skip ?_ | refine wq_ret ?_ | refine wq_exit ?_ | refine th_normal ?_ | refine th_ret ?_ | refine th_exit ?_ | refine bk_normal ?_ | refine bk_ret ?_ | refine bk_exit ?_ | refine bk_other rfl ?_)
    refine end_ret (by simp only [resRf, resRs, resR]; first | done | rfl) ⟨?_, by first | exact List.prefix_refl _ | exact List.prefix_append _ _ | assumption | (refine List.IsPrefix.trans (by assumption) (List.prefix_append _ _)) | (simp only [List.append_assoc, List.cons_append, List.nil_append, List.set_cons_zero, List.set_cons_succ]; exact ⟨_, by simp only [List.append_assoc, List.cons_append, List.nil_append]; rfl⟩)⟩; simp [put_app, put_none, *]
    simp_all [shapeMay]
  · repeat (first | refine l_go ?_ | refine d_go ?_ | refine l_onG ?_ | refine l_offG ?_ | refine d_onG ?_ | refine d_offG ?_ | refine wq_seq ?_ | refine wq_line ?_ | refine wq_draw (by decide +kernel) ?_ | refine wq_block ?_ | refine l_nil ?_ | refine d_nil ?_ | refine wq_skip ?_ | refine wq_ret ?_ | refine wq_exit ?_ | refine th_normal ?_ | refine th_ret ?_ | refine th_exit ?_ | refine bk_normal ?_ | refine bk_ret ?_ | refine bk_exit ?_ | refine bk_other rfl ?_)
    refine end_ret (by simp only [resRf, resRs, resR]; first | done | rfl) ⟨?_, by first | exact List.prefix_refl _ | exact List.prefix_append _ _ | assumption | (refine List.IsPrefix.trans (by assumption) (List.prefix_append _ _)) | (simp only [List.append_assoc, List.cons_append, List.nil_append, List.set_cons_zero, List.set_cons_succ]; exact ⟨_, by simp only [List.append_assoc, List.cons_append, List.nil_append]; rfl⟩)⟩; simp [put_app, put_none, *]
    simp_all [shapeMay]

theorem refsize_ (H : Heap) (i h : Nat) (hi : i ≤ 3) (hh : h ≤ 3) : Call Try.prog 54 [.agg [.int .i64 i, .int .i64 h]] H (.int .i64 (netSize i h : Nat)) H := by
  refine call_plain fit mixed Try.func54 rfl rfl rfl (by kernel_rfl) rfl ?_
  have hm : h * (i + 1) ≤ 12 := Nat.le_trans (Nat.mul_le_mul hh (Nat.add_le_add_right hi 1)) (by decide)
  have w1 : IntKind.i64.wrap ((i : Int) + 1) = ((i + 1 : Nat) : Int) := wrap_succ (by omega)
  have w2 : IntKind.i64.wrap ((h : Int) * ((i + 1 : Nat) : Int)) = ((h * (i + 1) : Nat) : Int) := by rw [← Int.natCast_mul]; exact wrap_nat (by omega)
  have w3 : IntKind.i64.wrap (((h * (i + 1) : Nat) : Int) + (h : Int)) = ((h * (i + 1) + h : Nat) : Int) := by rw [← Int.natCast_add]; exact wrap_nat (by omega)
  have w4 : IntKind.i64.wrap (((h * (i + 1) + h : Nat) : Int) + 1) = ((h * (i + 1) + h + 1 : Nat) : Int) := wrap_succ (by omega)
  clear hm hi hh
  repeat (first | refine l_go ?_ | refine d_go ?_ | refine l_onG ?_ | refine l_offG ?_ | refine d_onG ?_ | refine d_offG ?_ | refine wq_seq ?_ | refine wq_line ?_ | refine wq_draw (by decide +kernel) ?_ | refine wq_block ?_ | refine l_nil ?_ | refine d_nil ?_ | refine wq_skip ?_ | refine wq_ret ?_ | refine wq_exit ?_ | refine th_normal ?_ | refine th_ret ?_ | refine th_exit ?_ | refine bk_normal ?_ | refine bk_ret ?_ | refine bk_exit ?_ | refine bk_other rfl ?_)
  refine end_ret (by simp only [resRf, resRs, resR]; first | done | rfl) ⟨?_, by first | exact List.prefix_refl _ | exact List.prefix_append _ _ | assumption | (refine List.IsPrefix.trans (by assumption) (List.prefix_append _ _)) | (simp only [List.append_assoc, List.cons_append, List.nil_append, List.set_cons_zero, List.set_cons_succ]; exact ⟨_, by simp only [List.append_assoc, List.cons_append, List.nil_append]; rfl⟩)⟩
  simp only [put_app, put_none]
  rfl
end Go.Proofs.Ytjageapgbpdlhaa.VM
