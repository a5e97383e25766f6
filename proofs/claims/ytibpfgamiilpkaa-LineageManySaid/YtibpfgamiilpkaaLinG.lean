/- Chapter 18: the statements' helpers: what every program answers that is one. -/
import Derived.Test.YtibpfgamiilpkaaLinF
import Derived.Test.YtibpfgamiilpkaaLinE
namespace Go.Proofs.Ytibpfgamiilpkaa.VM
open Go
set_option linter.unusedVariables false
set_option linter.unusedSimpArgs false
attribute [local irreducible] wq wqL wqD wqE wqO Th Bk EndR
set_option maxHeartbeats 8000000

theorem cells_evs : ∀ (es : List Ev), Cells 6 evC (es.flatMap Ev.cells) es
  | [] => Cells.nil
  | e :: es => Cells.cons (cs := e.cells) rfl rfl (cells_evs es)

def someB (at2 : Int) (m3 : Int) : List Ev := [⟨0, 1, 0, 0, 0, 0⟩, ⟨0, 0, 0, 0, 0, 0⟩, ⟨1, 0, 1, at2, 0, 0⟩, ⟨2, m3, 0, 0, 64, 1⟩, ⟨0, 1, 0, 0, 0, 0⟩]
abbrev someC (at2 m3 : Int) : List V := [.int .i64 0, .int .i64 1, .int .i64 0, .int .i64 0, .int .i64 0, .int .i64 0, .int .i64 0, .int .i64 0, .int .i64 0, .int .i64 0, .int .i64 0, .int .i64 0, .int .i64 1, .int .i64 0, .int .i64 1, .int .i64 at2, .int .i64 0, .int .i64 0,
  .int .i64 2, .int .i64 m3, .int .i64 0, .int .i64 0, .int .i64 64, .int .i64 1, .int .i64 0, .int .i64 1, .int .i64 0, .int .i64 0, .int .i64 0, .int .i64 0]
theorem cells_some (a m : Int) : Cells 6 evC (someC a m) (someB a m) := cells_evs (someB a m)
theorem sl_some (H : Heap) (a m : Int) : Sl 6 evC (H ++ [.row (someC a m) true]) (.slc H.length 0 5 5 true 6) (someB a m) := (own_make H (cells_some a m)).sl

theorem some_ (H : Heap) : Call Try.prog 15 [] H (.slc H.length 0 5 5 true 6) (H ++ [.row (someC 1 0) true]) := by
  suffices h : ∃ u H', (u = .slc H.length 0 5 5 true 6 ∧ H' = H ++ [.row (someC 1 0) true]) ∧ Call Try.prog 15 [] H u H' by
    obtain ⟨u, H', ⟨rfl, rfl⟩, h4⟩ := h
    exact h4
  refine call_wq fit mixed Try.func15 rfl rfl rfl (by kernel_rfl) ?_
  repeat (first | refine l_go ?_ | refine d_go ?_ | refine l_onG ?_ | refine l_offG ?_ | refine d_onG ?_ | refine d_offG ?_ | refine wq_seq ?_ | refine wq_line ?_ | refine wq_draw (by decide +kernel) ?_ | refine wq_block ?_ | refine l_nil ?_ | refine d_nil ?_ | refine wq_skip ?_ | refine wq_ret ?_ | refine wq_exit ?_ | refine th_normal ?_ | refine th_ret ?_ | refine th_exit ?_ | refine bk_normal ?_ | refine bk_ret ?_ | refine bk_exit ?_ | refine bk_other rfl ?_)
  refine end_ret (by simp only [resRf, resRs, resR]; first | done | rfl) ⟨?_, ?_⟩
  · simp [put_app, put_none]
  · rfl

theorem awake_ (H : Heap) : Call Try.prog 14 [] H (.bool true) H := by
  refine call_plain fit mixed Try.func14 rfl rfl rfl (by kernel_rfl) rfl ?_
  have h1 := sl_some H 2 0
  obtain ⟨B, hB⟩ : ∃ B, H ++ [.row (someC 2 0) true] = B := ⟨_, rfl⟩
  rw [hB] at h1
  have p1 : H <+: B := by rw [← hB]; exact List.prefix_append _ _
  have h2 := sl_some B 1 1
  obtain ⟨C, hC⟩ : ∃ C, B ++ [.row (someC 1 1) true] = C := ⟨_, rfl⟩
  rw [hC] at h2
  have p2 : B <+: C := by rw [← hC]; exact List.prefix_append _ _
  have h1' := h1.mono p2
  have s1 := sl_some C 1 0
  obtain ⟨D, hD⟩ : ∃ D, C ++ [.row (someC 1 0) true] = D := ⟨_, rfl⟩
  have p3 : C <+: D := by rw [← hD]; exact List.prefix_append _ _
  have s2 := sl_some D 1 0
  obtain ⟨E, hE⟩ : ∃ E, D ++ [.row (someC 1 0) true] = E := ⟨_, rfl⟩
  have p4 : D <+: E := by rw [← hE]; exact List.prefix_append _ _
  have s3 := sl_some E 1 0
  obtain ⟨F, hF⟩ : ∃ F, E ++ [.row (someC 1 0) true] = F := ⟨_, rfl⟩
  have p5 : E <+: F := by rw [← hF]; exact List.prefix_append _ _
  have s4 := sl_some F 1 0
  obtain ⟨G, hG⟩ : ∃ G, F ++ [.row (someC 1 0) true] = G := ⟨_, rfl⟩
  have p6 : F <+: G := by rw [← hG]; exact List.prefix_append _ _
  have p : H <+: G := p1.trans (p2.trans (p3.trans (p4.trans (p5.trans p6))))
  rw [hD] at s1
  rw [hE] at s2
  rw [hF] at s3
  rw [hG] at s4
  have m1 := lineageMay D _ _ 2 s1 (by decide)
  have m2 := lineageMay E _ _ 1 s2 (by decide)
  have m3 := lineageMay E _ _ 2 (h1'.mono (p3.trans p4)) (by decide)
  have m4 := lineageMay E _ _ 2 (h2.mono (p3.trans p4)) (by decide)
  have m5 := many F _ _ 0 s3 (by decide)
  have m6 := many G _ _ 1 s4 (by decide)
  rw [show eventsMay (someB 1 0) 2 = true from by decide] at m1
  rw [show eventsMay (someB 1 0) 1 = false from by decide] at m2
  rw [show eventsMay (someB 2 0) 2 = false from by decide] at m3
  rw [show eventsMay (someB 1 1) 2 = false from by decide] at m4
  rw [show manyOf (someB 1 0) 0 = 3 from by decide] at m5
  rw [show manyOf (someB 1 0) 1 = 2 from by decide] at m6
  clear h1 h2 h1' s1 s2 s3 s4
  repeat (first | refine l_go ?_ | refine d_go ?_ | refine l_onG ?_ | refine l_offG ?_ | refine d_onG ?_ | refine d_offG ?_ | refine wq_seq ?_ | refine wq_line ?_ | refine wq_draw (by decide +kernel) ?_ | refine wq_block ?_ | refine l_nil ?_ | refine d_nil ?_ | refine wq_skip ?_ | refine wq_ret ?_ | refine wq_exit ?_ | refine th_normal ?_ | refine th_ret ?_ | refine th_exit ?_ | refine bk_normal ?_ | refine bk_ret ?_ | refine bk_exit ?_ | refine bk_other rfl ?_)
  refine l_callG (some_ H) ?_
  repeat (first | refine l_go ?_ | refine d_go ?_ | refine l_onG ?_ | refine l_offG ?_ | refine d_onG ?_ | refine d_offG ?_ | refine wq_seq ?_ | refine wq_line ?_ | refine wq_draw (by decide +kernel) ?_ | refine wq_block ?_ | refine l_nil ?_ | refine d_nil ?_ | refine wq_skip ?_ | refine wq_ret ?_ | refine wq_exit ?_ | refine th_normal ?_ | refine th_ret ?_ | refine th_exit ?_ | refine bk_normal ?_ | refine bk_ret ?_ | refine bk_exit ?_ | refine bk_other rfl ?_)
  refine l_heap (h' := B) hB ?_
  refine l_callG (some_ B) ?_
  repeat (first | refine l_go ?_ | refine d_go ?_ | refine l_onG ?_ | refine l_offG ?_ | refine d_onG ?_ | refine d_offG ?_ | refine wq_seq ?_ | refine wq_line ?_ | refine wq_draw (by decide +kernel) ?_ | refine wq_block ?_ | refine l_nil ?_ | refine d_nil ?_ | refine wq_skip ?_ | refine wq_ret ?_ | refine wq_exit ?_ | refine th_normal ?_ | refine th_ret ?_ | refine th_exit ?_ | refine bk_normal ?_ | refine bk_ret ?_ | refine bk_exit ?_ | refine bk_other rfl ?_)
  refine l_heap (h' := C) hC ?_
  refine l_callG (some_ C) ?_
  refine l_heap (h' := D) hD ?_
  refine l_callG m1 ?_
  repeat (first | refine l_go ?_ | refine d_go ?_ | refine l_onG ?_ | refine l_offG ?_ | refine d_onG ?_ | refine d_offG ?_ | refine wq_seq ?_ | refine wq_line ?_ | refine wq_draw (by decide +kernel) ?_ | refine wq_block ?_ | refine l_nil ?_ | refine d_nil ?_ | refine wq_skip ?_ | refine wq_ret ?_ | refine wq_exit ?_ | refine th_normal ?_ | refine th_ret ?_ | refine th_exit ?_ | refine bk_normal ?_ | refine bk_ret ?_ | refine bk_exit ?_ | refine bk_other rfl ?_)
  refine l_callG (some_ D) ?_
  refine l_heap (h' := E) hE ?_
  repeat (first | refine l_go ?_ | refine d_go ?_ | refine l_onG ?_ | refine l_offG ?_ | refine d_onG ?_ | refine d_offG ?_ | refine wq_seq ?_ | refine wq_line ?_ | refine wq_draw (by decide +kernel) ?_ | refine wq_block ?_ | refine l_nil ?_ | refine d_nil ?_ | refine wq_skip ?_ | refine wq_ret ?_ | refine wq_exit ?_ | refine th_normal ?_ | refine th_ret ?_ | refine th_exit ?_ | refine bk_normal ?_ | refine bk_ret ?_ | refine bk_exit ?_ | refine bk_other rfl ?_)
  refine l_callG m2 ?_
  repeat (first | refine l_go ?_ | refine d_go ?_ | refine l_onG ?_ | refine l_offG ?_ | refine d_onG ?_ | refine d_offG ?_ | refine wq_seq ?_ | refine wq_line ?_ | refine wq_draw (by decide +kernel) ?_ | refine wq_block ?_ | refine l_nil ?_ | refine d_nil ?_ | refine wq_skip ?_ | refine wq_ret ?_ | refine wq_exit ?_ | refine th_normal ?_ | refine th_ret ?_ | refine th_exit ?_ | refine bk_normal ?_ | refine bk_ret ?_ | refine bk_exit ?_ | refine bk_other rfl ?_)
  refine l_callG m3 ?_
  repeat (first | refine l_go ?_ | refine d_go ?_ | refine l_onG ?_ | refine l_offG ?_ | refine d_onG ?_ | refine d_offG ?_ | refine wq_seq ?_ | refine wq_line ?_ | refine wq_draw (by decide +kernel) ?_ | refine wq_block ?_ | refine l_nil ?_ | refine d_nil ?_ | refine wq_skip ?_ | refine wq_ret ?_ | refine wq_exit ?_ | refine th_normal ?_ | refine th_ret ?_ | refine th_exit ?_ | refine bk_normal ?_ | refine bk_ret ?_ | refine bk_exit ?_ | refine bk_other rfl ?_)
  refine l_callG m4 ?_
  repeat (first | refine l_go ?_ | refine d_go ?_ | refine l_onG ?_ | refine l_offG ?_ | refine d_onG ?_ | refine d_offG ?_ | refine wq_seq ?_ | refine wq_line ?_ | refine wq_draw (by decide +kernel) ?_ | refine wq_block ?_ | refine l_nil ?_ | refine d_nil ?_ | refine wq_skip ?_ | refine wq_ret ?_ | refine wq_exit ?_ | refine th_normal ?_ | refine th_ret ?_ | refine th_exit ?_ | refine bk_normal ?_ | refine bk_ret ?_ | refine bk_exit ?_ | refine bk_other rfl ?_)
  refine l_callG (some_ E) ?_
  refine l_heap (h' := F) hF ?_
  repeat (first | refine l_go ?_ | refine d_go ?_ | refine l_onG ?_ | refine l_offG ?_ | refine d_onG ?_ | refine d_offG ?_ | refine wq_seq ?_ | refine wq_line ?_ | refine wq_draw (by decide +kernel) ?_ | refine wq_block ?_ | refine l_nil ?_ | refine d_nil ?_ | refine wq_skip ?_ | refine wq_ret ?_ | refine wq_exit ?_ | refine th_normal ?_ | refine th_ret ?_ | refine th_exit ?_ | refine bk_normal ?_ | refine bk_ret ?_ | refine bk_exit ?_ | refine bk_other rfl ?_)
  refine l_callG m5 ?_
  repeat (first | refine l_go ?_ | refine d_go ?_ | refine l_onG ?_ | refine l_offG ?_ | refine d_onG ?_ | refine d_offG ?_ | refine wq_seq ?_ | refine wq_line ?_ | refine wq_draw (by decide +kernel) ?_ | refine wq_block ?_ | refine l_nil ?_ | refine d_nil ?_ | refine wq_skip ?_ | refine wq_ret ?_ | refine wq_exit ?_ | refine th_normal ?_ | refine th_ret ?_ | refine th_exit ?_ | refine bk_normal ?_ | refine bk_ret ?_ | refine bk_exit ?_ | refine bk_other rfl ?_)
  refine l_callG (some_ F) ?_
  refine l_heap (h' := G) hG ?_
  repeat (first | refine l_go ?_ | refine d_go ?_ | refine l_onG ?_ | refine l_offG ?_ | refine d_onG ?_ | refine d_offG ?_ | refine wq_seq ?_ | refine wq_line ?_ | refine wq_draw (by decide +kernel) ?_ | refine wq_block ?_ | refine l_nil ?_ | refine d_nil ?_ | refine wq_skip ?_ | refine wq_ret ?_ | refine wq_exit ?_ | refine th_normal ?_ | refine th_ret ?_ | refine th_exit ?_ | refine bk_normal ?_ | refine bk_ret ?_ | refine bk_exit ?_ | refine bk_other rfl ?_)
  refine l_callG m6 ?_
  repeat (first | refine l_go ?_ | refine d_go ?_ | refine l_onG ?_ | refine l_offG ?_ | refine d_onG ?_ | refine d_offG ?_ | refine wq_seq ?_ | refine wq_line ?_ | refine wq_draw (by decide +kernel) ?_ | refine wq_block ?_ | refine l_nil ?_ | refine d_nil ?_ | refine wq_skip ?_ | refine wq_ret ?_ | refine wq_exit ?_ | refine th_normal ?_ | refine th_ret ?_ | refine th_exit ?_ | refine bk_normal ?_ | refine bk_ret ?_ | refine bk_exit ?_ | refine bk_other rfl ?_)
  refine l_callG (num0 G 0) ?_
  repeat (first | refine l_go ?_ | refine d_go ?_ | refine l_onG ?_ | refine l_offG ?_ | refine d_onG ?_ | refine d_offG ?_ | refine wq_seq ?_ | refine wq_line ?_ | refine wq_draw (by decide +kernel) ?_ | refine wq_block ?_ | refine l_nil ?_ | refine d_nil ?_ | refine wq_skip ?_ | refine wq_ret ?_ | refine wq_exit ?_ | refine th_normal ?_ | refine th_ret ?_ | refine th_exit ?_ | refine bk_normal ?_ | refine bk_ret ?_ | refine bk_exit ?_ | refine bk_other rfl ?_)
  refine end_ret (by simp only [resRf, resRs, resR]; first | done | rfl) ⟨?_, p⟩
  simp [put_app, put_none]
end Go.Proofs.Ytibpfgamiilpkaa.VM
