/- Layer 7: the program's Grad. -/
import Derived.Test.YtjageapgbpdlhaaNetE
namespace Go.Proofs.Ytjageapgbpdlhaa.VM
open Go
set_option linter.unusedVariables false
set_option linter.unusedSimpArgs false
attribute [local irreducible] wq wqL wqD wqE wqO Th Bk EndR
set_option maxHeartbeats 8000000

theorem int_append2 {B H : Heap} {v u : V} {xs zs : List Int} (h : Mine 1 intC B H v xs) (hu : Sl 1 intC H u zs) (hap : Apart v u) (y : Int) (hl : xs.length ≤ 2 ^ 40) :
    ∃ v' H', newsOf T (T 3).get! 24 (.slc H.length 0 1 1 true 1) (H ++ [.row [.int .i64 y] true]) = some (1, [.int .i64 y]) ∧ appendV (T 3).get! v 1 [.int .i64 y] (H ++ [.row [.int .i64 y] true]) = some (v', H') ∧ Mine 1 intC B H' v' (xs ++ [y]) ∧ Sl 1 intC H' u zs ∧ Apart v' u := by
  have hn : newsOf T (T 3).get! 24 (.slc H.length 0 1 1 true 1) (H ++ [.row [.int .i64 y] true]) = some (1, [.int .i64 y]) := news_row T24 rfl (by decide) rfl
  have hc : Cells 1 intC [.int .i64 y] [y] := Cells.one (R := intC) (cs := [.int .i64 y]) (x := y) rfl rfl
  have h' := h.pre (List.prefix_append H [.row [.int .i64 y] true])
  have hu' := hu.mono (List.prefix_append H [.row [.int .i64 y] true])
  have hlt : ∀ c, u.blk = some c → c < H.length := fun c hc => hu.lt hc
  obtain ⟨hp, h'⟩ := h'
  rcases h' with ⟨rfl, rfl⟩ | ⟨b, hb1, ho⟩
  · have hp2 : H <+: H ++ [.row [.int .i64 y] true] ++ [.row [.int .i64 y] true] := by rw [List.append_assoc]; exact List.prefix_append _ _
    refine ⟨.slc (H ++ [.row [.int .i64 y] true] : Heap).length 0 1 1 false 1, H ++ [.row [.int .i64 y] true] ++ [.row [.int .i64 y] true], hn, by rfl, mine_make (xs := [y]) hp hc, hu.mono hp2, fun b c hb hc' => ?_⟩
    have := hlt c hc'
    simp only [V.blk, Option.some.injEq] at hb
    simp at hb
    omega
  · obtain ⟨v', b', H', e1, e2, e3, e4⟩ := own_append (ie := (T 3).get!) ho rfl hc ⟨by show (xs.length + 1) * 8 ≤ _; omega, by simp; omega⟩
    have hvb : v.blk = some b := by obtain ⟨cap, t, cs, rfl, _⟩ := ho; rfl
    refine ⟨v', H', hn, e1, ⟨e3.pre hp hb1, .inr ⟨b', ?_, e2⟩⟩, hu'.fr fun c hc1 hc2 => e3.2 c hc1 fun h => hap b c hvb hc2 h.symm, fun b1 c hb hc' => ?_⟩
    · have := hp.length_le; omega
    · have hv : v'.blk = some b' := by obtain ⟨cap, t, cs, rfl, _⟩ := e2; rfl
      rw [hv] at hb
      cases hb
      rcases e4 with rfl | e4
      · exact hap _ _ hvb hc'
      · have := hlt c hc'
        simp at e4
        omega

theorem grad_bad (H : Heap) (i h y : Int) (w x : V) (ws xs : List Int) (hw : Sl 1 intC H w ws) (hx : Sl 1 intC H x xs) (lw : ws.length ≤ 2 ^ 47) (lx : xs.length ≤ 2 ^ 47) (hbad : (fits i h ws && feeds i xs && fixMay y) = false) :
    Call Try.prog 15 [.agg [.int .i64 i, .int .i64 h], w, .agg [x, .int .i64 y]] H (.tup [.nils, .int .i64 700]) H := by
  suffices hh : ∃ v H', (v = .tup [.nils, .int .i64 700] ∧ H <+: H') ∧ Call Try.prog 15 [.agg [.int .i64 i, .int .i64 h], w, .agg [x, .int .i64 y]] H v H' by
    obtain ⟨v, H', ⟨rfl, hp⟩, h4⟩ := hh
    exact h4.forget hp rfl
  refine call_wq fit mixed Try.func15 rfl rfl rfl (by kernel_rfl) ?_
  obtain ⟨H1, hH1⟩ : ∃ H1, H ++ [.row [.int .i64 i, .int .i64 h] true] ++ [.row [x, .int .i64 y] true] = H1 := ⟨_, rfl⟩
  have p1 : H <+: H1 := by rw [← hH1, List.append_assoc]; exact List.prefix_append _ _
  have l0 : loadV T 23 H1 H.length 0 = some (.agg [.int .i64 i, .int .i64 h]) := by
    refine loadV_agg T23 rfl ?_
    rw [← hH1, List.append_assoc, loadN_app0]; rfl
  have l1 : loadV T 24 H1 (H ++ [.row [.int .i64 i, .int .i64 h] true] : Heap).length 0 = some x := by
    refine loadV_one T24 rfl ?_
    rw [← hH1, loadN_app0]; rfl
  obtain ⟨b, H2, c1, p2, _⟩ := new_ H1 i h w x ws xs (hw.mono p1) (hx.mono p1) lw lx
  have l2 : loadV T 3 H2 (H ++ [.row [.int .i64 i, .int .i64 h] true] : Heap).length 1 = some (.int .i64 y) := by
    refine loadV_one T3 rfl (loadN_pre p2 ?_)
    rw [← hH1, loadN_app0]; rfl
  have pend := p1.trans p2
  have c2 := fixMay_ H2 y
  clear hw hx lw lx p1 p2
  cases hf : (fits i h ws && feeds i xs)
  · rw [hf] at c1
    clear hbad hf
    repeat (first | refine l_go ?_ | refine d_go ?_ | refine l_onG ?_ | refine l_offG ?_ | refine d_onG ?_ | refine d_offG ?_ | refine wq_seq ?_ | refine wq_line ?_ | refine wq_draw (by decide +kernel) ?_ | refine wq_block ?_ | refine l_nil ?_ | refine d_nil ?_ | refine wq_skip ?_ | refine wq_ret ?_ | refine wq_exit ?_ | refine th_normal ?_ | refine th_ret ?_ | refine th_exit ?_ | refine bk_normal ?_ | refine bk_ret ?_ | refine bk_exit ?_ | refine bk_other rfl ?_)
    refine l_heap (h' := H1) hH1 ?_
    repeat (first | refine l_go ?_ | refine d_go ?_ | refine l_onG ?_ | refine l_offG ?_ | refine d_onG ?_ | refine d_offG ?_ | refine wq_seq ?_ | refine wq_line ?_ | refine wq_draw (by decide +kernel) ?_ | refine wq_block ?_ | refine l_nil ?_ | refine d_nil ?_ | refine wq_skip ?_ | refine wq_ret ?_ | refine wq_exit ?_ | refine th_normal ?_ | refine th_ret ?_ | refine th_exit ?_ | refine bk_normal ?_ | refine bk_ret ?_ | refine bk_exit ?_ | refine bk_other rfl ?_)
    refine l_callG c1 ?_
    repeat (first | refine l_go ?_ | refine d_go ?_ | refine l_onG ?_ | refine l_offG ?_ | refine d_onG ?_ | refine d_offG ?_ | refine wq_seq ?_ | refine wq_line ?_ | refine wq_draw (by decide +kernel) ?_ | refine wq_block ?_ | refine l_nil ?_ | refine d_nil ?_ | refine wq_skip ?_ | refine wq_ret ?_ | refine wq_exit ?_ | refine th_normal ?_ | refine th_ret ?_ | refine th_exit ?_ | refine bk_normal ?_ | refine bk_ret ?_ | refine bk_exit ?_ | refine bk_other rfl ?_)
    refine cond_go (fun hb => ?_) (fun hb => ?_)
    · repeat (first | refine l_go ?_ | refine d_go ?_ | refine l_onG ?_ | refine l_offG ?_ | refine d_onG ?_ | refine d_offG ?_ | refine wq_seq ?_ | refine wq_line ?_ | refine wq_draw (by decide +kernel) ?_ | refine wq_block ?_ | refine l_nil ?_ | refine d_nil ?_ | refine wq_skip ?_ | refine wq_ret ?_ | refine wq_exit ?_ | refine th_normal ?_ | refine th_ret ?_ | refine th_exit ?_ | refine bk_normal ?_ | refine bk_ret ?_ | refine bk_exit ?_ | refine bk_other rfl ?_)
      refine end_ret (by simp only [resRf, resRs, resR]; first | done | rfl) ⟨?_, pend⟩
      simp [put_app, put_none]
    · cases hb
  · have hy : fixMay y = false := by rw [hf] at hbad; simpa using hbad
    rw [hf] at c1
    rw [hy] at c2
    clear hbad hf hy
    repeat (first | refine l_go ?_ | refine d_go ?_ | refine l_onG ?_ | refine l_offG ?_ | refine d_onG ?_ | refine d_offG ?_ | refine wq_seq ?_ | refine wq_line ?_ | refine wq_draw (by decide +kernel) ?_ | refine wq_block ?_ | refine l_nil ?_ | refine d_nil ?_ | refine wq_skip ?_ | refine wq_ret ?_ | refine wq_exit ?_ | refine th_normal ?_ | refine th_ret ?_ | refine th_exit ?_ | refine bk_normal ?_ | refine bk_ret ?_ | refine bk_exit ?_ | refine bk_other rfl ?_)
    refine l_heap (h' := H1) hH1 ?_
    repeat (first | refine l_go ?_ | refine d_go ?_ | refine l_onG ?_ | refine l_offG ?_ | refine d_onG ?_ | refine d_offG ?_ | refine wq_seq ?_ | refine wq_line ?_ | refine wq_draw (by decide +kernel) ?_ | refine wq_block ?_ | refine l_nil ?_ | refine d_nil ?_ | refine wq_skip ?_ | refine wq_ret ?_ | refine wq_exit ?_ | refine th_normal ?_ | refine th_ret ?_ | refine th_exit ?_ | refine bk_normal ?_ | refine bk_ret ?_ | refine bk_exit ?_ | refine bk_other rfl ?_)
    refine l_callG c1 ?_
    repeat (first | refine l_go ?_ | refine d_go ?_ | refine l_onG ?_ | refine l_offG ?_ | refine d_onG ?_ | refine d_offG ?_ | refine wq_seq ?_ | refine wq_line ?_ | refine wq_draw (by decide +kernel) ?_ | refine wq_block ?_ | refine l_nil ?_ | refine d_nil ?_ | refine wq_skip ?_ | refine wq_ret ?_ | refine wq_exit ?_ | refine th_normal ?_ | refine th_ret ?_ | refine th_exit ?_ | refine bk_normal ?_ | refine bk_ret ?_ | refine bk_exit ?_ | refine bk_other rfl ?_)
    refine l_callG c2 ?_
    repeat (first | refine l_go ?_ | refine d_go ?_ | refine l_onG ?_ | refine l_offG ?_ | refine d_onG ?_ | refine d_offG ?_ | refine wq_seq ?_ | refine wq_line ?_ | refine wq_draw (by decide +kernel) ?_ | refine wq_block ?_ | refine l_nil ?_ | refine d_nil ?_ | refine wq_skip ?_ | refine wq_ret ?_ | refine wq_exit ?_ | refine th_normal ?_ | refine th_ret ?_ | refine th_exit ?_ | refine bk_normal ?_ | refine bk_ret ?_ | refine bk_exit ?_ | refine bk_other rfl ?_)
    refine cond_go (fun hb => ?_) (fun hb => ?_)
    · repeat (first | refine l_go ?_ | refine d_go ?_ | refine l_onG ?_ | refine l_offG ?_ | refine d_onG ?_ | refine d_offG ?_ | refine wq_seq ?_ | refine wq_line ?_ | refine wq_draw (by decide +kernel) ?_ | refine wq_block ?_ | refine l_nil ?_ | refine d_nil ?_ | refine wq_skip ?_ | refine wq_ret ?_ | refine wq_exit ?_ | refine th_normal ?_ | refine th_ret ?_ | refine th_exit ?_ | refine bk_normal ?_ | refine bk_ret ?_ | refine bk_exit ?_ | refine bk_other rfl ?_)
      refine end_ret (by simp only [resRf, resRs, resR]; first | done | rfl) ⟨?_, pend⟩
      simp [put_app, put_none]
    · cases hb
end Go.Proofs.Ytjageapgbpdlhaa.VM
