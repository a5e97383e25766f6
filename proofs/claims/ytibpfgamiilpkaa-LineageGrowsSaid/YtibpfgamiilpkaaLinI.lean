/- Chapter 18: the statements LineageCut and LineageMany. -/
import Derived.Test.YtibpfgamiilpkaaLinH
namespace Go.Proofs.Ytibpfgamiilpkaa.VM
open Go
set_option linter.unusedVariables false
set_option linter.unusedSimpArgs false
attribute [local irreducible] wq wqL wqD wqE wqO Th Bk EndR
set_option maxHeartbeats 8000000

theorem u64_pos (n : Int) : 0 ≤ IntKind.u64.wrap n ∧ IntKind.u64.wrap n < 18446744073709551616 := by
  unfold IntKind.wrap
  simp only [IntKind.bits, IntKind.signed, Bool.false_and, Bool.false_eq_true, if_false, Int.reducePow]
  omega
theorem wrap_u64 {n : Int} (h1 : 0 ≤ n) (h2 : n < 18446744073709551616) : IntKind.u64.wrap n = n := by
  unfold IntKind.wrap
  simp only [IntKind.bits, IntKind.signed, Bool.false_and, Bool.false_eq_true, if_false, Int.reducePow]
  omega

theorem eventsMay_all {es : List Ev} {n : Int} (h : eventsMay es n = true) : within n 1 8 = true ∧ es.length ≤ 1024 ∧ ∀ (k : Nat) e, es[k]? = some e → evMay (es.take k) n e = true := by
  unfold eventsMay at h
  simp only [Bool.and_eq_true, decide_eq_true_eq, List.all_eq_true, List.mem_range] at h
  obtain ⟨⟨h1, h2⟩, h3⟩ := h
  refine ⟨h1, h2, fun k e he => ?_⟩
  have := h3 k (List.getElem?_eq_some_iff.1 he).1
  rw [he] at this
  exact this

theorem eventsMay_cut {es : List Ev} {n : Int} (k : Nat) (h : eventsMay es n = true) : eventsMay (es.take k) n = true := by
  obtain ⟨h1, h2, h3⟩ := eventsMay_all h
  refine eventsMay_yes h1 (by rw [List.length_take]; omega) fun j e he => ?_
  rw [List.getElem?_take] at he
  split at he
  · rw [List.take_take, Nat.min_eq_left (by omega)]
    exact h3 j e he
  · cases he

theorem law_lineageCut {D : Type} (K : Heap) (vs : List V) (ds : List (DataW D)) (ro : Ro K) (h : RdAll T K [22, 3, 3] vs ds) : ∃ K', Call Try.prog 6 vs K (.bool true) K' := by
  obtain ⟨v, vs, d, ds, rfl, rfl, hv, h⟩ := rdAll_cons h
  obtain ⟨u, vs, d, ds, rfl, rfl, hu, h⟩ := rdAll_cons h
  obtain ⟨w, vs, d, ds, rfl, rfl, hw, h⟩ := rdAll_cons h
  obtain ⟨rfl, rfl⟩ := rdAll_nil h
  obtain ⟨n, rfl, hn⟩ := hu.int T3 rfl
  obtain ⟨m, rfl, hm⟩ := hw.int T3 rfl
  obtain ⟨es, hes, hl⟩ := rd_events hv
  replace hl : es.length * 48 ≤ 140737488351232 := hl
  clear hv hu hw hn hm h
  refine ⟨K, ?_⟩
  refine call_plain fit mixed Try.func6 rfl rfl rfl (by kernel_rfl) rfl ?_
  have hlen := hes.len T22 rfl
  have w1 : IntKind.i64.wrap ((es.length : Int) + 1) = (es.length : Int) + 1 := wrap_succ (by omega)
  have w2 : IntKind.u64.wrap ((es.length : Int) + 1) = (es.length : Int) + 1 := wrap_u64 (by omega) (by omega)
  have hne : ¬ ((es.length : Int) + 1 = 0) := by omega
  obtain ⟨q, hq, hqe⟩ : ∃ q : Nat, q ≤ es.length ∧ (IntKind.u64.wrap m).tmod ((es.length : Int) + 1) = (q : Int) := by
    have h0 := (u64_pos m).1
    have h1 := Int.tmod_nonneg ((es.length : Int) + 1) h0
    have h2 := Int.tmod_lt_of_pos (IntKind.u64.wrap m) (b := (es.length : Int) + 1) (by omega)
    exact ⟨((IntKind.u64.wrap m).tmod ((es.length : Int) + 1)).toNat, by omega, by omega⟩
  have w3 : IntKind.i64.wrap (q : Int) = (q : Int) := wrap_nat (by omega)
  have l0 := awake_ K
  have l1 := lineageMay K v es n hes (by omega)
  obtain ⟨x, hx, hcut⟩ := hes.take hq
  have l2 := lineageMay K x (es.take q) n hcut (by rw [List.length_take]; omega)
  clear hes hcut hl
  repeat (first | refine l_go ?_ | refine d_go ?_ | refine l_onG ?_ | refine l_offG ?_ | refine d_onG ?_ | refine d_offG ?_ | refine wq_seq ?_ | refine wq_line ?_ | refine wq_draw (by decide +kernel) ?_ | refine wq_block ?_ | refine l_nil ?_ | refine d_nil ?_ | refine wq_skip ?_ | refine wq_ret ?_ | refine wq_exit ?_ | refine th_normal ?_ | refine th_ret ?_ | refine th_exit ?_ | refine bk_normal ?_ | refine bk_ret ?_ | refine bk_exit ?_ | refine bk_other rfl ?_)
  refine l_callG l0 ?_
  repeat (first | refine l_go ?_ | refine d_go ?_ | refine l_onG ?_ | refine l_offG ?_ | refine d_onG ?_ | refine d_offG ?_ | refine wq_seq ?_ | refine wq_line ?_ | refine wq_draw (by decide +kernel) ?_ | refine wq_block ?_ | refine l_nil ?_ | refine d_nil ?_ | refine wq_skip ?_ | refine wq_ret ?_ | refine wq_exit ?_ | refine th_normal ?_ | refine th_ret ?_ | refine th_exit ?_ | refine bk_normal ?_ | refine bk_ret ?_ | refine bk_exit ?_ | refine bk_other rfl ?_)
  refine cond_go (fun hb => ?_) (fun hb => ?_)
  · cases hb
  · clear hb
    repeat (first | refine l_go ?_ | refine d_go ?_ | refine l_onG ?_ | refine l_offG ?_ | refine d_onG ?_ | refine d_offG ?_ | refine wq_seq ?_ | refine wq_line ?_ | refine wq_draw (by decide +kernel) ?_ | refine wq_block ?_ | refine l_nil ?_ | refine d_nil ?_ | refine wq_skip ?_ | refine wq_ret ?_ | refine wq_exit ?_ | refine th_normal ?_ | refine th_ret ?_ | refine th_exit ?_ | refine bk_normal ?_ | refine bk_ret ?_ | refine bk_exit ?_ | refine bk_other rfl ?_)
    refine l_callG l1 ?_
    cases hmay : eventsMay es n
    · repeat (first | refine l_go ?_ | refine d_go ?_ | refine l_onG ?_ | refine l_offG ?_ | refine d_onG ?_ | refine d_offG ?_ | refine wq_seq ?_ | refine wq_line ?_ | refine wq_draw (by decide +kernel) ?_ | refine wq_block ?_ | refine l_nil ?_ | refine d_nil ?_ | refine wq_skip ?_ | refine wq_ret ?_ | refine wq_exit ?_ | refine th_normal ?_ | refine th_ret ?_ | refine th_exit ?_ | refine bk_normal ?_ | refine bk_ret ?_ | refine bk_exit ?_ | refine bk_other rfl ?_)
      refine end_ret (by simp only [resRf, resRs, resR]; first | done | rfl) ⟨?_, by first | exact List.prefix_refl _ | exact List.prefix_append _ _ | assumption | (refine List.IsPrefix.trans (by assumption) (List.prefix_append _ _)) | (simp only [List.append_assoc, List.cons_append, List.nil_append, List.set_cons_zero, List.set_cons_succ]; exact ⟨_, by simp only [List.append_assoc, List.cons_append, List.nil_append]; rfl⟩)⟩; simp [put_app, put_none, *]
    · rw [eventsMay_cut q hmay] at l2
      repeat (first | refine l_go ?_ | refine d_go ?_ | refine l_onG ?_ | refine l_offG ?_ | refine d_onG ?_ | refine d_offG ?_ | refine wq_seq ?_ | refine wq_line ?_ | refine wq_draw (by decide +kernel) ?_ | refine wq_block ?_ | refine l_nil ?_ | refine d_nil ?_ | refine wq_skip ?_ | refine wq_ret ?_ | refine wq_exit ?_ | refine th_normal ?_ | refine th_ret ?_ | refine th_exit ?_ | refine bk_normal ?_ | refine bk_ret ?_ | refine bk_exit ?_ | refine bk_other rfl ?_)
      refine l_callG l2 ?_
      repeat (first | refine l_go ?_ | refine d_go ?_ | refine l_onG ?_ | refine l_offG ?_ | refine d_onG ?_ | refine d_offG ?_ | refine wq_seq ?_ | refine wq_line ?_ | refine wq_draw (by decide +kernel) ?_ | refine wq_block ?_ | refine l_nil ?_ | refine d_nil ?_ | refine wq_skip ?_ | refine wq_ret ?_ | refine wq_exit ?_ | refine th_normal ?_ | refine th_ret ?_ | refine th_exit ?_ | refine bk_normal ?_ | refine bk_ret ?_ | refine bk_exit ?_ | refine bk_other rfl ?_)
      refine end_ret (by simp only [resRf, resRs, resR]; first | done | rfl) ⟨?_, by first | exact List.prefix_refl _ | exact List.prefix_append _ _ | assumption | (refine List.IsPrefix.trans (by assumption) (List.prefix_append _ _)) | (simp only [List.append_assoc, List.cons_append, List.nil_append, List.set_cons_zero, List.set_cons_succ]; exact ⟨_, by simp only [List.append_assoc, List.cons_append, List.nil_append]; rfl⟩)⟩; simp [put_app, put_none, *]
end Go.Proofs.Ytibpfgamiilpkaa.VM
