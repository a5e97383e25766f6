/- Chapter 18: the statement Lineages. -/
import Derived.Test.YtibpfgamiilpkaaLinG
import Derived.Test.YtibpfgamiilpkaaLinC
import Derived.Test.YtibpfgamiilpkaaVmW
namespace Go.Proofs.Ytibpfgamiilpkaa.VM
open Go
set_option linter.unusedVariables false
set_option linter.unusedSimpArgs false
attribute [local irreducible] wq wqL wqD wqE wqO Th Bk EndR
set_option maxHeartbeats 8000000

theorem one_drop {cs : List V} {n j : Nat} {v : V} (hl : cs.length = n) (h : (cs.drop j).take 1 = [v]) : cs[j]? = some v := by
  cases hd : cs[j]? with
  | none =>
    rw [List.drop_eq_nil_of_le (by simpa using hd)] at h
    cases h
  | some x =>
    obtain ⟨hj, rfl⟩ := List.getElem?_eq_some_iff.1 hd
    rw [List.drop_eq_getElem_cons hj] at h
    simp only [List.take_succ_cons, List.take_zero, List.cons.injEq, and_true] at h
    rw [h]

theorem rd_event {K : Heap} {D : Type} {cs : List V} {d : DataW D} (h : Rd T K 34 cs d) : ∃ e, evC cs e := by
  obtain ⟨hl, hf⟩ := h.field T34 rfl
  replace hl : cs.length = 6 := hl
  obtain ⟨x0, h0⟩ := hf 0 _ _ rfl T3
  obtain ⟨x1, h1⟩ := hf 1 _ _ rfl T3
  obtain ⟨x2, h2⟩ := hf 2 _ _ rfl T3
  obtain ⟨x3, h3⟩ := hf 3 _ _ rfl T3
  obtain ⟨x4, h4⟩ := hf 4 _ _ rfl T32
  obtain ⟨hl4, hf4⟩ := h4.field T32 rfl
  obtain ⟨y0, g0⟩ := hf4 0 _ _ rfl T3
  obtain ⟨y1, g1⟩ := hf4 1 _ _ rfl T3
  obtain ⟨n0, e0, _⟩ := h0.isInt T3 rfl
  obtain ⟨n1, e1, _⟩ := h1.isInt T3 rfl
  obtain ⟨n2, e2, _⟩ := h2.isInt T3 rfl
  obtain ⟨n3, e3, _⟩ := h3.isInt T3 rfl
  obtain ⟨n4, e4, _⟩ := g0.isInt T3 rfl
  obtain ⟨n5, e5, _⟩ := g1.isInt T3 rfl
  refine ⟨⟨n0, n1, n2, n3, n4, n5⟩, ?_⟩
  match cs, hl, e0, e1, e2, e3, e4, e5 with
  | [a, b, c, d, e, f], _, e0, e1, e2, e3, e4, e5 =>
    simp at e0 e1 e2 e3 e4 e5
    subst e0; subst e1; subst e2; subst e3; subst e4; subst e5
    rfl

theorem rd_events {K : Heap} {D : Type} {v : V} {d : DataW D} (h : RdV T K 22 v d) : ∃ es, Sl 6 evC K v es ∧ es.length * 48 ≤ reachBytes :=
  (h.plain T22 rfl).isSlice T22 rfl T34 fun cs x hx => rd_event hx

theorem law_lineages {D : Type} (K : Heap) (vs : List V) (ds : List (DataW D)) (ro : Ro K) (h : RdAll T K [22, 3, 3] vs ds) : ∃ K', Call Try.prog 3 vs K (.bool true) K' := by
  obtain ⟨v, vs, d, ds, rfl, rfl, hv, h⟩ := rdAll_cons h
  obtain ⟨u, vs, d, ds, rfl, rfl, hu, h⟩ := rdAll_cons h
  obtain ⟨w, vs, d, ds, rfl, rfl, hw, h⟩ := rdAll_cons h
  obtain ⟨rfl, rfl⟩ := rdAll_nil h
  obtain ⟨n, rfl, hn⟩ := hu.int T3 rfl
  obtain ⟨m, rfl, hm⟩ := hw.int T3 rfl
  obtain ⟨es, hes, hl⟩ := rd_events hv
  replace hl : es.length * 48 ≤ 140737488351232 := hl
  clear hv hu hw hn hm h
  refine ⟨K, ?_⟩
  refine call_plain fit mixed Try.func3 rfl rfl rfl (by kernel_rfl) rfl ?_
  obtain ⟨x, K1, hcall, hp, hlent⟩ := lendEvents K v es hes (by omega)
  have l1 := lineageMay K1 x es n hlent.sl (by omega)
  have l2 := eventsMayRef K1 v es n (hes.mono hp) (by omega)
  have l3 := many K1 x es m hlent.sl (by omega)
  have l4 := manyRef K1 v es m (hes.mono hp) (by omega)
  have l5 := keptEvents K1 x v es es hlent (hes.mono hp) (by omega)
  rw [decide_eq_true rfl] at l5
  have l6 := awake_ K1
  clear hes hlent hl
  repeat (first | refine l_go ?_ | refine d_go ?_ | refine l_onG ?_ | refine l_offG ?_ | refine d_onG ?_ | refine d_offG ?_ | refine wq_seq ?_ | refine wq_line ?_ | refine wq_draw (by decide +kernel) ?_ | refine wq_block ?_ | refine l_nil ?_ | refine d_nil ?_ | refine wq_skip ?_ | refine wq_ret ?_ | refine wq_exit ?_ | refine th_normal ?_ | refine th_ret ?_ | refine th_exit ?_ | refine bk_normal ?_ | refine bk_ret ?_ | refine bk_exit ?_ | refine bk_other rfl ?_)
  refine l_callG hcall ?_
  repeat (first | refine l_go ?_ | refine d_go ?_ | refine l_onG ?_ | refine l_offG ?_ | refine d_onG ?_ | refine d_offG ?_ | refine wq_seq ?_ | refine wq_line ?_ | refine wq_draw (by decide +kernel) ?_ | refine wq_block ?_ | refine l_nil ?_ | refine d_nil ?_ | refine wq_skip ?_ | refine wq_ret ?_ | refine wq_exit ?_ | refine th_normal ?_ | refine th_ret ?_ | refine th_exit ?_ | refine bk_normal ?_ | refine bk_ret ?_ | refine bk_exit ?_ | refine bk_other rfl ?_)
  refine l_callG l1 ?_
  repeat (first | refine l_go ?_ | refine d_go ?_ | refine l_onG ?_ | refine l_offG ?_ | refine d_onG ?_ | refine d_offG ?_ | refine wq_seq ?_ | refine wq_line ?_ | refine wq_draw (by decide +kernel) ?_ | refine wq_block ?_ | refine l_nil ?_ | refine d_nil ?_ | refine wq_skip ?_ | refine wq_ret ?_ | refine wq_exit ?_ | refine th_normal ?_ | refine th_ret ?_ | refine th_exit ?_ | refine bk_normal ?_ | refine bk_ret ?_ | refine bk_exit ?_ | refine bk_other rfl ?_)
  refine l_callG l2 ?_
  repeat (first | refine l_go ?_ | refine d_go ?_ | refine l_onG ?_ | refine l_offG ?_ | refine d_onG ?_ | refine d_offG ?_ | refine wq_seq ?_ | refine wq_line ?_ | refine wq_draw (by decide +kernel) ?_ | refine wq_block ?_ | refine l_nil ?_ | refine d_nil ?_ | refine wq_skip ?_ | refine wq_ret ?_ | refine wq_exit ?_ | refine th_normal ?_ | refine th_ret ?_ | refine th_exit ?_ | refine bk_normal ?_ | refine bk_ret ?_ | refine bk_exit ?_ | refine bk_other rfl ?_)
  refine l_callG l3 ?_
  repeat (first | refine l_go ?_ | refine d_go ?_ | refine l_onG ?_ | refine l_offG ?_ | refine d_onG ?_ | refine d_offG ?_ | refine wq_seq ?_ | refine wq_line ?_ | refine wq_draw (by decide +kernel) ?_ | refine wq_block ?_ | refine l_nil ?_ | refine d_nil ?_ | refine wq_skip ?_ | refine wq_ret ?_ | refine wq_exit ?_ | refine th_normal ?_ | refine th_ret ?_ | refine th_exit ?_ | refine bk_normal ?_ | refine bk_ret ?_ | refine bk_exit ?_ | refine bk_other rfl ?_)
  refine l_callG l4 ?_
  repeat (first | refine l_go ?_ | refine d_go ?_ | refine l_onG ?_ | refine l_offG ?_ | refine d_onG ?_ | refine d_offG ?_ | refine wq_seq ?_ | refine wq_line ?_ | refine wq_draw (by decide +kernel) ?_ | refine wq_block ?_ | refine l_nil ?_ | refine d_nil ?_ | refine wq_skip ?_ | refine wq_ret ?_ | refine wq_exit ?_ | refine th_normal ?_ | refine th_ret ?_ | refine th_exit ?_ | refine bk_normal ?_ | refine bk_ret ?_ | refine bk_exit ?_ | refine bk_other rfl ?_)
  refine l_callG l5 ?_
  repeat (first | refine l_go ?_ | refine d_go ?_ | refine l_onG ?_ | refine l_offG ?_ | refine d_onG ?_ | refine d_offG ?_ | refine wq_seq ?_ | refine wq_line ?_ | refine wq_draw (by decide +kernel) ?_ | refine wq_block ?_ | refine l_nil ?_ | refine d_nil ?_ | refine wq_skip ?_ | refine wq_ret ?_ | refine wq_exit ?_ | refine th_normal ?_ | refine th_ret ?_ | refine th_exit ?_ | refine bk_normal ?_ | refine bk_ret ?_ | refine bk_exit ?_ | refine bk_other rfl ?_)
  refine l_callG l6 ?_
  repeat (first | refine l_go ?_ | refine d_go ?_ | refine l_onG ?_ | refine l_offG ?_ | refine d_onG ?_ | refine d_offG ?_ | refine wq_seq ?_ | refine wq_line ?_ | refine wq_draw (by decide +kernel) ?_ | refine wq_block ?_ | refine l_nil ?_ | refine d_nil ?_ | refine wq_skip ?_ | refine wq_ret ?_ | refine wq_exit ?_ | refine th_normal ?_ | refine th_ret ?_ | refine th_exit ?_ | refine bk_normal ?_ | refine bk_ret ?_ | refine bk_exit ?_ | refine bk_other rfl ?_)
  refine end_ret (by simp only [resRf, resRs, resR]; first | done | rfl) ⟨?_, hp⟩
  simp [put_app, put_none]
end Go.Proofs.Ytibpfgamiilpkaa.VM
