/- Chapter 7: the statement Backs. -/
import Derived.Test.YtjageapgbpdlhaaBackA
namespace Go.Proofs.Ytjageapgbpdlhaa.VM
open Go
set_option linter.unusedVariables false
set_option linter.unusedSimpArgs false
attribute [local irreducible] wq wqL wqD wqE wqO Th Bk EndR
set_option maxHeartbeats 8000000

theorem rows_one {H : Heap} {x : V} {xs : List Int} {y : Int} (hx : Sl 1 intC H x xs) : Rows (H ++ [.row [x, .int .i64 y] true]) (.slc H.length 0 1 1 true 2) [(xs, y)] := by
  have hm := mine_make (t := true) (List.prefix_refl H) (Cells.one (R := rowC) (cs := [x, .int .i64 y]) (x := (x, y)) rfl rfl)
  refine ⟨[(x, y)], hm.sl, rfl, fun k p r hp hr => ?_⟩
  cases k with
  | zero => simp at hp hr; subst hp; subst hr; exact ⟨hx.mono hm.1, rfl⟩
  | succ k => simp at hp
theorem Rows.at {H : Heap} {v : V} {rs : List (List Int × Int)} (h : Rows H v rs) {k : Nat} {xs : List Int} {y : Int} (hk : rs[k]? = some (xs, y)) : ∃ b o x, idxV T 28 v (k : Int) = some (.ptr b o) ∧ loadV T 26 H b o = some (.agg [x, .int .i64 y]) ∧ loadV T 24 H b o = some x ∧ loadV T 3 H b (o + 1) = some (.int .i64 y) ∧ Sl 1 intC H x xs := by
  obtain ⟨rv, h1, h2, h3⟩ := h
  have hkl : k < rv.length := by rw [h2]; exact (List.getElem?_eq_some_iff.1 hk).1
  obtain ⟨⟨x, z⟩, hp⟩ : ∃ p, rv[k]? = some p := ⟨rv[k], by simp [hkl]⟩
  obtain ⟨hs, hz⟩ := h3 k _ _ hp hk
  obtain rfl : z = y := hz
  obtain ⟨b, o, _, hi, rfl, _, hlo, hlc⟩ := h1.get T28 rfl T26 rfl hp
  exact ⟨b, o, x, hi, loadV_agg T26 rfl hlo, loadV_one T24 rfl (hlc 0 _ rfl), loadV_one T3 rfl (hlc 1 _ rfl), hs⟩

theorem law_backs {D : Type} (K : Heap) (vs : List V) (ds : List (DataW D)) (ro : Ro K) (h : RdAll T K [23, 24, 26] vs ds) : ∃ K', Call Try.prog 3 vs K (.bool true) K' := by
  obtain ⟨s, vs, d1, ds, rfl, rfl, hs, h⟩ := rdAll_cons h
  obtain ⟨w, vs, d2, ds, rfl, rfl, hw, h⟩ := rdAll_cons h
  obtain ⟨r, vs, d3, ds, rfl, rfl, hr, h⟩ := rdAll_cons h
  obtain ⟨rfl, rfl⟩ := rdAll_nil h
  obtain ⟨i, j, rfl⟩ := rd_shape hs
  obtain ⟨ws, hws, lw⟩ := rd_ints hw
  obtain ⟨x, xs, y, rfl, hxs, lx⟩ := rd_row hr
  replace lw : ws.length * 8 ≤ 140737488351232 := lw
  replace lx : xs.length * 8 ≤ 140737488351232 := lx
  clear hs hw hr h
  refine ⟨K, ?_⟩
  refine call_plain fit mixed Try.func3 rfl rfl rfl (by kernel_rfl) rfl ?_
  obtain ⟨rb, hrb⟩ : ∃ rb, (K ++ [.row [.int .i64 i, .int .i64 j] true] : Heap).length = rb := ⟨_, rfl⟩
  obtain ⟨H1, hH1⟩ : ∃ H1, K ++ [.row [.int .i64 i, .int .i64 j] true] ++ [.row [x, .int .i64 y] true] = H1 := ⟨_, rfl⟩
  have p1 : K <+: H1 := by rw [← hH1, List.append_assoc]; exact List.prefix_append _ _
  have q0 : ∀ B, H1 <+: B → loadV T 23 B K.length 0 = some (.agg [.int .i64 i, .int .i64 j]) := fun B hp => by
    refine loadV_agg T23 rfl (loadN_pre hp ?_)
    rw [← hH1, List.append_assoc, loadN_app0]; rfl
  have q1 : ∀ B, H1 <+: B → loadV T 26 B rb 0 = some (.agg [x, .int .i64 y]) := fun B hp => by
    refine loadV_agg T26 rfl (loadN_pre hp ?_)
    rw [← hH1, ← hrb, loadN_app0]; rfl
  obtain ⟨us, H2, c1, p2, hlent⟩ := lendInts_ H1 w ws (hws.mono p1) (by omega)
  obtain ⟨H3, hH3⟩ : ∃ H3, H2 ++ [.row [x, .int .i64 y] true] = H3 := ⟨_, rfl⟩
  have p3 : H2 <+: H3 := by rw [← hH3]; exact List.prefix_append _ _
  have hrow : Rows H3 (.slc H2.length 0 1 1 true 2) [(xs, y)] := by rw [← hH3]; exact rows_one (hxs.mono (p1.trans p2))
  obtain ⟨qv, H4, c2, p4, hq⟩ := copyRows_ H3 _ _ hrow (by simp) (by intro r hr; simp at hr; subst hr; simp; omega)
  have p14 : H1 <+: H4 := p2.trans (p3.trans p4)
  obtain ⟨b0, o0, qx, hi0, hl0, _, _, hqx⟩ := hq.at (k := 0) rfl
  replace hi0 : idxV T 28 qv 0 = some (.ptr b0 o0) := hi0
  obtain ⟨a, H5, c3, m5⟩ := grad_any H4 i j y us qx ws xs (hlent.sl.mono (p3.trans p4)) hqx (by omega) (by omega)
  obtain ⟨b, H6, c4, m6⟩ := refGrad_any H5 i j y w x ws xs (hws.mono (p1.trans (p14.trans m5.1))) (hxs.mono (p1.trans (p14.trans m5.1))) (by omega) (by omega)
  have hgl := gradL_len i j ws xs y
  obtain ⟨e, he⟩ : ∃ e, gradE i j ws xs y = e := ⟨_, rfl⟩
  obtain ⟨G, hG⟩ : ∃ G, gradL i j ws xs y = G := ⟨_, rfl⟩
  rw [he] at c3 c4
  rw [hG] at m5 m6 hgl
  have c5 := sameInts_ H6 a b G G (m5.sl.mono m6.1) m6.sl (by omega)
  rw [decide_eq_true rfl] at c5
  obtain ⟨H7, c6, p7⟩ := spoilInts_ H4 H6 a G (m5.pre m6.1) (by omega)
  have c7 := keptInts_ H7 us w ws ws (hlent.pre (p3.trans (p4.trans p7))) (hws.mono (p1.trans (p14.trans p7))) (by omega)
  rw [decide_eq_true rfl] at c7
  obtain ⟨H8, hH8⟩ : ∃ H8, H7 ++ [.row [x, .int .i64 y] true] = H8 := ⟨_, rfl⟩
  have p8 : H7 <+: H8 := by rw [← hH8]; exact List.prefix_append _ _
  have hrow8 : Rows H8 (.slc H7.length 0 1 1 true 2) [(xs, y)] := by rw [← hH8]; exact rows_one (hxs.mono (p1.trans (p14.trans p7)))
  have c8 := sameRows_ H8 qv (.slc H7.length 0 1 1 true 2) [(xs, y)] [(xs, y)] (hq.mono (p7.trans p8)) hrow8 (by simp) (by intro r hr; simp at hr; subst hr; simp; omega)
  rw [decide_eq_true rfl] at c8
  have c9 := awake7_ H8
  have l1 := q1 H2 p2
  have l2 := q0 H4 p14
  have l3 := q0 H5 (p14.trans m5.1)
  have l4 := q1 H5 (p14.trans m5.1)
  have l5 := q1 H7 (p14.trans p7)
  have p34 : H3 <+: H4 := p4
  have p45 : H4 <+: H5 := m5.1
  have pend : K <+: H8 := p1.trans (p14.trans (p7.trans p8))
  clear hgl he hG m5 m6 p7 p8 hrow hrow8 hq hlent hws hxs lw lx q0 q1 hqx p3 p4 p14
  repeat (first | refine l_go ?_ | refine d_go ?_ | refine l_onG ?_ | refine l_offG ?_ | refine d_onG ?_ | refine d_offG ?_ | refine wq_seq ?_ | refine wq_line ?_ | refine wq_draw (by decide +kernel) ?_ | refine wq_block ?_ | refine l_nil ?_ | refine d_nil ?_ | refine wq_skip ?_ | refine wq_ret ?_ | refine wq_exit ?_ | refine th_normal ?_ | refine th_ret ?_ | refine th_exit ?_ | refine bk_normal ?_ | refine bk_ret ?_ | refine bk_exit ?_ | refine bk_other rfl ?_)
  refine d_heap (h' := H1) hH1 ?_
  rw [hrb]
  repeat (first | refine l_go ?_ | refine d_go ?_ | refine l_onG ?_ | refine l_offG ?_ | refine d_onG ?_ | refine d_offG ?_ | refine wq_seq ?_ | refine wq_line ?_ | refine wq_draw (by decide +kernel) ?_ | refine wq_block ?_ | refine l_nil ?_ | refine d_nil ?_ | refine wq_skip ?_ | refine wq_ret ?_ | refine wq_exit ?_ | refine th_normal ?_ | refine th_ret ?_ | refine th_exit ?_ | refine bk_normal ?_ | refine bk_ret ?_ | refine bk_exit ?_ | refine bk_other rfl ?_)
  refine d_callG c1 (.inl p2) ?_
  repeat (first | refine l_go ?_ | refine d_go ?_ | refine l_onG ?_ | refine l_offG ?_ | refine d_onG ?_ | refine d_offG ?_ | refine wq_seq ?_ | refine wq_line ?_ | refine wq_draw (by decide +kernel) ?_ | refine wq_block ?_ | refine l_nil ?_ | refine d_nil ?_ | refine wq_skip ?_ | refine wq_ret ?_ | refine wq_exit ?_ | refine th_normal ?_ | refine th_ret ?_ | refine th_exit ?_ | refine bk_normal ?_ | refine bk_ret ?_ | refine bk_exit ?_ | refine bk_other rfl ?_)
  refine d_heap (h' := H3) hH3 ?_
  refine d_callG c2 (.inl p34) ?_
  repeat (first | refine l_go ?_ | refine d_go ?_ | refine l_onG ?_ | refine l_offG ?_ | refine d_onG ?_ | refine d_offG ?_ | refine wq_seq ?_ | refine wq_line ?_ | refine wq_draw (by decide +kernel) ?_ | refine wq_block ?_ | refine l_nil ?_ | refine d_nil ?_ | refine wq_skip ?_ | refine wq_ret ?_ | refine wq_exit ?_ | refine th_normal ?_ | refine th_ret ?_ | refine th_exit ?_ | refine bk_normal ?_ | refine bk_ret ?_ | refine bk_exit ?_ | refine bk_other rfl ?_)
  refine d_callG c3 (.inl p45) ?_
  repeat (first | refine l_go ?_ | refine d_go ?_ | refine l_onG ?_ | refine l_offG ?_ | refine d_onG ?_ | refine d_offG ?_ | refine wq_seq ?_ | refine wq_line ?_ | refine wq_draw (by decide +kernel) ?_ | refine wq_block ?_ | refine l_nil ?_ | refine d_nil ?_ | refine wq_skip ?_ | refine wq_ret ?_ | refine wq_exit ?_ | refine th_normal ?_ | refine th_ret ?_ | refine th_exit ?_ | refine bk_normal ?_ | refine bk_ret ?_ | refine bk_exit ?_ | refine bk_other rfl ?_)
  refine l_callG c4 ?_
  repeat (first | refine l_go ?_ | refine d_go ?_ | refine l_onG ?_ | refine l_offG ?_ | refine d_onG ?_ | refine d_offG ?_ | refine wq_seq ?_ | refine wq_line ?_ | refine wq_draw (by decide +kernel) ?_ | refine wq_block ?_ | refine l_nil ?_ | refine d_nil ?_ | refine wq_skip ?_ | refine wq_ret ?_ | refine wq_exit ?_ | refine th_normal ?_ | refine th_ret ?_ | refine th_exit ?_ | refine bk_normal ?_ | refine bk_ret ?_ | refine bk_exit ?_ | refine bk_other rfl ?_)
  refine l_callG c5 ?_
  repeat (first | refine l_go ?_ | refine d_go ?_ | refine l_onG ?_ | refine l_offG ?_ | refine d_onG ?_ | refine d_offG ?_ | refine wq_seq ?_ | refine wq_line ?_ | refine wq_draw (by decide +kernel) ?_ | refine wq_block ?_ | refine l_nil ?_ | refine d_nil ?_ | refine wq_skip ?_ | refine wq_ret ?_ | refine wq_exit ?_ | refine th_normal ?_ | refine th_ret ?_ | refine th_exit ?_ | refine bk_normal ?_ | refine bk_ret ?_ | refine bk_exit ?_ | refine bk_other rfl ?_)
  refine l_callG (num_ _ _) ?_
  repeat (first | refine l_go ?_ | refine d_go ?_ | refine l_onG ?_ | refine l_offG ?_ | refine d_onG ?_ | refine d_offG ?_ | refine wq_seq ?_ | refine wq_line ?_ | refine wq_draw (by decide +kernel) ?_ | refine wq_block ?_ | refine l_nil ?_ | refine d_nil ?_ | refine wq_skip ?_ | refine wq_ret ?_ | refine wq_exit ?_ | refine th_normal ?_ | refine th_ret ?_ | refine th_exit ?_ | refine bk_normal ?_ | refine bk_ret ?_ | refine bk_exit ?_ | refine bk_other rfl ?_)
  refine cond_go (fun hb => ?_) (fun hb => ?_)
  · simp at hb
  clear hb
  repeat (first | refine l_go ?_ | refine d_go ?_ | refine l_onG ?_ | refine l_offG ?_ | refine d_onG ?_ | refine d_offG ?_ | refine wq_seq ?_ | refine wq_line ?_ | refine wq_draw (by decide +kernel) ?_ | refine wq_block ?_ | refine l_nil ?_ | refine d_nil ?_ | refine wq_skip ?_ | refine wq_ret ?_ | refine wq_exit ?_ | refine th_normal ?_ | refine th_ret ?_ | refine th_exit ?_ | refine bk_normal ?_ | refine bk_ret ?_ | refine bk_exit ?_ | refine bk_other rfl ?_)
  refine l_callG c6 ?_
  repeat (first | refine l_go ?_ | refine d_go ?_ | refine l_onG ?_ | refine l_offG ?_ | refine d_onG ?_ | refine d_offG ?_ | refine wq_seq ?_ | refine wq_line ?_ | refine wq_draw (by decide +kernel) ?_ | refine wq_block ?_ | refine l_nil ?_ | refine d_nil ?_ | refine wq_skip ?_ | refine wq_ret ?_ | refine wq_exit ?_ | refine th_normal ?_ | refine th_ret ?_ | refine th_exit ?_ | refine bk_normal ?_ | refine bk_ret ?_ | refine bk_exit ?_ | refine bk_other rfl ?_)
  refine l_callG c7 ?_
  repeat (first | refine l_go ?_ | refine d_go ?_ | refine l_onG ?_ | refine l_offG ?_ | refine d_onG ?_ | refine d_offG ?_ | refine wq_seq ?_ | refine wq_line ?_ | refine wq_draw (by decide +kernel) ?_ | refine wq_block ?_ | refine l_nil ?_ | refine d_nil ?_ | refine wq_skip ?_ | refine wq_ret ?_ | refine wq_exit ?_ | refine th_normal ?_ | refine th_ret ?_ | refine th_exit ?_ | refine bk_normal ?_ | refine bk_ret ?_ | refine bk_exit ?_ | refine bk_other rfl ?_)
  refine l_heap (h' := H8) hH8 ?_
  refine l_callG c8 ?_
  repeat (first | refine l_go ?_ | refine d_go ?_ | refine l_onG ?_ | refine l_offG ?_ | refine d_onG ?_ | refine d_offG ?_ | refine wq_seq ?_ | refine wq_line ?_ | refine wq_draw (by decide +kernel) ?_ | refine wq_block ?_ | refine l_nil ?_ | refine d_nil ?_ | refine wq_skip ?_ | refine wq_ret ?_ | refine wq_exit ?_ | refine th_normal ?_ | refine th_ret ?_ | refine th_exit ?_ | refine bk_normal ?_ | refine bk_ret ?_ | refine bk_exit ?_ | refine bk_other rfl ?_)
  refine l_callG c9 ?_
  repeat (first | refine l_go ?_ | refine d_go ?_ | refine l_onG ?_ | refine l_offG ?_ | refine d_onG ?_ | refine d_offG ?_ | refine wq_seq ?_ | refine wq_line ?_ | refine wq_draw (by decide +kernel) ?_ | refine wq_block ?_ | refine l_nil ?_ | refine d_nil ?_ | refine wq_skip ?_ | refine wq_ret ?_ | refine wq_exit ?_ | refine th_normal ?_ | refine th_ret ?_ | refine th_exit ?_ | refine bk_normal ?_ | refine bk_ret ?_ | refine bk_exit ?_ | refine bk_other rfl ?_)
  refine end_ret (by simp only [resRf, resRs, resR]; first | done | rfl) ⟨?_, pend⟩
  simp [put_app, put_none]
end Go.Proofs.Ytjageapgbpdlhaa.VM
