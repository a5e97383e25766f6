/- Chapter 18: the statement LineageGrows. -/
import Derived.Test.YtibpfgamiilpkaaLinJ
namespace Go.Proofs.Ytibpfgamiilpkaa.VM
open Go
set_option linter.unusedVariables false
set_option linter.unusedSimpArgs false
attribute [local irreducible] wq wqL wqD wqE wqO Th Bk EndR
set_option maxHeartbeats 8000000

theorem eventsMay_snoc {es : List Ev} {n : Int} {e : Ev} (h : eventsMay es n = true) (hl : es.length < 1024) : eventsMay (es ++ [e]) n = evMay es n e := by
  obtain ⟨h1, h2, h3⟩ := eventsMay_all h
  cases he : evMay es n e with
  | false =>
    refine eventsMay_no (k := es.length) (e := e) (by simp) ?_
    rw [List.take_left]; exact he
  | true =>
    refine eventsMay_yes h1 (by simp; omega) fun k x hx => ?_
    by_cases hk : k < es.length
    · rw [List.getElem?_append_left hk] at hx
      rw [List.take_append_of_le_length (by omega)]
      exact h3 k x hx
    · have : k = es.length := by have := (List.getElem?_eq_some_iff.1 hx).1; simp at this; omega
      subst this
      simp at hx
      subst hx
      rw [List.take_left]; exact he

theorem explored_snoc (es : List Ev) (e : Ev) (m : Int) : explored (es ++ [e]) m = if e.member = m then e.kind == 1 else explored es m := by
  have := explored_succ (es := es ++ [e]) (m := m) (k := es.length) (e := e) (by simp)
  rw [List.take_of_length_le (by simp), List.take_left] at this
  exact this

theorem own_copy (H : Heap) (w : V) (ys : List Ev) (h : Sl 6 evC H w ys) (hl : ys.length * 48 ≤ 2 ^ 47) :
    ∃ news v b H', newsOf T (T 34).get! 22 w (H ++ [.row [] true]) = some (ys.length, news) ∧ appendV (T 34).get! (.slc H.length 0 0 0 true 6) ys.length news (H ++ [.row [] true]) = some (v, H') ∧ Own 6 evC H' b v ys ∧ H <+: H' ∧ H.length ≤ b := by
  have hes' := h.mono (List.prefix_append H [.row [] true])
  obtain ⟨news, hn, hc⟩ := hes'.news T22 rfl (ie := (T 34).get!) rfl
  obtain ⟨u, b, H', ha, ho, hf, hb⟩ := own_append (ie := (T 34).get!) (own_make (t := true) H Cells.nil) rfl hc ⟨by show (0 + ys.length) * 48 ≤ _; omega, by show 0 + ys.length ≤ _; omega⟩
  exact ⟨news, u, b, H', hn, ha, ho, hf.pre (List.prefix_append _ _) (Nat.le_refl _), by simp at hb; omega⟩

theorem own_more {B H : Heap} {b : Nat} {v : V} {xs : List Ev} (e : Ev) (ho : Own 6 evC H b v xs) (hp : B <+: H) (hb : B.length ≤ b) (hl : (xs.length + 1) * 48 ≤ 2 ^ 47) :
    ∃ v' b' H', newsOf T (T 34).get! 22 (.slc H.length 0 1 1 true 6) (H ++ [.row e.cells true]) = some (1, e.cells) ∧ appendV (T 34).get! v 1 e.cells (H ++ [.row e.cells true]) = some (v', H') ∧ Own 6 evC H' b' v' (xs ++ [e]) ∧ B <+: H' ∧ B.length ≤ b' := by
  have ho' := ho.pre (List.prefix_append H [.row e.cells true])
  obtain ⟨u, b', H', ha, hw, hf, hb'⟩ := own_append (ie := (T 34).get!) ho' rfl (Cells.one (cs := e.cells) (x := e) rfl rfl) ⟨hl, by simp; omega⟩
  refine ⟨u, b', H', news_row T22 rfl (by decide) rfl, ha, hw, hf.pre (hp.trans (List.prefix_append _ _)) hb, ?_⟩
  have := ho.lt
  have h2 := hp.length_le
  simp at hb'
  omega

theorem rem_in (m : Int) {nn : Nat} (h1 : 1 ≤ nn) (h2 : nn ≤ 8) : ∃ q : Nat, q < nn ∧ (IntKind.u64.wrap m).tmod (nn : Int) = (q : Int) := by
  have h0 := (u64_pos m).1
  have h3 := Int.tmod_nonneg (nn : Int) h0
  have h4 := Int.tmod_lt_of_pos (IntKind.u64.wrap m) (b := (nn : Int)) (by omega)
  exact ⟨((IntKind.u64.wrap m).tmod (nn : Int)).toNat, by omega, by omega⟩

theorem law_lineageGrows {D : Type} (K : Heap) (vs : List V) (ds : List (DataW D)) (ro : Ro K) (h : RdAll T K [22, 3, 3, 3] vs ds) : ∃ K', Call Try.prog 7 vs K (.bool true) K' := by
  obtain ⟨v, vs, d1, ds, rfl, rfl, hv, h⟩ := rdAll_cons h
  obtain ⟨u, vs, d2, ds, rfl, rfl, hu, h⟩ := rdAll_cons h
  obtain ⟨w, vs, d3, ds, rfl, rfl, hw, h⟩ := rdAll_cons h
  obtain ⟨z, vs, d4, ds, rfl, rfl, hz, h⟩ := rdAll_cons h
  obtain ⟨rfl, rfl⟩ := rdAll_nil h
  obtain ⟨n, rfl, hn⟩ := hu.int T3 rfl
  obtain ⟨m, rfl, hm⟩ := hw.int T3 rfl
  obtain ⟨m2, rfl, hm2⟩ := hz.int T3 rfl
  obtain ⟨es, hes, hl⟩ := rd_events hv
  replace hl : es.length * 48 ≤ 140737488351232 := hl
  clear hv hu hw hz hn hm hm2 h
  refine ⟨K, ?_⟩
  refine call_plain fit mixed Try.func7 rfl rfl rfl (by kernel_rfl) rfl ?_
  have hlen := hes.len T22 rfl
  have l0 := awake_ K
  have l1 := lineageMay K v es n hes (by omega)
  repeat (first | refine l_go ?_ | refine d_go ?_ | refine l_onG ?_ | refine l_offG ?_ | refine d_onG ?_ | refine d_offG ?_ | refine wq_seq ?_ | refine wq_line ?_ | refine wq_draw (by decide +kernel) ?_ | refine wq_block ?_ | refine l_nil ?_ | refine d_nil ?_ | refine wq_skip ?_ | refine wq_ret ?_ | refine wq_exit ?_ | refine th_normal ?_ | refine th_ret ?_ | refine th_exit ?_ | refine bk_normal ?_ | refine bk_ret ?_ | refine bk_exit ?_ | refine bk_other rfl ?_)
  refine l_callG l0 ?_
  repeat (first | refine l_go ?_ | refine d_go ?_ | refine l_onG ?_ | refine l_offG ?_ | refine d_onG ?_ | refine d_offG ?_ | refine wq_seq ?_ | refine wq_line ?_ | refine wq_draw (by decide +kernel) ?_ | refine wq_block ?_ | refine l_nil ?_ | refine d_nil ?_ | refine wq_skip ?_ | refine wq_ret ?_ | refine wq_exit ?_ | refine th_normal ?_ | refine th_ret ?_ | refine th_exit ?_ | refine bk_normal ?_ | refine bk_ret ?_ | refine bk_exit ?_ | refine bk_other rfl ?_)
  refine cond_go (fun hb => ?_) (fun hb => ?_)
  · cases hb
  clear hb l0
  cases hmay : eventsMay es n
  · rw [hmay] at l1
    repeat (first | refine l_go ?_ | refine d_go ?_ | refine l_onG ?_ | refine l_offG ?_ | refine d_onG ?_ | refine d_offG ?_ | refine wq_seq ?_ | refine wq_line ?_ | refine wq_draw (by decide +kernel) ?_ | refine wq_block ?_ | refine l_nil ?_ | refine d_nil ?_ | refine wq_skip ?_ | refine wq_ret ?_ | refine wq_exit ?_ | refine th_normal ?_ | refine th_ret ?_ | refine th_exit ?_ | refine bk_normal ?_ | refine bk_ret ?_ | refine bk_exit ?_ | refine bk_other rfl ?_)
    refine l_callG l1 ?_
    repeat (first | refine l_go ?_ | refine d_go ?_ | refine l_onG ?_ | refine l_offG ?_ | refine d_onG ?_ | refine d_offG ?_ | refine wq_seq ?_ | refine wq_line ?_ | refine wq_draw (by decide +kernel) ?_ | refine wq_block ?_ | refine l_nil ?_ | refine d_nil ?_ | refine wq_skip ?_ | refine wq_ret ?_ | refine wq_exit ?_ | refine th_normal ?_ | refine th_ret ?_ | refine th_exit ?_ | refine bk_normal ?_ | refine bk_ret ?_ | refine bk_exit ?_ | refine bk_other rfl ?_)
    refine cond_go (fun hb => ?_) (fun hb => ?_)
    · repeat (first | refine l_go ?_ | refine d_go ?_ | refine l_onG ?_ | refine l_offG ?_ | refine d_onG ?_ | refine d_offG ?_ | refine wq_seq ?_ | refine wq_line ?_ | refine wq_draw (by decide +kernel) ?_ | refine wq_block ?_ | refine l_nil ?_ | refine d_nil ?_ | refine wq_skip ?_ | refine wq_ret ?_ | refine wq_exit ?_ | refine th_normal ?_ | refine th_ret ?_ | refine th_exit ?_ | refine bk_normal ?_ | refine bk_ret ?_ | refine bk_exit ?_ | refine bk_other rfl ?_)
      refine end_ret (by simp only [resRf, resRs, resR]; first | done | rfl) ⟨?_, by first | exact List.prefix_refl _ | exact List.prefix_append _ _ | assumption | (refine List.IsPrefix.trans (by assumption) (List.prefix_append _ _)) | (simp only [List.append_assoc, List.cons_append, List.nil_append, List.set_cons_zero, List.set_cons_succ]; exact ⟨_, by simp only [List.append_assoc, List.cons_append, List.nil_append]; rfl⟩)⟩; simp [put_app, put_none, *]
    · cases hb
  rw [hmay] at l1
  repeat (first | refine l_go ?_ | refine d_go ?_ | refine l_onG ?_ | refine l_offG ?_ | refine d_onG ?_ | refine d_offG ?_ | refine wq_seq ?_ | refine wq_line ?_ | refine wq_draw (by decide +kernel) ?_ | refine wq_block ?_ | refine l_nil ?_ | refine d_nil ?_ | refine wq_skip ?_ | refine wq_ret ?_ | refine wq_exit ?_ | refine th_normal ?_ | refine th_ret ?_ | refine th_exit ?_ | refine bk_normal ?_ | refine bk_ret ?_ | refine bk_exit ?_ | refine bk_other rfl ?_)
  refine l_callG l1 ?_
  repeat (first | refine l_go ?_ | refine d_go ?_ | refine l_onG ?_ | refine l_offG ?_ | refine d_onG ?_ | refine d_offG ?_ | refine wq_seq ?_ | refine wq_line ?_ | refine wq_draw (by decide +kernel) ?_ | refine wq_block ?_ | refine l_nil ?_ | refine d_nil ?_ | refine wq_skip ?_ | refine wq_ret ?_ | refine wq_exit ?_ | refine th_normal ?_ | refine th_ret ?_ | refine th_exit ?_ | refine bk_normal ?_ | refine bk_ret ?_ | refine bk_exit ?_ | refine bk_other rfl ?_)
  by_cases hn2 : n < 2
  · have hn2' : decide (n < 2) = true := decide_eq_true hn2
    clear hn2
    repeat (first | refine l_go ?_ | refine d_go ?_ | refine l_onG ?_ | refine l_offG ?_ | refine d_onG ?_ | refine d_offG ?_ | refine wq_seq ?_ | refine wq_line ?_ | refine wq_draw (by decide +kernel) ?_ | refine wq_block ?_ | refine l_nil ?_ | refine d_nil ?_ | refine wq_skip ?_ | refine wq_ret ?_ | refine wq_exit ?_ | refine th_normal ?_ | refine th_ret ?_ | refine th_exit ?_ | refine bk_normal ?_ | refine bk_ret ?_ | refine bk_exit ?_ | refine bk_other rfl ?_)
    refine cond_go (fun hb => ?_) (fun hb => ?_)
    · repeat (first | refine l_go ?_ | refine d_go ?_ | refine l_onG ?_ | refine l_offG ?_ | refine d_onG ?_ | refine d_offG ?_ | refine wq_seq ?_ | refine wq_line ?_ | refine wq_draw (by decide +kernel) ?_ | refine wq_block ?_ | refine l_nil ?_ | refine d_nil ?_ | refine wq_skip ?_ | refine wq_ret ?_ | refine wq_exit ?_ | refine th_normal ?_ | refine th_ret ?_ | refine th_exit ?_ | refine bk_normal ?_ | refine bk_ret ?_ | refine bk_exit ?_ | refine bk_other rfl ?_)
      refine end_ret (by simp only [resRf, resRs, resR]; first | done | rfl) ⟨?_, by first | exact List.prefix_refl _ | exact List.prefix_append _ _ | assumption | (refine List.IsPrefix.trans (by assumption) (List.prefix_append _ _)) | (simp only [List.append_assoc, List.cons_append, List.nil_append, List.set_cons_zero, List.set_cons_succ]; exact ⟨_, by simp only [List.append_assoc, List.cons_append, List.nil_append]; rfl⟩)⟩; simp [put_app, put_none, *]
    · cases hb
  by_cases hn3 : (es.length : Int) > 1021
  · have hn2' : decide (n < 2) = false := decide_eq_false hn2
    have hn3' : decide ((es.length : Int) > 1021) = true := decide_eq_true hn3
    clear hn2 hn3
    repeat (first | refine l_go ?_ | refine d_go ?_ | refine l_onG ?_ | refine l_offG ?_ | refine d_onG ?_ | refine d_offG ?_ | refine wq_seq ?_ | refine wq_line ?_ | refine wq_draw (by decide +kernel) ?_ | refine wq_block ?_ | refine l_nil ?_ | refine d_nil ?_ | refine wq_skip ?_ | refine wq_ret ?_ | refine wq_exit ?_ | refine th_normal ?_ | refine th_ret ?_ | refine th_exit ?_ | refine bk_normal ?_ | refine bk_ret ?_ | refine bk_exit ?_ | refine bk_other rfl ?_)
    refine cond_go (fun hb => ?_) (fun hb => ?_)
    · repeat (first | refine l_go ?_ | refine d_go ?_ | refine l_onG ?_ | refine l_offG ?_ | refine d_onG ?_ | refine d_offG ?_ | refine wq_seq ?_ | refine wq_line ?_ | refine wq_draw (by decide +kernel) ?_ | refine wq_block ?_ | refine l_nil ?_ | refine d_nil ?_ | refine wq_skip ?_ | refine wq_ret ?_ | refine wq_exit ?_ | refine th_normal ?_ | refine th_ret ?_ | refine th_exit ?_ | refine bk_normal ?_ | refine bk_ret ?_ | refine bk_exit ?_ | refine bk_other rfl ?_)
      refine end_ret (by simp only [resRf, resRs, resR]; first | done | rfl) ⟨?_, by first | exact List.prefix_refl _ | exact List.prefix_append _ _ | assumption | (refine List.IsPrefix.trans (by assumption) (List.prefix_append _ _)) | (simp only [List.append_assoc, List.cons_append, List.nil_append, List.set_cons_zero, List.set_cons_succ]; exact ⟨_, by simp only [List.append_assoc, List.cons_append, List.nil_append]; rfl⟩)⟩; simp [put_app, put_none, *]
    · cases hb
  have hn2' : decide (n < 2) = false := decide_eq_false hn2
  have hn3' : decide ((es.length : Int) > 1021) = false := decide_eq_false hn3
  have hw := (eventsMay_all hmay).1
  simp [within] at hw
  obtain ⟨nn, rfl⟩ : ∃ nn : Nat, n = (nn : Int) := ⟨n.toNat, by omega⟩
  have hnn1 : 2 ≤ nn := by omega
  have hnn2 : nn ≤ 8 := by omega
  have hel : es.length ≤ 1021 := by omega
  clear hw hn2 hn3 hl
  have nz : ¬ ((nn : Int) = 0) := by omega
  have u1 : IntKind.u64.wrap (nn : Int) = (nn : Int) := wrap_u64 (by omega) (by omega)
  obtain ⟨a, ha, hra⟩ := rem_in m (nn := nn) (by omega) hnn2
  obtain ⟨c, hc, hrc⟩ := rem_in m2 (nn := nn) (by omega) hnn2
  have wa : IntKind.i64.wrap (a : Int) = (a : Int) := wrap_nat (by omega)
  have wc : IntKind.i64.wrap (c : Int) = (c : Int) := wrap_nat (by omega)
  obtain ⟨news, x1, b1, K1, n1, a1, o1, p1, q1⟩ := own_copy K v es hes (by omega)
  obtain ⟨x2, b2, K2, n2, a2, o2, p2, q2⟩ := own_more ⟨0, a, 0, 0, 0, 0⟩ o1 p1 q1 (by omega)
  have ina : within (a : Int) 0 ((nn : Int) - 1) = true := by rw [within_lt]; simp; omega
  have inc : within (c : Int) 0 ((nn : Int) - 1) = true := by rw [within_lt]; simp; omega
  have y1 : eventsMay (es ++ [⟨0, a, 0, 0, 0, 0⟩]) nn = true := by
    rw [eventsMay_snoc hmay (by omega)]
    rw [evMay_0 rfl, ina]; rfl
  have l2 := lineageMay K2 x2 _ nn o2.sl (by simp; omega)
  rw [y1] at l2
  have w2 := fun (B : Heap) (hp : K2 <+: B) => lineageMay B x2 _ nn (o2.pre hp).sl (by simp; omega)
  have hex : explored (es ++ [⟨0, a, 0, 0, 0, 0⟩]) a = false := by rw [explored_snoc, if_pos rfl]; rfl
  -- y
  obtain ⟨K3, hK3⟩ : ∃ K3, K2 ++ [.row [.int .i64 64, .int .i64 0] true] = K3 := ⟨_, rfl⟩
  have p3 : K2 <+: K3 := by rw [← hK3]; exact List.prefix_append _ _
  obtain ⟨news4, x4, b4, K4, n4, a4, o4, p4, q4⟩ := own_copy K3 x2 _ (o2.pre p3).sl (by simp; omega)
  obtain ⟨x5, b5, K5, n5, a5, o5, p5, q5⟩ := own_more ⟨2, a, 0, 0, 64, 0⟩ o4 p4 q4 (by simp; omega)
  have y5 : eventsMay (es ++ [⟨0, a, 0, 0, 0, 0⟩] ++ [⟨2, a, 0, 0, 64, 0⟩]) nn = false := by
    rw [eventsMay_snoc y1 (by simp; omega), evMay_2 rfl]
    simp only [hex, Bool.and_false]
  have l5 := lineageMay K5 x5 _ nn o5.sl (by simp; omega)
  rw [y5] at l5
  -- z
  obtain ⟨news6, x6, b6, K6, n6, a6, o6, p6, q6⟩ := own_copy K5 x2 _ (o2.pre (p3.trans p5)).sl (by simp; omega)
  have lm := many K6 x2 _ c (o2.pre (p3.trans (p5.trans p6))).sl (by simp; omega)
  obtain ⟨mb, hmb⟩ : ∃ mb, manyOf (es ++ [⟨0, a, 0, 0, 0, 0⟩]) c = mb := ⟨_, rfl⟩
  rw [hmb] at lm
  obtain ⟨x7, b7, K7, n7, a7, o7, p7, q7⟩ := own_more ⟨1, a, c, mb, 0, 0⟩ o6 p6 q6 (by simp; omega)
  obtain ⟨x8, b8, K8, n8, a8, o8, p8, q8⟩ := own_more ⟨2, a, 0, 0, 64, 0⟩ o7 p7 q7 (by simp; omega)
  have ld : ∀ B, K3 <+: B → loadV T 32 B K2.length 0 = some (.agg [.int .i64 64, .int .i64 0]) := fun B hB => by
    refine loadV_agg T32 rfl (loadN_pre hB ?_)
    rw [← hK3, loadN_app0]; rfl
  have ld4 := ld K4 p4
  have ld7 := ld K7 (p5.trans p7)
  have pend : K <+: K8 := p2.trans (p3.trans (p5.trans p8))
  obtain ⟨r, hr⟩ : ∃ r, ((a : Int) != (c : Int)) = r := ⟨_, rfl⟩
  have y7 : eventsMay (es ++ [⟨0, a, 0, 0, 0, 0⟩] ++ [⟨1, a, c, mb, 0, 0⟩]) nn = r := by
    rw [eventsMay_snoc y1 (by simp; omega), evMay_1 rfl]
    simp only [ina, inc, hmb, beq_self_eq_true, Bool.and_true, Bool.true_and]
    rw [← hr, bne_comm]
  have l7 := lineageMay K7 x7 _ nn o7.sl (by simp; omega)
  rw [y7] at l7
  have y8 : eventsMay (es ++ [⟨0, a, 0, 0, 0, 0⟩] ++ [⟨1, a, c, mb, 0, 0⟩] ++ [⟨2, a, 0, 0, 64, 0⟩]) nn = r := by
    cases r with
    | true =>
      rw [eventsMay_snoc y7 (by simp; omega), evMay_2 rfl, explored_snoc, if_pos rfl]
      simp only [ina]; decide
    | false =>
      cases hc : eventsMay (es ++ [(⟨0, a, 0, 0, 0, 0⟩ : Ev)] ++ [(⟨1, a, c, mb, 0, 0⟩ : Ev)] ++ [(⟨2, a, 0, 0, 64, 0⟩ : Ev)]) nn with
      | false => rfl
      | true =>
        have := eventsMay_cut (es ++ [(⟨0, a, 0, 0, 0, 0⟩ : Ev)] ++ [(⟨1, a, c, mb, 0, 0⟩ : Ev)]).length hc
        rw [List.take_left, y7] at this
        cases this
  have l8 := lineageMay K8 x8 _ nn o8.sl (by simp; omega)
  rw [y8] at l8
  clear o1 o2 o4 o5 o6 o7 o8 y1 y5 y7 y8 w2 hex ld p1 p2 p3 p4 p5 p6 p7 p8 q1 q2 q4 q5 q6 q7 q8 ha hc hnn1 hnn2 hel hmay hmb hes ina inc l1
  repeat (first | refine l_go ?_ | refine d_go ?_ | refine l_onG ?_ | refine l_offG ?_ | refine d_onG ?_ | refine d_offG ?_ | refine wq_seq ?_ | refine wq_line ?_ | refine wq_draw (by decide +kernel) ?_ | refine wq_block ?_ | refine l_nil ?_ | refine d_nil ?_ | refine wq_skip ?_ | refine wq_ret ?_ | refine wq_exit ?_ | refine th_normal ?_ | refine th_ret ?_ | refine th_exit ?_ | refine bk_normal ?_ | refine bk_ret ?_ | refine bk_exit ?_ | refine bk_other rfl ?_)
  refine cond_go (fun hb => ?_) (fun hb => ?_)
  · cases hb
  clear hb
  refine wq_cut (fun ρ => ρ 0 = v ∧ ρ 1 = .int .i64 nn ∧ ρ 2 = .int .i64 m ∧ ρ 3 = .int .i64 m2) ⟨rfl, rfl, rfl, rfl⟩ ?_
  rintro ρ ⟨h0, h1, h2, h3⟩
  repeat (first | refine l_go ?_ | refine d_go ?_ | refine l_onG ?_ | refine l_offG ?_ | refine d_onG ?_ | refine d_offG ?_ | refine wq_seq ?_ | refine wq_line ?_ | refine wq_draw (by decide +kernel) ?_ | refine wq_block ?_ | refine l_nil ?_ | refine d_nil ?_ | refine wq_skip ?_ | refine wq_ret ?_ | refine wq_exit ?_ | refine th_normal ?_ | refine th_ret ?_ | refine th_exit ?_ | refine bk_normal ?_ | refine bk_ret ?_ | refine bk_exit ?_ | refine bk_other rfl ?_)
  refine l_appendG n1 a1 ?_
  repeat (first | refine l_go ?_ | refine d_go ?_ | refine l_onG ?_ | refine l_offG ?_ | refine d_onG ?_ | refine d_offG ?_ | refine wq_seq ?_ | refine wq_line ?_ | refine wq_draw (by decide +kernel) ?_ | refine wq_block ?_ | refine l_nil ?_ | refine d_nil ?_ | refine wq_skip ?_ | refine wq_ret ?_ | refine wq_exit ?_ | refine th_normal ?_ | refine th_ret ?_ | refine th_exit ?_ | refine bk_normal ?_ | refine bk_ret ?_ | refine bk_exit ?_ | refine bk_other rfl ?_)
  refine l_appendG n2 a2 ?_
  repeat (first | refine l_go ?_ | refine d_go ?_ | refine l_onG ?_ | refine l_offG ?_ | refine d_onG ?_ | refine d_offG ?_ | refine wq_seq ?_ | refine wq_line ?_ | refine wq_draw (by decide +kernel) ?_ | refine wq_block ?_ | refine l_nil ?_ | refine d_nil ?_ | refine wq_skip ?_ | refine wq_ret ?_ | refine wq_exit ?_ | refine th_normal ?_ | refine th_ret ?_ | refine th_exit ?_ | refine bk_normal ?_ | refine bk_ret ?_ | refine bk_exit ?_ | refine bk_other rfl ?_)
  refine l_callG l2 ?_
  repeat (first | refine l_go ?_ | refine d_go ?_ | refine l_onG ?_ | refine l_offG ?_ | refine d_onG ?_ | refine d_offG ?_ | refine wq_seq ?_ | refine wq_line ?_ | refine wq_draw (by decide +kernel) ?_ | refine wq_block ?_ | refine l_nil ?_ | refine d_nil ?_ | refine wq_skip ?_ | refine wq_ret ?_ | refine wq_exit ?_ | refine th_normal ?_ | refine th_ret ?_ | refine th_exit ?_ | refine bk_normal ?_ | refine bk_ret ?_ | refine bk_exit ?_ | refine bk_other rfl ?_)
  refine cond_go (fun hb => ?_) (fun hb => ?_)
  · cases hb
  clear hb n1 a1 n2 a2 l2
  refine wq_cut (fun ρ => ρ 1 = .int .i64 nn ∧ ρ 9 = .int .i64 a ∧ ρ 10 = .int .i64 c ∧ ρ 11 = x2) ⟨h1, rfl, rfl, rfl⟩ ?_
  clear h0 h1 h2 h3
  clear ρ
  rintro ρ ⟨h1, h9, h10, h11⟩
  repeat (first | refine l_goB ?_ | refine d_goB ?_ | refine l_onG ?_ | refine l_offG ?_ | refine d_onG ?_ | refine d_offG ?_ | refine wq_seq ?_ | refine wq_line ?_ | refine wq_draw (by decide +kernel) ?_ | refine wq_block ?_ | refine l_nil ?_ | refine d_nil ?_ | refine wq_skip ?_ | refine wq_ret ?_ | refine wq_exit ?_ | refine th_normal ?_ | refine th_ret ?_ | refine th_exit ?_ | refine bk_normal ?_ | refine bk_ret ?_ | refine bk_exit ?_ | refine bk_other rfl ?_)
  refine l_heap (h' := K3) hK3 ?_
  repeat (first | refine l_go ?_ | refine d_go ?_ | refine l_onG ?_ | refine l_offG ?_ | refine d_onG ?_ | refine d_offG ?_ | refine wq_seq ?_ | refine wq_line ?_ | refine wq_draw (by decide +kernel) ?_ | refine wq_block ?_ | refine l_nil ?_ | refine d_nil ?_ | refine wq_skip ?_ | refine wq_ret ?_ | refine wq_exit ?_ | refine th_normal ?_ | refine th_ret ?_ | refine th_exit ?_ | refine bk_normal ?_ | refine bk_ret ?_ | refine bk_exit ?_ | refine bk_other rfl ?_)
  refine l_appendG n4 a4 ?_
  repeat (first | refine l_go ?_ | refine d_go ?_ | refine l_onG ?_ | refine l_offG ?_ | refine d_onG ?_ | refine d_offG ?_ | refine wq_seq ?_ | refine wq_line ?_ | refine wq_draw (by decide +kernel) ?_ | refine wq_block ?_ | refine l_nil ?_ | refine d_nil ?_ | refine wq_skip ?_ | refine wq_ret ?_ | refine wq_exit ?_ | refine th_normal ?_ | refine th_ret ?_ | refine th_exit ?_ | refine bk_normal ?_ | refine bk_ret ?_ | refine bk_exit ?_ | refine bk_other rfl ?_)
  refine l_appendG n5 a5 ?_
  repeat (first | refine l_go ?_ | refine d_go ?_ | refine l_onG ?_ | refine l_offG ?_ | refine d_onG ?_ | refine d_offG ?_ | refine wq_seq ?_ | refine wq_line ?_ | refine wq_draw (by decide +kernel) ?_ | refine wq_block ?_ | refine l_nil ?_ | refine d_nil ?_ | refine wq_skip ?_ | refine wq_ret ?_ | refine wq_exit ?_ | refine th_normal ?_ | refine th_ret ?_ | refine th_exit ?_ | refine bk_normal ?_ | refine bk_ret ?_ | refine bk_exit ?_ | refine bk_other rfl ?_)
  refine l_callG l5 ?_
  repeat (first | refine l_go ?_ | refine d_go ?_ | refine l_onG ?_ | refine l_offG ?_ | refine d_onG ?_ | refine d_offG ?_ | refine wq_seq ?_ | refine wq_line ?_ | refine wq_draw (by decide +kernel) ?_ | refine wq_block ?_ | refine l_nil ?_ | refine d_nil ?_ | refine wq_skip ?_ | refine wq_ret ?_ | refine wq_exit ?_ | refine th_normal ?_ | refine th_ret ?_ | refine th_exit ?_ | refine bk_normal ?_ | refine bk_ret ?_ | refine bk_exit ?_ | refine bk_other rfl ?_)
  refine cond_go (fun hb => ?_) (fun hb => ?_)
  · cases hb
  clear hb n4 a4 n5 a5 l5
  refine wq_cut (fun ρ => ρ 1 = .int .i64 nn ∧ ρ 9 = .int .i64 a ∧ ρ 10 = .int .i64 c ∧ ρ 11 = x2 ∧ ρ 12 = .ptr K2.length 0) ⟨h1, h9, h10, h11, rfl⟩ ?_
  clear h1 h9 h10 h11
  clear ρ
  rintro ρ ⟨h1, h9, h10, h11, h12⟩
  repeat (first | refine l_go ?_ | refine d_go ?_ | refine l_onG ?_ | refine l_offG ?_ | refine d_onG ?_ | refine d_offG ?_ | refine wq_seq ?_ | refine wq_line ?_ | refine wq_draw (by decide +kernel) ?_ | refine wq_block ?_ | refine l_nil ?_ | refine d_nil ?_ | refine wq_skip ?_ | refine wq_ret ?_ | refine wq_exit ?_ | refine th_normal ?_ | refine th_ret ?_ | refine th_exit ?_ | refine bk_normal ?_ | refine bk_ret ?_ | refine bk_exit ?_ | refine bk_other rfl ?_)
  refine l_appendG n6 a6 ?_
  repeat (first | refine l_go ?_ | refine d_go ?_ | refine l_onG ?_ | refine l_offG ?_ | refine d_onG ?_ | refine d_offG ?_ | refine wq_seq ?_ | refine wq_line ?_ | refine wq_draw (by decide +kernel) ?_ | refine wq_block ?_ | refine l_nil ?_ | refine d_nil ?_ | refine wq_skip ?_ | refine wq_ret ?_ | refine wq_exit ?_ | refine th_normal ?_ | refine th_ret ?_ | refine th_exit ?_ | refine bk_normal ?_ | refine bk_ret ?_ | refine bk_exit ?_ | refine bk_other rfl ?_)
  refine l_callG lm ?_
  repeat (first | refine l_go ?_ | refine d_go ?_ | refine l_onG ?_ | refine l_offG ?_ | refine d_onG ?_ | refine d_offG ?_ | refine wq_seq ?_ | refine wq_line ?_ | refine wq_draw (by decide +kernel) ?_ | refine wq_block ?_ | refine l_nil ?_ | refine d_nil ?_ | refine wq_skip ?_ | refine wq_ret ?_ | refine wq_exit ?_ | refine th_normal ?_ | refine th_ret ?_ | refine th_exit ?_ | refine bk_normal ?_ | refine bk_ret ?_ | refine bk_exit ?_ | refine bk_other rfl ?_)
  refine l_appendG n7 a7 ?_
  repeat (first | refine l_go ?_ | refine d_go ?_ | refine l_onG ?_ | refine l_offG ?_ | refine d_onG ?_ | refine d_offG ?_ | refine wq_seq ?_ | refine wq_line ?_ | refine wq_draw (by decide +kernel) ?_ | refine wq_block ?_ | refine l_nil ?_ | refine d_nil ?_ | refine wq_skip ?_ | refine wq_ret ?_ | refine wq_exit ?_ | refine th_normal ?_ | refine th_ret ?_ | refine th_exit ?_ | refine bk_normal ?_ | refine bk_ret ?_ | refine bk_exit ?_ | refine bk_other rfl ?_)
  refine l_callG l7 ?_
  repeat (first | refine l_go ?_ | refine d_go ?_ | refine l_onG ?_ | refine l_offG ?_ | refine d_onG ?_ | refine d_offG ?_ | refine wq_seq ?_ | refine wq_line ?_ | refine wq_draw (by decide +kernel) ?_ | refine wq_block ?_ | refine l_nil ?_ | refine d_nil ?_ | refine wq_skip ?_ | refine wq_ret ?_ | refine wq_exit ?_ | refine th_normal ?_ | refine th_ret ?_ | refine th_exit ?_ | refine bk_normal ?_ | refine bk_ret ?_ | refine bk_exit ?_ | refine bk_other rfl ?_)
  refine cond_go (fun hb => ?_) (fun hb => ?_)
  · cases hb
  clear hb n6 a6 n7 a7 l7
  refine wq_cut (fun ρ => ρ 1 = .int .i64 nn ∧ ρ 9 = .int .i64 a ∧ ρ 10 = .int .i64 c ∧ ρ 12 = .ptr K2.length 0 ∧ ρ 14 = x7) ⟨h1, h9, h10, h12, rfl⟩ ?_
  clear h1 h9 h10 h11 h12
  clear ρ
  rintro ρ ⟨h1, h9, h10, h12, h14⟩
  repeat (first | refine l_go ?_ | refine d_go ?_ | refine l_onG ?_ | refine l_offG ?_ | refine d_onG ?_ | refine d_offG ?_ | refine wq_seq ?_ | refine wq_line ?_ | refine wq_draw (by decide +kernel) ?_ | refine wq_block ?_ | refine l_nil ?_ | refine d_nil ?_ | refine wq_skip ?_ | refine wq_ret ?_ | refine wq_exit ?_ | refine th_normal ?_ | refine th_ret ?_ | refine th_exit ?_ | refine bk_normal ?_ | refine bk_ret ?_ | refine bk_exit ?_ | refine bk_other rfl ?_)
  refine l_appendG n8 a8 ?_
  repeat (first | refine l_go ?_ | refine d_go ?_ | refine l_onG ?_ | refine l_offG ?_ | refine d_onG ?_ | refine d_offG ?_ | refine wq_seq ?_ | refine wq_line ?_ | refine wq_draw (by decide +kernel) ?_ | refine wq_block ?_ | refine l_nil ?_ | refine d_nil ?_ | refine wq_skip ?_ | refine wq_ret ?_ | refine wq_exit ?_ | refine th_normal ?_ | refine th_ret ?_ | refine th_exit ?_ | refine bk_normal ?_ | refine bk_ret ?_ | refine bk_exit ?_ | refine bk_other rfl ?_)
  refine l_callG l8 ?_
  repeat (first | refine l_go ?_ | refine d_go ?_ | refine l_onG ?_ | refine l_offG ?_ | refine d_onG ?_ | refine d_offG ?_ | refine wq_seq ?_ | refine wq_line ?_ | refine wq_draw (by decide +kernel) ?_ | refine wq_block ?_ | refine l_nil ?_ | refine d_nil ?_ | refine wq_skip ?_ | refine wq_ret ?_ | refine wq_exit ?_ | refine th_normal ?_ | refine th_ret ?_ | refine th_exit ?_ | refine bk_normal ?_ | refine bk_ret ?_ | refine bk_exit ?_ | refine bk_other rfl ?_)
  refine l_callG (num0 _ 0) ?_
  repeat (first | refine l_go ?_ | refine d_go ?_ | refine l_onG ?_ | refine l_offG ?_ | refine d_onG ?_ | refine d_offG ?_ | refine wq_seq ?_ | refine wq_line ?_ | refine wq_draw (by decide +kernel) ?_ | refine wq_block ?_ | refine l_nil ?_ | refine d_nil ?_ | refine wq_skip ?_ | refine wq_ret ?_ | refine wq_exit ?_ | refine th_normal ?_ | refine th_ret ?_ | refine th_exit ?_ | refine bk_normal ?_ | refine bk_ret ?_ | refine bk_exit ?_ | refine bk_other rfl ?_)
  refine end_ret (by simp only [resRf, resRs, resR]; first | done | rfl) ⟨?_, pend⟩
  simp [put_app, put_none]
end Go.Proofs.Ytibpfgamiilpkaa.VM
