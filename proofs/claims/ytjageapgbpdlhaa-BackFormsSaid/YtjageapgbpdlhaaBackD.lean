/- Chapter 7: the statement BackBias. -/
import Derived.Test.YtjageapgbpdlhaaBackC
namespace Go.Proofs.Ytjageapgbpdlhaa.VM
open Go
set_option linter.unusedVariables false
set_option linter.unusedSimpArgs false
attribute [local irreducible] wq wqL wqD wqE wqO Th Bk EndR
set_option maxHeartbeats 8000000

/-- the document's Hidden, whatever comes in -/
def hidL (i h : Int) (ws xs : List Int) : List Int := if fits i h ws && feeds i xs then units i.toNat h.toNat ws xs else []
theorem refHidden_any (H : Heap) (i h : Int) (w x : V) (ws xs : List Int) (hw : Sl 1 intC H w ws) (hx : Sl 1 intC H x xs) (lw : ws.length ≤ 2 ^ 47) (lx : xs.length ≤ 2 ^ 47) :
    ∃ u H', Call Try.prog 25 [.agg [.int .i64 i, .int .i64 h], w, x] H (.tup [u, .int .i64 (outE i h ws xs)]) H' ∧ Mine 1 intC H H' u (hidL i h ws xs) := by
  unfold outE hidL
  cases hok : (fits i h ws && feeds i xs) with
  | false => exact ⟨.nils, H, refHidden_bad H i h w x ws xs hw hx lw lx hok, Mine.nil (List.prefix_refl _)⟩
  | true =>
    simp only [Bool.and_eq_true] at hok
    obtain ⟨_, _, i', h', rfl, rfl, _⟩ := fits_split hok.1
    exact refHidden_ H i' h' w x ws xs hw hx hok.1 hok.2

theorem grad_get {i h : Nat} {ws xs : List Int} {y : Int} (hx : xs.length = i) {k j : Nat} (hk : k < h) (hj : j < i + 1) : (grad i h ws xs y)[k * (i + 1) + j]? = (gradRow i h ws xs (plus (outOf i h ws xs) (neg y)) (units i h ws xs) k)[j]? := by
  unfold grad
  have hrl : ∀ k, (gradRow i h ws xs (plus (outOf i h ws xs) (neg y)) (units i h ws xs) k).length = i + 1 := fun k => by simp [gradRow, hx]
  have hfl := flat_len hrl h
  have hue := unit_end (i := i) hk
  simp only
  have e : plus (tells i h ws (units i h ws xs)) (neg y) = plus (outOf i h ws xs) (neg y) := rfl
  rw [e, List.getElem?_append_left (by rw [hfl]; omega)]
  exact flat_get hrl hj hk
theorem grad_last {i h : Nat} {ws xs : List Int} {y : Int} (hx : xs.length = i) : (grad i h ws xs y)[netSize i h - 1]? = some (plus (outOf i h ws xs) (neg y)) := by
  have hl := grad_len (h := h) (ws := ws) (y := y) hx
  unfold grad at hl ⊢
  simp only at hl ⊢
  rw [← List.append_assoc] at hl ⊢
  rw [← hl, List.length_append (bs := [_]), List.length_singleton, Nat.add_sub_cancel, List.getElem?_concat_length]
  rfl
theorem unit_get {i h : Nat} {ws xs : List Int} {k : Nat} (hk : k < h) : (units i h ws xs)[k]? = some (unit i ws xs k) := by
  unfold units; rw [List.getElem?_map, List.getElem?_range hk]; rfl
theorem flat_row {i h : Nat} {ws xs : List Int} {e : Int} {k j : Nat} (hx : xs.length = i) (hk : k < h) (hj : j < i + 1) (hu : unit i ws xs k ≥ 65536 ∨ unit i ws xs k ≤ -65536) : (gradRow i h ws xs e (units i h ws xs) k)[j]? = some 0 := by
  have hr : rise ((units i h ws xs).getD k 0) = 0 := by
    rw [List.getD_eq_getElem?_getD, unit_get hk]
    unfold rise; simp only [Option.getD_some]; rw [if_neg (by omega)]
  unfold gradRow
  simp only [hr, times_zero_r, times_zero_l]
  by_cases hji : j < i
  · rw [List.getElem?_append_left (by simp; omega), List.getElem?_map]
    have : xs[j]? = some (xs.getD j 0) := getD_some (by omega)
    rw [this]; rfl
  · have : j = i := by omega
    subst this
    rw [List.getElem?_append_right (by simp; omega)]
    simp [hx]

theorem law_backBias {D : Type} (K : Heap) (vs : List V) (ds : List (DataW D)) (ro : Ro K) (h : RdAll T K [23, 24, 26] vs ds) : ∃ K', Call Try.prog 6 vs K (.bool true) K' := by
  obtain ⟨s, vs, d1, ds, rfl, rfl, hs, h⟩ := rdAll_cons h
  obtain ⟨w, vs, d2, ds, rfl, rfl, hw, h⟩ := rdAll_cons h
  obtain ⟨r, vs, d3, ds, rfl, rfl, hr, h⟩ := rdAll_cons h
  obtain ⟨rfl, rfl⟩ := rdAll_nil h
  obtain ⟨i, j, rfl⟩ := rd_shape hs
  obtain ⟨ws, hws, lw⟩ := rd_ints hw
  obtain ⟨x, xs, y, rfl, hxs, lx⟩ := rd_row hr
  replace lw : ws.length * 8 ≤ 140737488351232 := lw
  replace lx : xs.length * 8 ≤ 140737488351232 := lx
  clear hs hw hr h
  refine ⟨K, ?_⟩
  refine call_plain fit mixed Try.func6 rfl rfl rfl (by kernel_rfl) rfl ?_
  obtain ⟨rb, hrb⟩ : ∃ rb, (K ++ [.row [.int .i64 i, .int .i64 j] true] : Heap).length = rb := ⟨_, rfl⟩
  obtain ⟨H1, hH1⟩ : ∃ H1, K ++ [.row [.int .i64 i, .int .i64 j] true] ++ [.row [x, .int .i64 y] true] = H1 := ⟨_, rfl⟩
  have p1 : K <+: H1 := by rw [← hH1, List.append_assoc]; exact List.prefix_append _ _
  have q0 : ∀ B, H1 <+: B → loadV T 23 B K.length 0 = some (.agg [.int .i64 i, .int .i64 j]) := fun B hp => by
    refine loadV_agg T23 rfl (loadN_pre hp ?_)
    rw [← hH1, List.append_assoc, loadN_app0]; rfl
  have q1 : loadV T 26 H1 rb 0 = some (.agg [x, .int .i64 y]) := by
    refine loadV_agg T26 rfl ?_
    rw [← hH1, ← hrb, loadN_app0]; rfl
  have q2 : ∀ B, H1 <+: B → loadV T 24 B rb 0 = some x := fun B hp => by
    refine loadV_one T24 rfl (loadN_pre hp ?_)
    rw [← hH1, ← hrb, loadN_app0]; rfl
  have q3 : ∀ B, H1 <+: B → loadV T 3 B rb 1 = some (.int .i64 y) := fun B hp => by
    refine loadV_one T3 rfl (loadN_pre hp ?_)
    rw [← hH1, ← hrb, loadN_app0]; rfl
  have q4 : ∀ B, H1 <+: B → loadV T 3 B K.length 0 = some (.int .i64 i) := fun B hp => by
    refine loadV_one T3 rfl (loadN_pre hp ?_)
    rw [← hH1, List.append_assoc, loadN_app0]; rfl
  have q5 : ∀ B, H1 <+: B → loadV T 3 B K.length 1 = some (.int .i64 j) := fun B hp => by
    refine loadV_one T3 rfl (loadN_pre hp ?_)
    rw [← hH1, List.append_assoc, loadN_app0]; rfl
  have c1 := awake7_ H1
  obtain ⟨a, H2, c2, m2⟩ := grad_any H1 i j y w x ws xs (hws.mono p1) (hxs.mono p1) (by omega) (by omega)
  have p2 := m2.1
  have c3 := refOut_any H2 i j w x ws xs (hws.mono (p1.trans p2)) (hxs.mono (p1.trans p2)) (by omega) (by omega)
  obtain ⟨u, H3, c4, m3⟩ := refHidden_any H2 i j w x ws xs (hws.mono (p1.trans p2)) (hxs.mono (p1.trans p2)) (by omega) (by omega)
  have p3 := m3.1
  have p13 := p2.trans p3
  have l0 := q0 H1 (List.prefix_refl _)
  have l2 := q0 H2 p2
  have l3 := q2 H2 p2
  have sa := m2.sl.mono p3
  have hla := sa.len T24 rfl
  have hlw := (hws.mono (p1.trans p13)).len T24 rfl
  have pend := p1.trans p13
  cases hok : gradOk i j ws xs y
  · have e1 : gradE i j ws xs y = 700 := by unfold gradE; rw [hok]; rfl
    have e2 : gradL i j ws xs y = [] := by unfold gradL; rw [hok]; rfl
    rw [e1] at c2
    rw [e2] at hla
    clear e1 e2 m2 m3 sa hws hxs lw lx hok hlw q2 q3 q4 q5 p1 p2 p3 p13
    repeat (first | refine l_go ?_ | refine d_go ?_ | refine l_onG ?_ | refine l_offG ?_ | refine d_onG ?_ | refine d_offG ?_ | refine wq_seq ?_ | refine wq_line ?_ | refine wq_draw (by decide +kernel) ?_ | refine wq_block ?_ | refine l_nil ?_ | refine d_nil ?_ | refine wq_skip ?_ | refine wq_ret ?_ | refine wq_exit ?_ | refine th_normal ?_ | refine th_ret ?_ | refine th_exit ?_ | refine bk_normal ?_ | refine bk_ret ?_ | refine bk_exit ?_ | refine bk_other rfl ?_)
    refine l_heap (h' := H1) hH1 ?_
    rw [hrb]
    refine l_callG c1 ?_
    repeat (first | refine l_go ?_ | refine d_go ?_ | refine l_onG ?_ | refine l_offG ?_ | refine d_onG ?_ | refine d_offG ?_ | refine wq_seq ?_ | refine wq_line ?_ | refine wq_draw (by decide +kernel) ?_ | refine wq_block ?_ | refine l_nil ?_ | refine d_nil ?_ | refine wq_skip ?_ | refine wq_ret ?_ | refine wq_exit ?_ | refine th_normal ?_ | refine th_ret ?_ | refine th_exit ?_ | refine bk_normal ?_ | refine bk_ret ?_ | refine bk_exit ?_ | refine bk_other rfl ?_)
    refine cond_go (fun hb => ?_) (fun hb => ?_)
    · cases hb
    clear hb
    repeat (first | refine l_go ?_ | refine d_go ?_ | refine l_onG ?_ | refine l_offG ?_ | refine d_onG ?_ | refine d_offG ?_ | refine wq_seq ?_ | refine wq_line ?_ | refine wq_draw (by decide +kernel) ?_ | refine wq_block ?_ | refine l_nil ?_ | refine d_nil ?_ | refine wq_skip ?_ | refine wq_ret ?_ | refine wq_exit ?_ | refine th_normal ?_ | refine th_ret ?_ | refine th_exit ?_ | refine bk_normal ?_ | refine bk_ret ?_ | refine bk_exit ?_ | refine bk_other rfl ?_)
    refine l_callG c2 ?_
    repeat (first | refine l_go ?_ | refine d_go ?_ | refine l_onG ?_ | refine l_offG ?_ | refine d_onG ?_ | refine d_offG ?_ | refine wq_seq ?_ | refine wq_line ?_ | refine wq_draw (by decide +kernel) ?_ | refine wq_block ?_ | refine l_nil ?_ | refine d_nil ?_ | refine wq_skip ?_ | refine wq_ret ?_ | refine wq_exit ?_ | refine th_normal ?_ | refine th_ret ?_ | refine th_exit ?_ | refine bk_normal ?_ | refine bk_ret ?_ | refine bk_exit ?_ | refine bk_other rfl ?_)
    refine l_callG c3 ?_
    repeat (first | refine l_go ?_ | refine d_go ?_ | refine l_onG ?_ | refine l_offG ?_ | refine d_onG ?_ | refine d_offG ?_ | refine wq_seq ?_ | refine wq_line ?_ | refine wq_draw (by decide +kernel) ?_ | refine wq_block ?_ | refine l_nil ?_ | refine d_nil ?_ | refine wq_skip ?_ | refine wq_ret ?_ | refine wq_exit ?_ | refine th_normal ?_ | refine th_ret ?_ | refine th_exit ?_ | refine bk_normal ?_ | refine bk_ret ?_ | refine bk_exit ?_ | refine bk_other rfl ?_)
    refine l_callG c4 ?_
    repeat (first | refine l_go ?_ | refine d_go ?_ | refine l_onG ?_ | refine l_offG ?_ | refine d_onG ?_ | refine d_offG ?_ | refine wq_seq ?_ | refine wq_line ?_ | refine wq_draw (by decide +kernel) ?_ | refine wq_block ?_ | refine l_nil ?_ | refine d_nil ?_ | refine wq_skip ?_ | refine wq_ret ?_ | refine wq_exit ?_ | refine th_normal ?_ | refine th_ret ?_ | refine th_exit ?_ | refine bk_normal ?_ | refine bk_ret ?_ | refine bk_exit ?_ | refine bk_other rfl ?_)
    refine l_callG (num_ _ _) ?_
    repeat (first | refine l_go ?_ | refine d_go ?_ | refine l_onG ?_ | refine l_offG ?_ | refine d_onG ?_ | refine d_offG ?_ | refine wq_seq ?_ | refine wq_line ?_ | refine wq_draw (by decide +kernel) ?_ | refine wq_block ?_ | refine l_nil ?_ | refine d_nil ?_ | refine wq_skip ?_ | refine wq_ret ?_ | refine wq_exit ?_ | refine th_normal ?_ | refine th_ret ?_ | refine th_exit ?_ | refine bk_normal ?_ | refine bk_ret ?_ | refine bk_exit ?_ | refine bk_other rfl ?_)
    refine cond_go (fun hb => ?_) (fun hb => ?_)
    · clear hb
      repeat (first | refine l_go ?_ | refine d_go ?_ | refine l_onG ?_ | refine l_offG ?_ | refine d_onG ?_ | refine d_offG ?_ | refine wq_seq ?_ | refine wq_line ?_ | refine wq_draw (by decide +kernel) ?_ | refine wq_block ?_ | refine l_nil ?_ | refine d_nil ?_ | refine wq_skip ?_ | refine wq_ret ?_ | refine wq_exit ?_ | refine th_normal ?_ | refine th_ret ?_ | refine th_exit ?_ | refine bk_normal ?_ | refine bk_ret ?_ | refine bk_exit ?_ | refine bk_other rfl ?_)
      refine l_callG (num_ _ _) ?_
      repeat (first | refine l_go ?_ | refine d_go ?_ | refine l_onG ?_ | refine l_offG ?_ | refine d_onG ?_ | refine d_offG ?_ | refine wq_seq ?_ | refine wq_line ?_ | refine wq_draw (by decide +kernel) ?_ | refine wq_block ?_ | refine l_nil ?_ | refine d_nil ?_ | refine wq_skip ?_ | refine wq_ret ?_ | refine wq_exit ?_ | refine th_normal ?_ | refine th_ret ?_ | refine th_exit ?_ | refine bk_normal ?_ | refine bk_ret ?_ | refine bk_exit ?_ | refine bk_other rfl ?_)
      refine end_ret (by simp only [resRf, resRs, resR]; first | done | rfl) ⟨?_, pend⟩
      simp [put_app, put_none]
    · cases hb
  · obtain ⟨i, j, rfl, rfl, hf, hfe, hy⟩ := gradOk_split hok
    obtain ⟨_, _, i', j', hi', hj', _, hi2, _, hj2, hsz⟩ := fits_split hf
    obtain rfl : i = i' := Int.ofNat_inj.1 hi'
    obtain rfl : j = j' := Int.ofNat_inj.1 hj'
    have hxl : xs.length = i := Int.ofNat_inj.1 (feeds_split hfe).1
    have hok2 : (fits i j ws && feeds i xs) = true := by rw [hf, hfe]; rfl
    have e1 : gradE i j ws xs y = 0 := by unfold gradE; rw [hok]; rfl
    have e2 : gradL i j ws xs y = grad i j ws xs y := by unfold gradL; rw [hok]; rfl
    have e3 : outE i j ws xs = 0 := by unfold outE; rw [hok2]; rfl
    have e4 : outV i j ws xs = outOf i j ws xs := by unfold outV; rw [hok2]; rfl
    have e5 : hidL i j ws xs = units i j ws xs := by unfold hidL; rw [hok2]; rfl
    rw [e1] at c2
    rw [e3] at c3 c4
    rw [e4] at c3
    rw [e2] at sa hla
    rw [e5] at m3
    obtain ⟨n, hn⟩ : ∃ n, netSize i j = n := ⟨_, rfl⟩
    have hgl : (grad i j ws xs y).length = n := by rw [grad_len hxl, hn]
    rw [hgl] at hla
    rw [hsz, hn] at hlw
    have hsm := small_size hi2 hj2
    have hn1 : 1 ≤ n ∧ n ≤ 16 := by rw [← hn]; unfold netSize; omega
    have hlast := grad_last (h := j) (ws := ws) (y := y) hxl
    rw [hn] at hlast
    obtain ⟨b1, o1, _, hi1, rfl, _, hlo1, _⟩ := sa.get T24 rfl T3 rfl hlast
    have ho1 := loadV_one T3 rfl hlo1
    have wn : IntKind.i64.wrap ((n : Int) - 1) = ((n - 1 : Nat) : Int) := by rw [show (n : Int) - 1 = ((n - 1 : Nat) : Int) by omega]; exact wrap_nat (by omega)
    have l4 := q3 H3 p13
    have c5 : Call Try.prog 26 [.int .i64 (outOf i j ws xs), .int .i64 (IntKind.i64.wrap (0 - y))] H3 (.int .i64 (plus (outOf i j ws xs) (neg y))) H3 := refPlus_ H3 _ _
    have l5 := q4 H3 p13
    have l6 := q5 H3 p13
    have w1 : IntKind.i64.wrap ((i : Int) + 1) = ((i + 1 : Nat) : Int) := wrap_succ (by omega)
    have hget := fun k (hk : k < j) (jj : Nat) (hj : jj < i + 1) => grad_get (ws := ws) (y := y) hxl hk hj
    have hflat := fun k (hk : k < j) (jj : Nat) (hj : jj < i + 1) => flat_row (ws := ws) (e := plus (outOf i j ws xs) (neg y)) hxl hk hj
    have su := m3.sl
    clear e1 e2 e3 e4 e5 m2 m3 hws hxs lw lx hok hok2 q0 q2 q3 q4 q5 p1 p2 p3 p13 hf hfe hy hi' hj' hlast hlo1 hsz
    repeat (first | refine l_go ?_ | refine d_go ?_ | refine l_onG ?_ | refine l_offG ?_ | refine d_onG ?_ | refine d_offG ?_ | refine wq_seq ?_ | refine wq_line ?_ | refine wq_draw (by decide +kernel) ?_ | refine wq_block ?_ | refine l_nil ?_ | refine d_nil ?_ | refine wq_skip ?_ | refine wq_ret ?_ | refine wq_exit ?_ | refine th_normal ?_ | refine th_ret ?_ | refine th_exit ?_ | refine bk_normal ?_ | refine bk_ret ?_ | refine bk_exit ?_ | refine bk_other rfl ?_)
    refine l_heap (h' := H1) hH1 ?_
    rw [hrb]
    refine l_callG c1 ?_
    repeat (first | refine l_go ?_ | refine d_go ?_ | refine l_onG ?_ | refine l_offG ?_ | refine d_onG ?_ | refine d_offG ?_ | refine wq_seq ?_ | refine wq_line ?_ | refine wq_draw (by decide +kernel) ?_ | refine wq_block ?_ | refine l_nil ?_ | refine d_nil ?_ | refine wq_skip ?_ | refine wq_ret ?_ | refine wq_exit ?_ | refine th_normal ?_ | refine th_ret ?_ | refine th_exit ?_ | refine bk_normal ?_ | refine bk_ret ?_ | refine bk_exit ?_ | refine bk_other rfl ?_)
    refine cond_go (fun hb => ?_) (fun hb => ?_)
    · cases hb
    clear hb
    repeat (first | refine l_go ?_ | refine d_go ?_ | refine l_onG ?_ | refine l_offG ?_ | refine d_onG ?_ | refine d_offG ?_ | refine wq_seq ?_ | refine wq_line ?_ | refine wq_draw (by decide +kernel) ?_ | refine wq_block ?_ | refine l_nil ?_ | refine d_nil ?_ | refine wq_skip ?_ | refine wq_ret ?_ | refine wq_exit ?_ | refine th_normal ?_ | refine th_ret ?_ | refine th_exit ?_ | refine bk_normal ?_ | refine bk_ret ?_ | refine bk_exit ?_ | refine bk_other rfl ?_)
    refine l_callG c2 ?_
    repeat (first | refine l_go ?_ | refine d_go ?_ | refine l_onG ?_ | refine l_offG ?_ | refine d_onG ?_ | refine d_offG ?_ | refine wq_seq ?_ | refine wq_line ?_ | refine wq_draw (by decide +kernel) ?_ | refine wq_block ?_ | refine l_nil ?_ | refine d_nil ?_ | refine wq_skip ?_ | refine wq_ret ?_ | refine wq_exit ?_ | refine th_normal ?_ | refine th_ret ?_ | refine th_exit ?_ | refine bk_normal ?_ | refine bk_ret ?_ | refine bk_exit ?_ | refine bk_other rfl ?_)
    refine l_callG c3 ?_
    repeat (first | refine l_go ?_ | refine d_go ?_ | refine l_onG ?_ | refine l_offG ?_ | refine d_onG ?_ | refine d_offG ?_ | refine wq_seq ?_ | refine wq_line ?_ | refine wq_draw (by decide +kernel) ?_ | refine wq_block ?_ | refine l_nil ?_ | refine d_nil ?_ | refine wq_skip ?_ | refine wq_ret ?_ | refine wq_exit ?_ | refine th_normal ?_ | refine th_ret ?_ | refine th_exit ?_ | refine bk_normal ?_ | refine bk_ret ?_ | refine bk_exit ?_ | refine bk_other rfl ?_)
    refine l_callG c4 ?_
    repeat (first | refine l_go ?_ | refine d_go ?_ | refine l_onG ?_ | refine l_offG ?_ | refine d_onG ?_ | refine d_offG ?_ | refine wq_seq ?_ | refine wq_line ?_ | refine wq_draw (by decide +kernel) ?_ | refine wq_block ?_ | refine l_nil ?_ | refine d_nil ?_ | refine wq_skip ?_ | refine wq_ret ?_ | refine wq_exit ?_ | refine th_normal ?_ | refine th_ret ?_ | refine th_exit ?_ | refine bk_normal ?_ | refine bk_ret ?_ | refine bk_exit ?_ | refine bk_other rfl ?_)
    refine l_callG (num_ _ _) ?_
    repeat (first | refine l_go ?_ | refine d_go ?_ | refine l_onG ?_ | refine l_offG ?_ | refine d_onG ?_ | refine d_offG ?_ | refine wq_seq ?_ | refine wq_line ?_ | refine wq_draw (by decide +kernel) ?_ | refine wq_block ?_ | refine l_nil ?_ | refine d_nil ?_ | refine wq_skip ?_ | refine wq_ret ?_ | refine wq_exit ?_ | refine th_normal ?_ | refine th_ret ?_ | refine th_exit ?_ | refine bk_normal ?_ | refine bk_ret ?_ | refine bk_exit ?_ | refine bk_other rfl ?_)
    refine cond_go (fun hb => ?_) (fun hb => ?_)
    · simp at hb
    clear hb c1 c2 c3 c4
    repeat (first | refine l_go ?_ | refine d_go ?_ | refine l_onG ?_ | refine l_offG ?_ | refine d_onG ?_ | refine d_offG ?_ | refine wq_seq ?_ | refine wq_line ?_ | refine wq_draw (by decide +kernel) ?_ | refine wq_block ?_ | refine l_nil ?_ | refine d_nil ?_ | refine wq_skip ?_ | refine wq_ret ?_ | refine wq_exit ?_ | refine th_normal ?_ | refine th_ret ?_ | refine th_exit ?_ | refine bk_normal ?_ | refine bk_ret ?_ | refine bk_exit ?_ | refine bk_other rfl ?_)
    refine d_call0G c5 ?_
    repeat (first | refine l_go ?_ | refine d_go ?_ | refine l_onG ?_ | refine l_offG ?_ | refine d_onG ?_ | refine d_offG ?_ | refine wq_seq ?_ | refine wq_line ?_ | refine wq_draw (by decide +kernel) ?_ | refine wq_block ?_ | refine l_nil ?_ | refine d_nil ?_ | refine wq_skip ?_ | refine wq_ret ?_ | refine wq_exit ?_ | refine th_normal ?_ | refine th_ret ?_ | refine th_exit ?_ | refine bk_normal ?_ | refine bk_ret ?_ | refine bk_exit ?_ | refine bk_other rfl ?_)
    refine cond_go (fun hb => ?_) (fun hb => ?_)
    · simp at hb
    clear hb c5
    refine wq_cut (fun ρ => ρ 3 = .ptr K.length 0 ∧ ρ 7 = a ∧ ρ 11 = u) ⟨rfl, rfl, rfl⟩ ?_
    rintro ρ ⟨h3, h7, h11⟩
    repeat (first | refine l_go ?_ | refine d_go ?_ | refine l_onG ?_ | refine l_offG ?_ | refine d_onG ?_ | refine d_offG ?_ | refine wq_seq ?_ | refine wq_line ?_ | refine wq_draw (by decide +kernel) ?_ | refine wq_block ?_ | refine l_nil ?_ | refine d_nil ?_ | refine wq_skip ?_ | refine wq_ret ?_ | refine wq_exit ?_ | refine th_normal ?_ | refine th_ret ?_ | refine th_exit ?_ | refine bk_normal ?_ | refine bk_ret ?_ | refine bk_exit ?_ | refine bk_other rfl ?_)
    refine wq_loop (fun c ρ hp => ∃ k, k ≤ j ∧ c = j - k ∧ hp = H3 ∧ ρ 3 = .ptr K.length 0 ∧ ρ 7 = a ∧ ρ 11 = u ∧ ρ 13 = .int .i64 (k : Nat)) ⟨0, Nat.zero_le _, rfl, rfl, h3, h7, h11, rfl⟩ ?_
    clear h3 h7 h11
    clear ρ
    rintro _ ρ _ ⟨k, hk, rfl, rfl, h3, h7, h11, h13⟩
    repeat (first | refine l_go ?_ | refine d_go ?_ | refine l_onG ?_ | refine l_offG ?_ | refine d_onG ?_ | refine d_offG ?_ | refine wq_seq ?_ | refine wq_line ?_ | refine wq_draw (by decide +kernel) ?_ | refine wq_block ?_ | refine l_nil ?_ | refine d_nil ?_ | refine wq_skip ?_ | refine wq_ret ?_ | refine wq_exit ?_ | refine th_normal ?_ | refine th_ret ?_ | refine th_exit ?_ | refine bk_normal ?_ | refine bk_ret ?_ | refine bk_exit ?_ | refine bk_other rfl ?_)
    refine cond_go (fun hb => ?_) (fun hb => ?_)
    · have hk' : k < j := by simpa using hb
      clear hb
      have hw2 := wrap_succ (n := k) (by omega)
      obtain ⟨b2, o2, _, hi2', rfl, _, hlo2, _⟩ := su.get T24 rfl T3 rfl (unit_get (h := j) hk')
      have ho2 := loadV_one T3 rfl hlo2
      obtain ⟨uk, huk⟩ : ∃ uk, unit i ws xs k = uk := ⟨_, rfl⟩
      rw [huk] at ho2
      have hue := unit_end (i := i) hk'
      obtain ⟨mm, hmm⟩ : ∃ mm, k * (i + 1) = mm := ⟨_, rfl⟩
      have w5 : IntKind.i64.wrap ((k : Int) * ((i + 1 : Nat) : Int)) = (mm : Int) := by rw [← Int.natCast_mul, hmm]; exact wrap_nat (by omega)
      have hgk := hget k hk'
      have hfk := hflat k hk'
      rw [hmm] at hgk
      rw [huk] at hfk
      clear hget hflat hlo2
      repeat (first | refine l_go ?_ | refine d_go ?_ | refine l_onG ?_ | refine l_offG ?_ | refine d_onG ?_ | refine d_offG ?_ | refine wq_seq ?_ | refine wq_line ?_ | refine wq_draw (by decide +kernel) ?_ | refine wq_block ?_ | refine l_nil ?_ | refine d_nil ?_ | refine wq_skip ?_ | refine wq_ret ?_ | refine wq_exit ?_ | refine th_normal ?_ | refine th_ret ?_ | refine th_exit ?_ | refine bk_normal ?_ | refine bk_ret ?_ | refine bk_exit ?_ | refine bk_other rfl ?_)
      refine wq_loop (fun c ρ hp => ∃ jj, jj ≤ i + 1 ∧ c = i + 1 - jj ∧ hp = _ ∧ ρ 3 = .ptr K.length 0 ∧ ρ 7 = a ∧ ρ 11 = u ∧ ρ 13 = .int .i64 (k : Nat) ∧ ρ 14 = .int .i64 (jj : Nat)) ⟨0, Nat.zero_le _, rfl, rfl, h3, h7, h11, h13, rfl⟩ ?_
      clear h3 h7 h11 h13
      clear ρ
      rintro _ ρ _ ⟨jj, hjj, rfl, rfl, h3, h7, h11, h13, h14⟩
      repeat (first | refine l_go ?_ | refine d_go ?_ | refine l_onG ?_ | refine l_offG ?_ | refine d_onG ?_ | refine d_offG ?_ | refine wq_seq ?_ | refine wq_line ?_ | refine wq_draw (by decide +kernel) ?_ | refine wq_block ?_ | refine l_nil ?_ | refine d_nil ?_ | refine wq_skip ?_ | refine wq_ret ?_ | refine wq_exit ?_ | refine th_normal ?_ | refine th_ret ?_ | refine th_exit ?_ | refine bk_normal ?_ | refine bk_ret ?_ | refine bk_exit ?_ | refine bk_other rfl ?_)
      refine cond_go (fun hb => ?_) (fun hb => ?_)
      · have hjj' : jj < i + 1 := by have : (jj : Int) ≤ (i : Int) := by simpa using hb
                                     omega
        clear hb
        have hw3 := wrap_succ (n := jj) (by omega)
        by_cases hout : uk ≥ 65536 ∨ uk ≤ -65536
        · have hz := hgk jj hjj'
          rw [hfk jj hjj' hout] at hz
          obtain ⟨b3, o3, _, hi3, rfl, _, hlo3, _⟩ := sa.get T24 rfl T3 rfl hz
          have ho3 := loadV_one T3 rfl hlo3
          have w6 : IntKind.i64.wrap ((mm : Int) + (jj : Int)) = ((mm + jj : Nat) : Int) := by rw [← Int.natCast_add]; exact wrap_nat (by omega)
          by_cases hg : uk ≥ 65536
          · have hd : decide (uk ≥ 65536) = true := decide_eq_true hg
            clear hout hg hz hgk hfk hlo3 sa su
            repeat (first | refine l_go ?_ | refine d_go ?_ | refine l_onG ?_ | refine l_offG ?_ | refine d_onG ?_ | refine d_offG ?_ | refine wq_seq ?_ | refine wq_line ?_ | refine wq_draw (by decide +kernel) ?_ | refine wq_block ?_ | refine l_nil ?_ | refine d_nil ?_ | refine wq_skip ?_ | refine wq_ret ?_ | refine wq_exit ?_ | refine th_normal ?_ | refine th_ret ?_ | refine th_exit ?_ | refine bk_normal ?_ | refine bk_ret ?_ | refine bk_exit ?_ | refine bk_other rfl ?_)
            refine cond_go (fun hb => ?_) (fun hb => ?_)
            · simp at hb
            clear hb
            repeat (first | refine l_go ?_ | refine d_go ?_ | refine l_onG ?_ | refine l_offG ?_ | refine d_onG ?_ | refine d_offG ?_ | refine wq_seq ?_ | refine wq_line ?_ | refine wq_draw (by decide +kernel) ?_ | refine wq_block ?_ | refine l_nil ?_ | refine d_nil ?_ | refine wq_skip ?_ | refine wq_ret ?_ | refine wq_exit ?_ | refine th_normal ?_ | refine th_ret ?_ | refine th_exit ?_ | refine bk_normal ?_ | refine bk_ret ?_ | refine bk_exit ?_ | refine bk_other rfl ?_)
            refine ⟨i + 1 - (jj + 1), by omega, jj + 1, hjj', rfl, rfl, ?_⟩
            simp [put_app, put_none, *]
          · have hd : decide (uk ≥ 65536) = false := decide_eq_false hg
            have hd2 : decide (uk ≤ -65536) = true := decide_eq_true (by omega)
            clear hout hg hz hgk hfk hlo3 sa su
            repeat (first | refine l_go ?_ | refine d_go ?_ | refine l_onG ?_ | refine l_offG ?_ | refine d_onG ?_ | refine d_offG ?_ | refine wq_seq ?_ | refine wq_line ?_ | refine wq_draw (by decide +kernel) ?_ | refine wq_block ?_ | refine l_nil ?_ | refine d_nil ?_ | refine wq_skip ?_ | refine wq_ret ?_ | refine wq_exit ?_ | refine th_normal ?_ | refine th_ret ?_ | refine th_exit ?_ | refine bk_normal ?_ | refine bk_ret ?_ | refine bk_exit ?_ | refine bk_other rfl ?_)
            refine cond_go (fun hb => ?_) (fun hb => ?_)
            · simp at hb
            clear hb
            repeat (first | refine l_go ?_ | refine d_go ?_ | refine l_onG ?_ | refine l_offG ?_ | refine d_onG ?_ | refine d_offG ?_ | refine wq_seq ?_ | refine wq_line ?_ | refine wq_draw (by decide +kernel) ?_ | refine wq_block ?_ | refine l_nil ?_ | refine d_nil ?_ | refine wq_skip ?_ | refine wq_ret ?_ | refine wq_exit ?_ | refine th_normal ?_ | refine th_ret ?_ | refine th_exit ?_ | refine bk_normal ?_ | refine bk_ret ?_ | refine bk_exit ?_ | refine bk_other rfl ?_)
            refine ⟨i + 1 - (jj + 1), by omega, jj + 1, hjj', rfl, rfl, ?_⟩
            simp [put_app, put_none, *]
        · have hd : decide (uk ≥ 65536) = false := decide_eq_false (by omega)
          have hd2 : decide (uk ≤ -65536) = false := decide_eq_false (by omega)
          clear hout hgk hfk sa su
          repeat (first | refine l_go ?_ | refine d_go ?_ | refine l_onG ?_ | refine l_offG ?_ | refine d_onG ?_ | refine d_offG ?_ | refine wq_seq ?_ | refine wq_line ?_ | refine wq_draw (by decide +kernel) ?_ | refine wq_block ?_ | refine l_nil ?_ | refine d_nil ?_ | refine wq_skip ?_ | refine wq_ret ?_ | refine wq_exit ?_ | refine th_normal ?_ | refine th_ret ?_ | refine th_exit ?_ | refine bk_normal ?_ | refine bk_ret ?_ | refine bk_exit ?_ | refine bk_other rfl ?_)
          refine cond_go (fun hb => ?_) (fun hb => ?_)
          · cases hb
          clear hb
          repeat (first | refine l_go ?_ | refine d_go ?_ | refine l_onG ?_ | refine l_offG ?_ | refine d_onG ?_ | refine d_offG ?_ | refine wq_seq ?_ | refine wq_line ?_ | refine wq_draw (by decide +kernel) ?_ | refine wq_block ?_ | refine l_nil ?_ | refine d_nil ?_ | refine wq_skip ?_ | refine wq_ret ?_ | refine wq_exit ?_ | refine th_normal ?_ | refine th_ret ?_ | refine th_exit ?_ | refine bk_normal ?_ | refine bk_ret ?_ | refine bk_exit ?_ | refine bk_other rfl ?_)
          refine ⟨i + 1 - (jj + 1), by omega, jj + 1, hjj', rfl, rfl, ?_⟩
          simp [put_app, put_none, *]
      · clear hb
        repeat (first | refine l_go ?_ | refine d_go ?_ | refine l_onG ?_ | refine l_offG ?_ | refine d_onG ?_ | refine d_offG ?_ | refine wq_seq ?_ | refine wq_line ?_ | refine wq_draw (by decide +kernel) ?_ | refine wq_block ?_ | refine l_nil ?_ | refine d_nil ?_ | refine wq_skip ?_ | refine wq_ret ?_ | refine wq_exit ?_ | refine th_normal ?_ | refine th_ret ?_ | refine th_exit ?_ | refine bk_normal ?_ | refine bk_ret ?_ | refine bk_exit ?_ | refine bk_other rfl ?_)
        refine ⟨j - (k + 1), by omega, k + 1, hk', rfl, rfl, ?_⟩
        simp [put_app, put_none, *]
    · clear hb
      repeat (first | refine l_go ?_ | refine d_go ?_ | refine l_onG ?_ | refine l_offG ?_ | refine d_onG ?_ | refine d_offG ?_ | refine wq_seq ?_ | refine wq_line ?_ | refine wq_draw (by decide +kernel) ?_ | refine wq_block ?_ | refine l_nil ?_ | refine d_nil ?_ | refine wq_skip ?_ | refine wq_ret ?_ | refine wq_exit ?_ | refine th_normal ?_ | refine th_ret ?_ | refine th_exit ?_ | refine bk_normal ?_ | refine bk_ret ?_ | refine bk_exit ?_ | refine bk_other rfl ?_)
      refine end_ret (by simp only [resRf, resRs, resR]; first | done | rfl) ⟨?_, pend⟩
      simp [put_app, put_none]
end Go.Proofs.Ytjageapgbpdlhaa.VM
