/- Chapter 7: the statements BackRight and BackBias. -/
import Derived.Test.YtjageapgbpdlhaaBackB
namespace Go.Proofs.Ytjageapgbpdlhaa.VM
open Go
set_option linter.unusedVariables false
set_option linter.unusedSimpArgs false
attribute [local irreducible] wq wqL wqD wqE wqO Th Bk EndR
set_option maxHeartbeats 8000000

theorem W_small {n : Int} (h1 : -9223372036854775808 ≤ n) (h2 : n ≤ 9223372036854775807) : W n = n := wrap_i64 h1 h2
theorem cut_zero : cut 0 = 0 := rfl
theorem times_zero_l (b : Int) : times 0 b = 0 := by unfold times; rw [Int.zero_mul]; rfl
theorem times_zero_r (b : Int) : times b 0 = 0 := by unfold times; rw [Int.mul_zero]; rfl
theorem plus_neg {x : Int} (h : fixMay x = true) : plus x (neg x) = 0 := by
  have h' := within_iff.1 h
  unfold plus neg
  rw [W_small (n := 0 - x) (by omega) (by omega), W_small (by omega) (by omega)]
  have : x + (0 - x) = 0 := by omega
  rw [this]; rfl
theorem outOf_may (i h : Nat) (ws xs : List Int) : fixMay (outOf i h ws xs) = true := plus_may _ _

theorem grad_right {i h : Nat} {ws xs : List Int} (hx : xs.length = i) : grad i h ws xs (outOf i h ws xs) = List.replicate (netSize i h) 0 := by
  refine List.eq_replicate_iff.2 ⟨grad_len hx, fun b hb => ?_⟩
  unfold grad at hb
  have he : plus (tells i h ws (units i h ws xs)) (neg (outOf i h ws xs)) = 0 := plus_neg (outOf_may i h ws xs)
  simp only [he] at hb
  rcases List.mem_append.1 hb with hb | hb
  · obtain ⟨k, _, hk⟩ := List.mem_flatMap.1 hb
    unfold gradRow at hk
    simp only [times_zero_l] at hk
    simp at hk
    rcases hk with ⟨_, hk⟩ | hk
    · exact hk.symm
    · exact hk
  · rcases List.mem_append.1 hb with hb | hb
    · obtain ⟨k, _, hk⟩ := List.mem_map.1 hb
      rw [times_zero_l] at hk
      exact hk.symm
    · simpa using hb

/-- the document's Out, whatever comes in -/
def outE (i h : Int) (ws xs : List Int) : Int := if fits i h ws && feeds i xs then 0 else 600
def outV (i h : Int) (ws xs : List Int) : Int := if fits i h ws && feeds i xs then outOf i.toNat h.toNat ws xs else 0
theorem refOut_any (H : Heap) (i h : Int) (w x : V) (ws xs : List Int) (hw : Sl 1 intC H w ws) (hx : Sl 1 intC H x xs) (lw : ws.length ≤ 2 ^ 47) (lx : xs.length ≤ 2 ^ 47) :
    Call Try.prog 23 [.agg [.int .i64 i, .int .i64 h], w, x] H (.tup [.int .i64 (outV i h ws xs), .int .i64 (outE i h ws xs)]) H := by
  unfold outE outV
  cases hok : (fits i h ws && feeds i xs) with
  | false => exact refOut_bad H i h w x ws xs hw hx lw lx hok
  | true =>
    simp only [Bool.and_eq_true] at hok
    obtain ⟨_, _, i', h', rfl, rfl, _⟩ := fits_split hok.1
    exact refOut_ H i' h' w x ws xs hw hx hok.1 hok.2
theorem outV_may (i h : Int) (ws xs : List Int) : fixMay (outV i h ws xs) = true := by
  unfold outV
  split
  · exact outOf_may _ _ _ _
  · rfl

theorem law_backRight {D : Type} (K : Heap) (vs : List V) (ds : List (DataW D)) (ro : Ro K) (h : RdAll T K [23, 24, 24] vs ds) : ∃ K', Call Try.prog 4 vs K (.bool true) K' := by
  obtain ⟨s, vs, d1, ds, rfl, rfl, hs, h⟩ := rdAll_cons h
  obtain ⟨w, vs, d2, ds, rfl, rfl, hw, h⟩ := rdAll_cons h
  obtain ⟨x, vs, d3, ds, rfl, rfl, hr, h⟩ := rdAll_cons h
  obtain ⟨rfl, rfl⟩ := rdAll_nil h
  obtain ⟨i, j, rfl⟩ := rd_shape hs
  obtain ⟨ws, hws, lw⟩ := rd_ints hw
  obtain ⟨xs, hxs, lx⟩ := rd_ints hr
  replace lw : ws.length * 8 ≤ 140737488351232 := lw
  replace lx : xs.length * 8 ≤ 140737488351232 := lx
  clear hs hw hr h
  refine ⟨K, ?_⟩
  refine call_plain fit mixed Try.func4 rfl rfl rfl (by kernel_rfl) rfl ?_
  obtain ⟨H1, hH1⟩ : ∃ H1, K ++ [.row [.int .i64 i, .int .i64 j] true] = H1 := ⟨_, rfl⟩
  have p1 : K <+: H1 := by rw [← hH1]; exact List.prefix_append _ _
  have l0 : loadV T 23 H1 K.length 0 = some (.agg [.int .i64 i, .int .i64 j]) := by
    refine loadV_agg T23 rfl ?_
    rw [← hH1, loadN_app0]; rfl
  have c1 := awake7_ H1
  have c2 := refOut_any H1 i j w x ws xs (hws.mono p1) (hxs.mono p1) (by omega) (by omega)
  obtain ⟨y, hy⟩ : ∃ y, outV i j ws xs = y := ⟨_, rfl⟩
  have hym : fixMay y = true := by rw [← hy]; exact outV_may _ _ _ _
  rw [hy] at c2
  obtain ⟨a, H2, c3, m3⟩ := grad_any H1 i j y w x ws xs (hws.mono p1) (hxs.mono p1) (by omega) (by omega)
  have hlen := m3.sl.len T24 rfl
  have hlw := (hws.mono (p1.trans m3.1)).len T24 rfl
  have hbuild := hxs.two
  cases hok : (fits i j ws && feeds i xs)
  · have e1 : outE i j ws xs = 600 := by unfold outE; rw [hok]; rfl
    have e2 : gradL i j ws xs y = [] := by unfold gradL gradOk; rw [hok]; rfl
    rw [e1] at c2
    rw [e2] at hlen
    have pend := p1.trans m3.1
    clear e1 e2 m3 hws hxs lw lx hy hym hok hlw
    rcases hbuild with rfl | ⟨_, _, _, _, _, _, rfl⟩
    all_goals
      repeat (first | refine l_go ?_ | refine d_go ?_ | refine l_onG ?_ | refine l_offG ?_ | refine d_onG ?_ | refine d_offG ?_ | refine wq_seq ?_ | refine wq_line ?_ | refine wq_draw (by decide +kernel) ?_ | refine wq_block ?_ | refine l_nil ?_ | refine d_nil ?_ | refine wq_skip ?_ | refine wq_ret ?_ | refine wq_exit ?_ | refine th_normal ?_ | refine th_ret ?_ | refine th_exit ?_ | refine bk_normal ?_ | refine bk_ret ?_ | refine bk_exit ?_ | refine bk_other rfl ?_)
      refine l_heap (h' := H1) hH1 ?_
      refine l_callG c1 ?_
      repeat (first | refine l_go ?_ | refine d_go ?_ | refine l_onG ?_ | refine l_offG ?_ | refine d_onG ?_ | refine d_offG ?_ | refine wq_seq ?_ | refine wq_line ?_ | refine wq_draw (by decide +kernel) ?_ | refine wq_block ?_ | refine l_nil ?_ | refine d_nil ?_ | refine wq_skip ?_ | refine wq_ret ?_ | refine wq_exit ?_ | refine th_normal ?_ | refine th_ret ?_ | refine th_exit ?_ | refine bk_normal ?_ | refine bk_ret ?_ | refine bk_exit ?_ | refine bk_other rfl ?_)
      refine cond_go (fun hb => ?_) (fun hb => ?_)
      · cases hb
      clear hb
      repeat (first | refine l_go ?_ | refine d_go ?_ | refine l_onG ?_ | refine l_offG ?_ | refine d_onG ?_ | refine d_offG ?_ | refine wq_seq ?_ | refine wq_line ?_ | refine wq_draw (by decide +kernel) ?_ | refine wq_block ?_ | refine l_nil ?_ | refine d_nil ?_ | refine wq_skip ?_ | refine wq_ret ?_ | refine wq_exit ?_ | refine th_normal ?_ | refine th_ret ?_ | refine th_exit ?_ | refine bk_normal ?_ | refine bk_ret ?_ | refine bk_exit ?_ | refine bk_other rfl ?_)
      refine l_callG c2 ?_
      repeat (first | refine l_go ?_ | refine d_go ?_ | refine l_onG ?_ | refine l_offG ?_ | refine d_onG ?_ | refine d_offG ?_ | refine wq_seq ?_ | refine wq_line ?_ | refine wq_draw (by decide +kernel) ?_ | refine wq_block ?_ | refine l_nil ?_ | refine d_nil ?_ | refine wq_skip ?_ | refine wq_ret ?_ | refine wq_exit ?_ | refine th_normal ?_ | refine th_ret ?_ | refine th_exit ?_ | refine bk_normal ?_ | refine bk_ret ?_ | refine bk_exit ?_ | refine bk_other rfl ?_)
      refine l_callG c3 ?_
      repeat (first | refine l_go ?_ | refine d_go ?_ | refine l_onG ?_ | refine l_offG ?_ | refine d_onG ?_ | refine d_offG ?_ | refine wq_seq ?_ | refine wq_line ?_ | refine wq_draw (by decide +kernel) ?_ | refine wq_block ?_ | refine l_nil ?_ | refine d_nil ?_ | refine wq_skip ?_ | refine wq_ret ?_ | refine wq_exit ?_ | refine th_normal ?_ | refine th_ret ?_ | refine th_exit ?_ | refine bk_normal ?_ | refine bk_ret ?_ | refine bk_exit ?_ | refine bk_other rfl ?_)
      refine cond_go (fun hb => ?_) (fun hb => ?_)
      · repeat (first | refine l_go ?_ | refine d_go ?_ | refine l_onG ?_ | refine l_offG ?_ | refine d_onG ?_ | refine d_offG ?_ | refine wq_seq ?_ | refine wq_line ?_ | refine wq_draw (by decide +kernel) ?_ | refine wq_block ?_ | refine l_nil ?_ | refine d_nil ?_ | refine wq_skip ?_ | refine wq_ret ?_ | refine wq_exit ?_ | refine th_normal ?_ | refine th_ret ?_ | refine th_exit ?_ | refine bk_normal ?_ | refine bk_ret ?_ | refine bk_exit ?_ | refine bk_other rfl ?_)
        refine end_ret (by simp only [resRf, resRs, resR]; first | done | rfl) ⟨?_, pend⟩
        simp [put_app, put_none]
      · cases hb
  · have hok' := hok
    simp only [Bool.and_eq_true] at hok'
    obtain ⟨_, _, i', j', rfl, rfl, _, _, _, _, hsz⟩ := fits_split hok'.1
    have hfe := (feeds_split hok'.2).1
    have e1 : outE i' j' ws xs = 0 := by unfold outE; rw [hok]; rfl
    have e0 : outOf i' j' ws xs = y := by rw [← hy]; unfold outV; rw [hok]; rfl
    have e2 : gradL i' j' ws xs y = List.replicate ws.length 0 := by
      unfold gradL gradOk
      rw [hok, hym, ← e0]
      rw [hsz]
      exact grad_right (Int.ofNat_inj.1 hfe)
    have e3 : gradE i' j' ws xs y = 0 := by unfold gradE gradOk; rw [hok, hym]; rfl
    rw [e1] at c2
    rw [e3] at c3
    rw [e2] at m3
    obtain ⟨n, hn⟩ : ∃ n, ws.length = n := ⟨_, rfl⟩
    rw [hn] at m3 hlw
    have m4 := int_make H2 n
    have c4 := sameInts_ _ a _ _ _ (m3.sl.mono m4.1) m4.sl (by simp; omega)
    rw [decide_eq_true rfl] at c4
    have pend := (p1.trans m3.1).trans m4.1
    clear e0 e1 e2 e3 m3 m4 hws hxs lx hy hym hok hok' hlen hsz hfe
    rcases hbuild with rfl | ⟨_, _, _, _, _, _, rfl⟩
    all_goals
      repeat (first | refine l_go ?_ | refine d_go ?_ | refine l_onG ?_ | refine l_offG ?_ | refine d_onG ?_ | refine d_offG ?_ | refine wq_seq ?_ | refine wq_line ?_ | refine wq_draw (by decide +kernel) ?_ | refine wq_block ?_ | refine l_nil ?_ | refine d_nil ?_ | refine wq_skip ?_ | refine wq_ret ?_ | refine wq_exit ?_ | refine th_normal ?_ | refine th_ret ?_ | refine th_exit ?_ | refine bk_normal ?_ | refine bk_ret ?_ | refine bk_exit ?_ | refine bk_other rfl ?_)
      refine l_heap (h' := H1) hH1 ?_
      refine l_callG c1 ?_
      repeat (first | refine l_go ?_ | refine d_go ?_ | refine l_onG ?_ | refine l_offG ?_ | refine d_onG ?_ | refine d_offG ?_ | refine wq_seq ?_ | refine wq_line ?_ | refine wq_draw (by decide +kernel) ?_ | refine wq_block ?_ | refine l_nil ?_ | refine d_nil ?_ | refine wq_skip ?_ | refine wq_ret ?_ | refine wq_exit ?_ | refine th_normal ?_ | refine th_ret ?_ | refine th_exit ?_ | refine bk_normal ?_ | refine bk_ret ?_ | refine bk_exit ?_ | refine bk_other rfl ?_)
      refine cond_go (fun hb => ?_) (fun hb => ?_)
      · cases hb
      clear hb
      repeat (first | refine l_go ?_ | refine d_go ?_ | refine l_onG ?_ | refine l_offG ?_ | refine d_onG ?_ | refine d_offG ?_ | refine wq_seq ?_ | refine wq_line ?_ | refine wq_draw (by decide +kernel) ?_ | refine wq_block ?_ | refine l_nil ?_ | refine d_nil ?_ | refine wq_skip ?_ | refine wq_ret ?_ | refine wq_exit ?_ | refine th_normal ?_ | refine th_ret ?_ | refine th_exit ?_ | refine bk_normal ?_ | refine bk_ret ?_ | refine bk_exit ?_ | refine bk_other rfl ?_)
      refine l_callG c2 ?_
      repeat (first | refine l_go ?_ | refine d_go ?_ | refine l_onG ?_ | refine l_offG ?_ | refine d_onG ?_ | refine d_offG ?_ | refine wq_seq ?_ | refine wq_line ?_ | refine wq_draw (by decide +kernel) ?_ | refine wq_block ?_ | refine l_nil ?_ | refine d_nil ?_ | refine wq_skip ?_ | refine wq_ret ?_ | refine wq_exit ?_ | refine th_normal ?_ | refine th_ret ?_ | refine th_exit ?_ | refine bk_normal ?_ | refine bk_ret ?_ | refine bk_exit ?_ | refine bk_other rfl ?_)
      refine l_callG c3 ?_
      repeat (first | refine l_go ?_ | refine d_go ?_ | refine l_onG ?_ | refine l_offG ?_ | refine d_onG ?_ | refine d_offG ?_ | refine wq_seq ?_ | refine wq_line ?_ | refine wq_draw (by decide +kernel) ?_ | refine wq_block ?_ | refine l_nil ?_ | refine d_nil ?_ | refine wq_skip ?_ | refine wq_ret ?_ | refine wq_exit ?_ | refine th_normal ?_ | refine th_ret ?_ | refine th_exit ?_ | refine bk_normal ?_ | refine bk_ret ?_ | refine bk_exit ?_ | refine bk_other rfl ?_)
      refine l_callG (num_ _ _) ?_
      repeat (first | refine l_go ?_ | refine d_go ?_ | refine l_onG ?_ | refine l_offG ?_ | refine d_onG ?_ | refine d_offG ?_ | refine wq_seq ?_ | refine wq_line ?_ | refine wq_draw (by decide +kernel) ?_ | refine wq_block ?_ | refine l_nil ?_ | refine d_nil ?_ | refine wq_skip ?_ | refine wq_ret ?_ | refine wq_exit ?_ | refine th_normal ?_ | refine th_ret ?_ | refine th_exit ?_ | refine bk_normal ?_ | refine bk_ret ?_ | refine bk_exit ?_ | refine bk_other rfl ?_)
      refine cond_go (fun hb => ?_) (fun hb => ?_)
      · cases hb
      clear hb
      repeat (first | refine l_go ?_ | refine d_go ?_ | refine l_onG ?_ | refine l_offG ?_ | refine d_onG ?_ | refine d_offG ?_ | refine wq_seq ?_ | refine wq_line ?_ | refine wq_draw (by decide +kernel) ?_ | refine wq_block ?_ | refine l_nil ?_ | refine d_nil ?_ | refine wq_skip ?_ | refine wq_ret ?_ | refine wq_exit ?_ | refine th_normal ?_ | refine th_ret ?_ | refine th_exit ?_ | refine bk_normal ?_ | refine bk_ret ?_ | refine bk_exit ?_ | refine bk_other rfl ?_)
      refine l_makeG T24 rfl T3 ?_
      refine l_heap (h' := H2 ++ [.row (zeros [.int .i64 0] n) true]) rfl ?_
      refine l_callG c4 ?_
      repeat (first | refine l_go ?_ | refine d_go ?_ | refine l_onG ?_ | refine l_offG ?_ | refine d_onG ?_ | refine d_offG ?_ | refine wq_seq ?_ | refine wq_line ?_ | refine wq_draw (by decide +kernel) ?_ | refine wq_block ?_ | refine l_nil ?_ | refine d_nil ?_ | refine wq_skip ?_ | refine wq_ret ?_ | refine wq_exit ?_ | refine th_normal ?_ | refine th_ret ?_ | refine th_exit ?_ | refine bk_normal ?_ | refine bk_ret ?_ | refine bk_exit ?_ | refine bk_other rfl ?_)
      refine end_ret (by simp only [resRf, resRs, resR]; first | done | rfl) ⟨?_, pend⟩
      simp [put_app, put_none]
end Go.Proofs.Ytjageapgbpdlhaa.VM
