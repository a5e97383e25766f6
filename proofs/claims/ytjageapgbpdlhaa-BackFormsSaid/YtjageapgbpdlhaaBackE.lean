/- Chapter 7: the statement BackZero. -/
import Derived.Test.YtjageapgbpdlhaaBackD
namespace Go.Proofs.Ytjageapgbpdlhaa.VM
open Go
set_option linter.unusedVariables false
set_option linter.unusedSimpArgs false
attribute [local irreducible] wq wqL wqD wqE wqO Th Bk EndR
set_option maxHeartbeats 8000000

theorem and_mask (x : Int) (m : Nat) (hm : m < 2 ^ 62) (hmb : (BitVec.ofInt IntKind.i64.bits (m : Int)).toNat = m) : ∃ y : Int, IntKind.i64.wrap ((BitVec.ofInt IntKind.i64.bits x &&& BitVec.ofInt IntKind.i64.bits (m : Int)).toNat : Int) = y ∧ 0 ≤ y ∧ y ≤ m := by
  have h : (BitVec.ofInt IntKind.i64.bits x &&& BitVec.ofInt IntKind.i64.bits (m : Int)).toNat ≤ m := by
    rw [BitVec.toNat_and]
    exact Nat.le_trans Nat.and_le_right (by rw [hmb]; exact Nat.le_refl _)
  exact ⟨((BitVec.ofInt IntKind.i64.bits x &&& BitVec.ofInt IntKind.i64.bits (m : Int)).toNat : Int), wrap_nat (by omega), by omega, by omega⟩

theorem feeds_zero {i : Nat} (hi : i ≤ 3) : feeds i (List.replicate i 0) = true := by
  simp [feeds, vecMay, within]; omega
theorem plus_zero {b : Int} (hb : fixMay b = true) : plus b 0 = b := by
  have h := within_iff.1 hb
  unfold plus
  rw [Int.add_zero, W_small (by omega) (by omega)]
  exact clip_id h.1 h.2
theorem dot_zero : ∀ (xs : List Int) (n : Nat), dotFrom 0 xs (List.replicate n 0) = 0
  | [], n => by cases n <;> rfl
  | x :: xs, 0 => rfl
  | x :: xs, n + 1 => by
    rw [List.replicate_succ, dotFrom, times_zero_r, plus_zero (by rfl)]
    exact dot_zero xs n
theorem may_get {ws : List Int} (h : vecMay ws = true) (k : Nat) : fixMay (ws.getD k 0) = true := by
  rw [List.getD_eq_getElem?_getD]
  cases hk : ws[k]? with
  | none => rfl
  | some x =>
    simp only [vecMay, Bool.and_eq_true, List.all_eq_true] at h
    exact h.2 x (List.mem_of_getElem? hk)
theorem unit_zero {i k n : Nat} {ws : List Int} (h : vecMay ws = true) : unit i ws (List.replicate n 0) k = ws.getD (k * (i + 1) + i) 0 := by
  unfold unit
  rw [dot, dot_zero, plus_zero (may_get h _)]
theorem times_one {x : Int} (hx : fixMay x = true) : times x 65536 = x := by
  have h := within_iff.1 hx
  unfold times
  rw [W_small (by omega) (by omega)]
  have : (x * 65536).fdiv 65536 = x := Int.mul_fdiv_cancel x (by decide)
  rw [this]
  exact clip_id h.1 h.2

theorem zero_row {i h k jj : Nat} {ws : List Int} {e : Int} (hw : vecMay ws = true) (hk : k < h) (hj : jj < i) : (gradRow i h ws (List.replicate i 0) e (units i h ws (List.replicate i 0)) k)[jj]? = some 0 := by
  unfold gradRow
  simp only [List.map_replicate, times_zero_r]
  rw [List.getElem?_append_left (by simpa using hj), List.getElem?_replicate, if_pos hj]
theorem zero_bias {i h k : Nat} {ws : List Int} {e : Int} (hw : vecMay ws = true) (hk : k < h) :
    (gradRow i h ws (List.replicate i 0) e (units i h ws (List.replicate i 0)) k)[i]? = some (if ws.getD (k * (i + 1) + i) 0 > -65536 ∧ ws.getD (k * (i + 1) + i) 0 < 65536 then times e (ws.getD (h * (i + 1) + k) 0) else 0) := by
  unfold gradRow
  simp only [List.map_replicate]
  rw [List.getElem?_append_right (by simp)]
  simp only [List.length_replicate, Nat.sub_self, List.getElem?_cons_zero, Option.some.injEq]
  rw [List.getD_eq_getElem?_getD (l := units i h ws (List.replicate i 0)), unit_get hk, unit_zero hw]
  unfold rise
  simp only [Option.getD_some]
  split
  · exact times_one (times_may _ _)
  · exact times_zero_r _

theorem law_backZero {D : Type} (K : Heap) (vs : List V) (ds : List (DataW D)) (ro : Ro K) (h : RdAll T K [23, 24, 3] vs ds) : ∃ K', Call Try.prog 7 vs K (.bool true) K' := by
  obtain ⟨s, vs, d1, ds, rfl, rfl, hs, h⟩ := rdAll_cons h
  obtain ⟨w, vs, d2, ds, rfl, rfl, hw, h⟩ := rdAll_cons h
  obtain ⟨r, vs, d3, ds, rfl, rfl, hr, h⟩ := rdAll_cons h
  obtain ⟨rfl, rfl⟩ := rdAll_nil h
  obtain ⟨i, j, rfl⟩ := rd_shape hs
  obtain ⟨ws, hws, lw⟩ := rd_ints hw
  obtain ⟨y0, rfl, _⟩ := hr.int T3 rfl
  replace lw : ws.length * 8 ≤ 140737488351232 := lw
  clear hs hw hr h
  refine ⟨K, ?_⟩
  refine call_plain fit mixed Try.func7 rfl rfl rfl (by kernel_rfl) rfl ?_
  obtain ⟨H1, hH1⟩ : ∃ H1, K ++ [.row [.int .i64 i, .int .i64 j] true] = H1 := ⟨_, rfl⟩
  have p1 : K <+: H1 := by rw [← hH1]; exact List.prefix_append _ _
  have q0 : ∀ B, H1 <+: B → loadV T 23 B K.length 0 = some (.agg [.int .i64 i, .int .i64 j]) := fun B hp => by
    refine loadV_agg T23 rfl (loadN_pre hp ?_)
    rw [← hH1, loadN_app0]; rfl
  have q4 : ∀ B, H1 <+: B → loadV T 3 B K.length 0 = some (.int .i64 i) := fun B hp => by
    refine loadV_one T3 rfl (loadN_pre hp ?_)
    rw [← hH1, loadN_app0]; rfl
  have q5 : ∀ B, H1 <+: B → loadV T 3 B K.length 1 = some (.int .i64 j) := fun B hp => by
    refine loadV_one T3 rfl (loadN_pre hp ?_)
    rw [← hH1, loadN_app0]; rfl
  have c1 := awake7_ H1
  have a0 := q4 H1 (List.prefix_refl _)
  have a1 := q5 H1 (List.prefix_refl _)
  by_cases hsh : shapeMay i j = true
  · obtain ⟨i, j, rfl, rfl, hi1, hi2, hj1, hj2⟩ := shape_nat hsh
    have d1 : decide ((i : Int) < 1) = false := decide_eq_false (by omega)
    have d2 : decide ((i : Int) > 3) = false := decide_eq_false (by omega)
    have d3 : decide ((j : Int) < 1) = false := decide_eq_false (by omega)
    have d4 : decide ((j : Int) > 3) = false := decide_eq_false (by omega)
    obtain ⟨y, hy, hy0, hy1⟩ := and_mask y0 65535 (by decide) (by decide)
    replace hy : IntKind.i64.wrap ((BitVec.ofInt IntKind.i64.bits y0 &&& BitVec.ofInt IntKind.i64.bits 65535).toNat : Int) = y := hy
    have hym : fixMay y = true := within_iff.2 ⟨by omega, by omega⟩
    have m2 := int_make H1 i
    obtain ⟨H2, hH2⟩ : ∃ H2, H1 ++ [.row (zeros [.int .i64 0] i) true] = H2 := ⟨_, rfl⟩
    rw [hH2] at m2
    obtain ⟨H3, hH3⟩ : ∃ H3, H2 ++ [.row [(V.slc H1.length 0 i i true 1), .int .i64 y] true] = H3 := ⟨_, rfl⟩
    have p3 : H2 <+: H3 := by rw [← hH3]; exact List.prefix_append _ _
    have p13 : H1 <+: H3 := m2.1.trans p3
    have r0 : ∀ B, H3 <+: B → loadV T 26 B H2.length 0 = some (.agg [(V.slc H1.length 0 i i true 1), .int .i64 y]) := fun B hp => by
      refine loadV_agg T26 rfl (loadN_pre hp ?_)
      rw [← hH3, loadN_app0]; rfl
    have r1 : ∀ B, H3 <+: B → loadV T 24 B H2.length 0 = some (V.slc H1.length 0 i i true 1) := fun B hp => by
      refine loadV_one T24 rfl (loadN_pre hp ?_)
      rw [← hH3, loadN_app0]; rfl
    have r2 : ∀ B, H3 <+: B → loadV T 3 B H2.length 1 = some (.int .i64 y) := fun B hp => by
      refine loadV_one T3 rfl (loadN_pre hp ?_)
      rw [← hH3, loadN_app0]; rfl
    have hxs := m2.sl.mono p3
    obtain ⟨a, H4, c2, m4⟩ := grad_any H3 i j y w (V.slc H1.length 0 i i true 1) ws _ (hws.mono (p1.trans p13)) hxs (by omega) (by simp; omega)
    have p4 := m4.1
    have p14 := p13.trans p4
    have hla := m4.sl.len T24 rfl
    have hlw := (hws.mono (p1.trans p14)).len T24 rfl
    have pend := p1.trans p14
    have l0 := q0 H3 p13
    have l1 := r0 H3 (List.prefix_refl _)
    have hfe := feeds_zero hi2
    cases hf : fits i j ws
    · have hok : gradOk i j ws (List.replicate i 0) y = false := by unfold gradOk; rw [hf]; rfl
      have e1 : gradE i j ws (List.replicate i 0) y = 700 := by unfold gradE; rw [hok]; rfl
      have e2 : gradL i j ws (List.replicate i 0) y = [] := by unfold gradL; rw [hok]; rfl
      rw [e1] at c2
      rw [e2] at hla
      have hi47 : i ≤ 3 := hi2
      clear e1 e2 m2 m4 hws lw hok hlw q0 q4 q5 r0 r1 r2 p1 p3 p13 p4 p14 hf hfe hsh hxs hym hy0 hy1
      repeat (first | refine l_go ?_ | refine d_go ?_ | refine l_onG ?_ | refine l_offG ?_ | refine d_onG ?_ | refine d_offG ?_ | refine wq_seq ?_ | refine wq_line ?_ | refine wq_draw (by decide +kernel) ?_ | refine wq_block ?_ | refine l_nil ?_ | refine d_nil ?_ | refine wq_skip ?_ | refine wq_ret ?_ | refine wq_exit ?_ | refine th_normal ?_ | refine th_ret ?_ | refine th_exit ?_ | refine bk_normal ?_ | refine bk_ret ?_ | refine bk_exit ?_ | refine bk_other rfl ?_)
      refine l_heap (h' := H1) hH1 ?_
      refine l_callG c1 ?_
      repeat (first | refine l_go ?_ | refine d_go ?_ | refine l_onG ?_ | refine l_offG ?_ | refine d_onG ?_ | refine d_offG ?_ | refine wq_seq ?_ | refine wq_line ?_ | refine wq_draw (by decide +kernel) ?_ | refine wq_block ?_ | refine l_nil ?_ | refine d_nil ?_ | refine wq_skip ?_ | refine wq_ret ?_ | refine wq_exit ?_ | refine th_normal ?_ | refine th_ret ?_ | refine th_exit ?_ | refine bk_normal ?_ | refine bk_ret ?_ | refine bk_exit ?_ | refine bk_other rfl ?_)
      refine cond_go (fun hb => ?_) (fun hb => ?_)
      · cases hb
      clear hb
      repeat (first | refine l_go ?_ | refine d_go ?_ | refine l_onG ?_ | refine l_offG ?_ | refine d_onG ?_ | refine d_offG ?_ | refine wq_seq ?_ | refine wq_line ?_ | refine wq_draw (by decide +kernel) ?_ | refine wq_block ?_ | refine l_nil ?_ | refine d_nil ?_ | refine wq_skip ?_ | refine wq_ret ?_ | refine wq_exit ?_ | refine th_normal ?_ | refine th_ret ?_ | refine th_exit ?_ | refine bk_normal ?_ | refine bk_ret ?_ | refine bk_exit ?_ | refine bk_other rfl ?_)
      refine cond_go (fun hb => ?_) (fun hb => ?_)
      · cases hb
      clear hb
      repeat (first | refine l_go ?_ | refine d_go ?_ | refine l_onG ?_ | refine l_offG ?_ | refine d_onG ?_ | refine d_offG ?_ | refine wq_seq ?_ | refine wq_line ?_ | refine wq_draw (by decide +kernel) ?_ | refine wq_block ?_ | refine l_nil ?_ | refine d_nil ?_ | refine wq_skip ?_ | refine wq_ret ?_ | refine wq_exit ?_ | refine th_normal ?_ | refine th_ret ?_ | refine th_exit ?_ | refine bk_normal ?_ | refine bk_ret ?_ | refine bk_exit ?_ | refine bk_other rfl ?_)
      refine l_makeG T24 rfl T3 ?_
      refine l_heap (h' := H2) hH2 ?_
      repeat (first | refine l_goB ?_ | refine d_goB ?_ | refine l_onG ?_ | refine l_offG ?_ | refine d_onG ?_ | refine d_offG ?_ | refine wq_seq ?_ | refine wq_line ?_ | refine wq_draw (by decide +kernel) ?_ | refine wq_block ?_ | refine l_nil ?_ | refine d_nil ?_ | refine wq_skip ?_ | refine wq_ret ?_ | refine wq_exit ?_ | refine th_normal ?_ | refine th_ret ?_ | refine th_exit ?_ | refine bk_normal ?_ | refine bk_ret ?_ | refine bk_exit ?_ | refine bk_other rfl ?_)
      refine l_heap (h' := H3) hH3 ?_
      repeat (first | refine l_go ?_ | refine d_go ?_ | refine l_onG ?_ | refine l_offG ?_ | refine d_onG ?_ | refine d_offG ?_ | refine wq_seq ?_ | refine wq_line ?_ | refine wq_draw (by decide +kernel) ?_ | refine wq_block ?_ | refine l_nil ?_ | refine d_nil ?_ | refine wq_skip ?_ | refine wq_ret ?_ | refine wq_exit ?_ | refine th_normal ?_ | refine th_ret ?_ | refine th_exit ?_ | refine bk_normal ?_ | refine bk_ret ?_ | refine bk_exit ?_ | refine bk_other rfl ?_)
      refine l_callG c2 ?_
      repeat (first | refine l_go ?_ | refine d_go ?_ | refine l_onG ?_ | refine l_offG ?_ | refine d_onG ?_ | refine d_offG ?_ | refine wq_seq ?_ | refine wq_line ?_ | refine wq_draw (by decide +kernel) ?_ | refine wq_block ?_ | refine l_nil ?_ | refine d_nil ?_ | refine wq_skip ?_ | refine wq_ret ?_ | refine wq_exit ?_ | refine th_normal ?_ | refine th_ret ?_ | refine th_exit ?_ | refine bk_normal ?_ | refine bk_ret ?_ | refine bk_exit ?_ | refine bk_other rfl ?_)
      refine l_callG (num_ _ _) ?_
      repeat (first | refine l_go ?_ | refine d_go ?_ | refine l_onG ?_ | refine l_offG ?_ | refine d_onG ?_ | refine d_offG ?_ | refine wq_seq ?_ | refine wq_line ?_ | refine wq_draw (by decide +kernel) ?_ | refine wq_block ?_ | refine l_nil ?_ | refine d_nil ?_ | refine wq_skip ?_ | refine wq_ret ?_ | refine wq_exit ?_ | refine th_normal ?_ | refine th_ret ?_ | refine th_exit ?_ | refine bk_normal ?_ | refine bk_ret ?_ | refine bk_exit ?_ | refine bk_other rfl ?_)
      refine cond_go (fun hb => ?_) (fun hb => ?_)
      · repeat (first | refine l_go ?_ | refine d_go ?_ | refine l_onG ?_ | refine l_offG ?_ | refine d_onG ?_ | refine d_offG ?_ | refine wq_seq ?_ | refine wq_line ?_ | refine wq_draw (by decide +kernel) ?_ | refine wq_block ?_ | refine l_nil ?_ | refine d_nil ?_ | refine wq_skip ?_ | refine wq_ret ?_ | refine wq_exit ?_ | refine th_normal ?_ | refine th_ret ?_ | refine th_exit ?_ | refine bk_normal ?_ | refine bk_ret ?_ | refine bk_exit ?_ | refine bk_other rfl ?_)
        refine l_callG (num_ _ _) ?_
        repeat (first | refine l_go ?_ | refine d_go ?_ | refine l_onG ?_ | refine l_offG ?_ | refine d_onG ?_ | refine d_offG ?_ | refine wq_seq ?_ | refine wq_line ?_ | refine wq_draw (by decide +kernel) ?_ | refine wq_block ?_ | refine l_nil ?_ | refine d_nil ?_ | refine wq_skip ?_ | refine wq_ret ?_ | refine wq_exit ?_ | refine th_normal ?_ | refine th_ret ?_ | refine th_exit ?_ | refine bk_normal ?_ | refine bk_ret ?_ | refine bk_exit ?_ | refine bk_other rfl ?_)
        refine end_ret (by simp only [resRf, resRs, resR]; first | done | rfl) ⟨?_, pend⟩
        simp [put_app, put_none]
      · cases hb
    · have hok : gradOk i j ws (List.replicate i 0) y = true := by unfold gradOk; rw [hf, hfe, hym]; rfl
      have hok2 : (fits i j ws && feeds i (List.replicate i 0)) = true := by rw [hf, hfe]; rfl
      have e1 : gradE i j ws (List.replicate i 0) y = 0 := by unfold gradE; rw [hok]; rfl
      have e2 : gradL i j ws (List.replicate i 0) y = grad i j ws (List.replicate i 0) y := by unfold gradL; rw [hok]; rfl
      rw [e1] at c2
      have sa := m4.sl
      rw [e2] at sa hla
      have hvw := (fits_split hf).2.1
      have hsz : ws.length = netSize i j := by
        obtain ⟨_, _, i', j', hi', hj', _, _, _, _, hsz⟩ := fits_split hf
        rw [Int.ofNat_inj.1 hi', Int.ofNat_inj.1 hj']; exact hsz
      have hxl : (List.replicate i (0 : Int)).length = i := List.length_replicate
      obtain ⟨n, hn⟩ : ∃ n, netSize i j = n := ⟨_, rfl⟩
      rw [grad_len hxl, hn] at hla
      rw [hsz, hn] at hlw
      have hsm := small_size hi2 hj2
      have hn1 : 1 ≤ n ∧ n ≤ 16 := by rw [← hn]; unfold netSize; omega
      have hn2 : n = j * (i + 1) + j + 1 := by rw [← hn]; rfl
      have c3 := refOut_ H4 i j w (V.slc H1.length 0 i i true 1) ws (List.replicate i 0) (hws.mono (p1.trans p14)) (hxs.mono p4) hf hfe
      obtain ⟨e, he⟩ : ∃ e, plus (outOf i j ws (List.replicate i 0)) (neg y) = e := ⟨_, rfl⟩
      have c4 : Call Try.prog 26 [.int .i64 (outOf i j ws (List.replicate i 0)), .int .i64 (IntKind.i64.wrap (0 - y))] H4 (.int .i64 e) H4 := by rw [← he]; exact refPlus_ H4 _ _
      have ct := fun x : Int => refTimes_ H4 e x
      have l2 := q0 H4 p14
      have l3 := r1 H4 p4
      have l4 := r2 H4 p4
      have l5 := q4 H4 p14
      have l6 := q5 H4 p14
      have w1 : IntKind.i64.wrap ((i : Int) + 1) = ((i + 1 : Nat) : Int) := wrap_succ (by omega)
      obtain ⟨at_, hat⟩ : ∃ at_, j * (i + 1) = at_ := ⟨_, rfl⟩
      have w2 : IntKind.i64.wrap ((j : Int) * ((i + 1 : Nat) : Int)) = (at_ : Int) := by rw [← Int.natCast_mul, hat]; exact wrap_nat (by omega)
      have sw := hws.mono (p1.trans p14)
      have hget := fun k (hk : k < j) (jj : Nat) (hj : jj < i + 1) => grad_get (ws := ws) (y := y) hxl hk hj
      rw [he] at hget
      have hz := fun k (hk : k < j) (jj : Nat) (hj : jj < i) => zero_row (ws := ws) (e := e) hvw hk hj
      have hzb := fun k (hk : k < j) => zero_bias (i := i) (ws := ws) (e := e) hvw hk
      rw [hat] at hn2 hsm hzb
      replace hn2 := hn2.symm
      clear e1 e2 m2 m4 hws lw hok hok2 q0 q4 q5 r0 r1 r2 p1 p3 p13 p4 p14 hf hfe hsh hxs hym hy0 hy1 he
      repeat (first | refine l_go ?_ | refine d_go ?_ | refine l_onG ?_ | refine l_offG ?_ | refine d_onG ?_ | refine d_offG ?_ | refine wq_seq ?_ | refine wq_line ?_ | refine wq_draw (by decide +kernel) ?_ | refine wq_block ?_ | refine l_nil ?_ | refine d_nil ?_ | refine wq_skip ?_ | refine wq_ret ?_ | refine wq_exit ?_ | refine th_normal ?_ | refine th_ret ?_ | refine th_exit ?_ | refine bk_normal ?_ | refine bk_ret ?_ | refine bk_exit ?_ | refine bk_other rfl ?_)
      refine l_heap (h' := H1) hH1 ?_
      refine l_callG c1 ?_
      repeat (first | refine l_go ?_ | refine d_go ?_ | refine l_onG ?_ | refine l_offG ?_ | refine d_onG ?_ | refine d_offG ?_ | refine wq_seq ?_ | refine wq_line ?_ | refine wq_draw (by decide +kernel) ?_ | refine wq_block ?_ | refine l_nil ?_ | refine d_nil ?_ | refine wq_skip ?_ | refine wq_ret ?_ | refine wq_exit ?_ | refine th_normal ?_ | refine th_ret ?_ | refine th_exit ?_ | refine bk_normal ?_ | refine bk_ret ?_ | refine bk_exit ?_ | refine bk_other rfl ?_)
      refine cond_go (fun hb => ?_) (fun hb => ?_)
      · cases hb
      clear hb
      repeat (first | refine l_go ?_ | refine d_go ?_ | refine l_onG ?_ | refine l_offG ?_ | refine d_onG ?_ | refine d_offG ?_ | refine wq_seq ?_ | refine wq_line ?_ | refine wq_draw (by decide +kernel) ?_ | refine wq_block ?_ | refine l_nil ?_ | refine d_nil ?_ | refine wq_skip ?_ | refine wq_ret ?_ | refine wq_exit ?_ | refine th_normal ?_ | refine th_ret ?_ | refine th_exit ?_ | refine bk_normal ?_ | refine bk_ret ?_ | refine bk_exit ?_ | refine bk_other rfl ?_)
      refine cond_go (fun hb => ?_) (fun hb => ?_)
      · cases hb
      clear hb
      repeat (first | refine l_go ?_ | refine d_go ?_ | refine l_onG ?_ | refine l_offG ?_ | refine d_onG ?_ | refine d_offG ?_ | refine wq_seq ?_ | refine wq_line ?_ | refine wq_draw (by decide +kernel) ?_ | refine wq_block ?_ | refine l_nil ?_ | refine d_nil ?_ | refine wq_skip ?_ | refine wq_ret ?_ | refine wq_exit ?_ | refine th_normal ?_ | refine th_ret ?_ | refine th_exit ?_ | refine bk_normal ?_ | refine bk_ret ?_ | refine bk_exit ?_ | refine bk_other rfl ?_)
      refine l_makeG T24 rfl T3 ?_
      refine l_heap (h' := H2) hH2 ?_
      repeat (first | refine l_goB ?_ | refine d_goB ?_ | refine l_onG ?_ | refine l_offG ?_ | refine d_onG ?_ | refine d_offG ?_ | refine wq_seq ?_ | refine wq_line ?_ | refine wq_draw (by decide +kernel) ?_ | refine wq_block ?_ | refine l_nil ?_ | refine d_nil ?_ | refine wq_skip ?_ | refine wq_ret ?_ | refine wq_exit ?_ | refine th_normal ?_ | refine th_ret ?_ | refine th_exit ?_ | refine bk_normal ?_ | refine bk_ret ?_ | refine bk_exit ?_ | refine bk_other rfl ?_)
      refine l_heap (h' := H3) hH3 ?_
      repeat (first | refine l_go ?_ | refine d_go ?_ | refine l_onG ?_ | refine l_offG ?_ | refine d_onG ?_ | refine d_offG ?_ | refine wq_seq ?_ | refine wq_line ?_ | refine wq_draw (by decide +kernel) ?_ | refine wq_block ?_ | refine l_nil ?_ | refine d_nil ?_ | refine wq_skip ?_ | refine wq_ret ?_ | refine wq_exit ?_ | refine th_normal ?_ | refine th_ret ?_ | refine th_exit ?_ | refine bk_normal ?_ | refine bk_ret ?_ | refine bk_exit ?_ | refine bk_other rfl ?_)
      refine l_callG c2 ?_
      repeat (first | refine l_go ?_ | refine d_go ?_ | refine l_onG ?_ | refine l_offG ?_ | refine d_onG ?_ | refine d_offG ?_ | refine wq_seq ?_ | refine wq_line ?_ | refine wq_draw (by decide +kernel) ?_ | refine wq_block ?_ | refine l_nil ?_ | refine d_nil ?_ | refine wq_skip ?_ | refine wq_ret ?_ | refine wq_exit ?_ | refine th_normal ?_ | refine th_ret ?_ | refine th_exit ?_ | refine bk_normal ?_ | refine bk_ret ?_ | refine bk_exit ?_ | refine bk_other rfl ?_)
      refine l_callG (num_ _ _) ?_
      repeat (first | refine l_go ?_ | refine d_go ?_ | refine l_onG ?_ | refine l_offG ?_ | refine d_onG ?_ | refine d_offG ?_ | refine wq_seq ?_ | refine wq_line ?_ | refine wq_draw (by decide +kernel) ?_ | refine wq_block ?_ | refine l_nil ?_ | refine d_nil ?_ | refine wq_skip ?_ | refine wq_ret ?_ | refine wq_exit ?_ | refine th_normal ?_ | refine th_ret ?_ | refine th_exit ?_ | refine bk_normal ?_ | refine bk_ret ?_ | refine bk_exit ?_ | refine bk_other rfl ?_)
      refine cond_go (fun hb => ?_) (fun hb => ?_)
      · simp at hb
      clear hb c1 c2 l0 l1 a0 a1 d1 d2 d3 d4
      refine wq_cut (fun ρ => ρ 1 = w ∧ ρ 3 = .ptr K.length 0 ∧ ρ 7 = .ptr H2.length 0 ∧ ρ 8 = a) ⟨rfl, rfl, rfl, rfl⟩ ?_
      rintro ρ ⟨h1, h3, h7, h8⟩
      repeat (first | refine l_go ?_ | refine d_go ?_ | refine l_onG ?_ | refine l_offG ?_ | refine d_onG ?_ | refine d_offG ?_ | refine wq_seq ?_ | refine wq_line ?_ | refine wq_draw (by decide +kernel) ?_ | refine wq_block ?_ | refine l_nil ?_ | refine d_nil ?_ | refine wq_skip ?_ | refine wq_ret ?_ | refine wq_exit ?_ | refine th_normal ?_ | refine th_ret ?_ | refine th_exit ?_ | refine bk_normal ?_ | refine bk_ret ?_ | refine bk_exit ?_ | refine bk_other rfl ?_)
      refine l_callG c3 ?_
      repeat (first | refine l_go ?_ | refine d_go ?_ | refine l_onG ?_ | refine l_offG ?_ | refine d_onG ?_ | refine d_offG ?_ | refine wq_seq ?_ | refine wq_line ?_ | refine wq_draw (by decide +kernel) ?_ | refine wq_block ?_ | refine l_nil ?_ | refine d_nil ?_ | refine wq_skip ?_ | refine wq_ret ?_ | refine wq_exit ?_ | refine th_normal ?_ | refine th_ret ?_ | refine th_exit ?_ | refine bk_normal ?_ | refine bk_ret ?_ | refine bk_exit ?_ | refine bk_other rfl ?_)
      refine cond_go (fun hb => ?_) (fun hb => ?_)
      · cases hb
      clear hb c3
      repeat (first | refine l_go ?_ | refine d_go ?_ | refine l_onG ?_ | refine l_offG ?_ | refine d_onG ?_ | refine d_offG ?_ | refine wq_seq ?_ | refine wq_line ?_ | refine wq_draw (by decide +kernel) ?_ | refine wq_block ?_ | refine l_nil ?_ | refine d_nil ?_ | refine wq_skip ?_ | refine wq_ret ?_ | refine wq_exit ?_ | refine th_normal ?_ | refine th_ret ?_ | refine th_exit ?_ | refine bk_normal ?_ | refine bk_ret ?_ | refine bk_exit ?_ | refine bk_other rfl ?_)
      refine l_callG c4 ?_
      repeat (first | refine l_go ?_ | refine d_go ?_ | refine l_onG ?_ | refine l_offG ?_ | refine d_onG ?_ | refine d_offG ?_ | refine wq_seq ?_ | refine wq_line ?_ | refine wq_draw (by decide +kernel) ?_ | refine wq_block ?_ | refine l_nil ?_ | refine d_nil ?_ | refine wq_skip ?_ | refine wq_ret ?_ | refine wq_exit ?_ | refine th_normal ?_ | refine th_ret ?_ | refine th_exit ?_ | refine bk_normal ?_ | refine bk_ret ?_ | refine bk_exit ?_ | refine bk_other rfl ?_)
      refine wq_loop (fun c ρ hp => ∃ k, k ≤ j ∧ c = j - k ∧ hp = H4 ∧ ρ 1 = w ∧ ρ 3 = .ptr K.length 0 ∧ ρ 8 = a ∧ ρ 12 = .int .i64 e ∧ ρ 13 = .int .i64 at_ ∧ ρ 14 = .int .i64 (k : Nat)) ⟨0, Nat.zero_le _, rfl, rfl, h1, h3, h8, rfl, rfl, rfl⟩ ?_
      clear h1 h3 h7 h8
      clear ρ
      rintro _ ρ _ ⟨k, hk, rfl, rfl, h1, h3, h8, h12, h13, h14⟩
      repeat (first | refine l_go ?_ | refine d_go ?_ | refine l_onG ?_ | refine l_offG ?_ | refine d_onG ?_ | refine d_offG ?_ | refine wq_seq ?_ | refine wq_line ?_ | refine wq_draw (by decide +kernel) ?_ | refine wq_block ?_ | refine l_nil ?_ | refine d_nil ?_ | refine wq_skip ?_ | refine wq_ret ?_ | refine wq_exit ?_ | refine th_normal ?_ | refine th_ret ?_ | refine th_exit ?_ | refine bk_normal ?_ | refine bk_ret ?_ | refine bk_exit ?_ | refine bk_other rfl ?_)
      refine cond_go (fun hb => ?_) (fun hb => ?_)
      · have hk' : k < j := by simpa using hb
        clear hb c4
        have hw2 := wrap_succ (n := k) (by omega)
        have hue := unit_end (i := i) hk'
        rw [hat] at hue
        obtain ⟨mm, hmm⟩ : ∃ mm, k * (i + 1) = mm := ⟨_, rfl⟩
        have w5 : IntKind.i64.wrap ((k : Int) * ((i + 1 : Nat) : Int)) = (mm : Int) := by rw [← Int.natCast_mul, hmm]; exact wrap_nat (by omega)
        have hgk := hget k hk'
        have hzk := hz k hk'
        have hbk := hzb k hk'
        rw [hmm] at hgk hbk hue
        clear hget hz hzb
        repeat (first | refine l_go ?_ | refine d_go ?_ | refine l_onG ?_ | refine l_offG ?_ | refine d_onG ?_ | refine d_offG ?_ | refine wq_seq ?_ | refine wq_line ?_ | refine wq_draw (by decide +kernel) ?_ | refine wq_block ?_ | refine l_nil ?_ | refine d_nil ?_ | refine wq_skip ?_ | refine wq_ret ?_ | refine wq_exit ?_ | refine th_normal ?_ | refine th_ret ?_ | refine th_exit ?_ | refine bk_normal ?_ | refine bk_ret ?_ | refine bk_exit ?_ | refine bk_other rfl ?_)
        refine wq_loop (fun c ρ hp => ∃ jj, jj ≤ i ∧ c = i - jj ∧ hp = _ ∧ ρ 1 = w ∧ ρ 3 = .ptr K.length 0 ∧ ρ 8 = a ∧ ρ 12 = .int .i64 e ∧ ρ 13 = .int .i64 at_ ∧ ρ 14 = .int .i64 (k : Nat) ∧ ρ 15 = .int .i64 (jj : Nat)) ⟨0, Nat.zero_le _, rfl, rfl, h1, h3, h8, h12, h13, h14, rfl⟩ ?_
        clear h1 h3 h8 h12 h13 h14
        clear ρ
        rintro _ ρ _ ⟨jj, hjj, rfl, rfl, h1, h3, h8, h12, h13, h14, h15⟩
        repeat (first | refine l_go ?_ | refine d_go ?_ | refine l_onG ?_ | refine l_offG ?_ | refine d_onG ?_ | refine d_offG ?_ | refine wq_seq ?_ | refine wq_line ?_ | refine wq_draw (by decide +kernel) ?_ | refine wq_block ?_ | refine l_nil ?_ | refine d_nil ?_ | refine wq_skip ?_ | refine wq_ret ?_ | refine wq_exit ?_ | refine th_normal ?_ | refine th_ret ?_ | refine th_exit ?_ | refine bk_normal ?_ | refine bk_ret ?_ | refine bk_exit ?_ | refine bk_other rfl ?_)
        refine cond_go (fun hb => ?_) (fun hb => ?_)
        · have hjj' : jj < i := by simpa using hb
          clear hb
          have hw3 := wrap_succ (n := jj) (by omega)
          have hz := hgk jj (by omega)
          rw [hzk jj hjj'] at hz
          obtain ⟨b3, o3, _, hi3, rfl, _, hlo3, _⟩ := sa.get T24 rfl T3 rfl hz
          have ho3 := loadV_one T3 rfl hlo3
          have w6 : IntKind.i64.wrap ((mm : Int) + (jj : Int)) = ((mm + jj : Nat) : Int) := by rw [← Int.natCast_add]; exact wrap_nat (by omega)
          clear hz hzk hgk hbk hlo3 sa sw
          repeat (first | refine l_go ?_ | refine d_go ?_ | refine l_onG ?_ | refine l_offG ?_ | refine d_onG ?_ | refine d_offG ?_ | refine wq_seq ?_ | refine wq_line ?_ | refine wq_draw (by decide +kernel) ?_ | refine wq_block ?_ | refine l_nil ?_ | refine d_nil ?_ | refine wq_skip ?_ | refine wq_ret ?_ | refine wq_exit ?_ | refine th_normal ?_ | refine th_ret ?_ | refine th_exit ?_ | refine bk_normal ?_ | refine bk_ret ?_ | refine bk_exit ?_ | refine bk_other rfl ?_)
          refine cond_go (fun hb => ?_) (fun hb => ?_)
          · cases hb
          clear hb
          repeat (first | refine l_go ?_ | refine d_go ?_ | refine l_onG ?_ | refine l_offG ?_ | refine d_onG ?_ | refine d_offG ?_ | refine wq_seq ?_ | refine wq_line ?_ | refine wq_draw (by decide +kernel) ?_ | refine wq_block ?_ | refine l_nil ?_ | refine d_nil ?_ | refine wq_skip ?_ | refine wq_ret ?_ | refine wq_exit ?_ | refine th_normal ?_ | refine th_ret ?_ | refine th_exit ?_ | refine bk_normal ?_ | refine bk_ret ?_ | refine bk_exit ?_ | refine bk_other rfl ?_)
          refine ⟨i - (jj + 1), by omega, jj + 1, hjj', rfl, rfl, ?_⟩
          simp [put_app, put_none, *]
        · clear hb
          have hg1 := getD_some (xs := ws) (k := mm + i) (by rw [hsz, hn]; omega)
          obtain ⟨bias, hbias⟩ : ∃ bias, ws.getD (mm + i) 0 = bias := ⟨_, rfl⟩
          rw [hbias] at hg1 hbk
          obtain ⟨b3, o3, _, hi3, rfl, _, hlo3, _⟩ := sw.get T24 rfl T3 rfl hg1
          have ho3 := loadV_one T3 rfl hlo3
          have hz := hgk i (by omega)
          rw [hbk] at hz
          obtain ⟨b4, o4, _, hi4, rfl, _, hlo4, _⟩ := sa.get T24 rfl T3 rfl hz
          have ho4 := loadV_one T3 rfl hlo4
          have w6 : IntKind.i64.wrap ((mm : Int) + (i : Int)) = ((mm + i : Nat) : Int) := by rw [← Int.natCast_add]; exact wrap_nat (by omega)
          by_cases hin : bias > -65536 ∧ bias < 65536
          · rw [if_pos hin] at ho4
            have hd1 : decide (bias > -65536) = true := decide_eq_true hin.1
            have hd2 : decide (bias < 65536) = true := decide_eq_true hin.2
            have hg5 := getD_some (xs := ws) (k := at_ + k) (by rw [hsz, hn]; omega)
            obtain ⟨b5, o5, _, hi5, rfl, _, hlo5, _⟩ := sw.get T24 rfl T3 rfl hg5
            have ho5 := loadV_one T3 rfl hlo5
            have w7 : IntKind.i64.wrap ((at_ : Int) + (k : Int)) = ((at_ + k : Nat) : Int) := by rw [← Int.natCast_add]; exact wrap_nat (by omega)
            have c5 := ct (ws.getD (at_ + k) 0)
            clear hz hzk hgk hbk hlo3 hlo4 hlo5 sa sw hin hg1 hg5
            repeat (first | refine l_go ?_ | refine d_go ?_ | refine l_onG ?_ | refine l_offG ?_ | refine d_onG ?_ | refine d_offG ?_ | refine wq_seq ?_ | refine wq_line ?_ | refine wq_draw (by decide +kernel) ?_ | refine wq_block ?_ | refine l_nil ?_ | refine d_nil ?_ | refine wq_skip ?_ | refine wq_ret ?_ | refine wq_exit ?_ | refine th_normal ?_ | refine th_ret ?_ | refine th_exit ?_ | refine bk_normal ?_ | refine bk_ret ?_ | refine bk_exit ?_ | refine bk_other rfl ?_)
            refine cond_go (fun hb => ?_) (fun hb => ?_)
            · clear hb
              repeat (first | refine l_go ?_ | refine d_go ?_ | refine l_onG ?_ | refine l_offG ?_ | refine d_onG ?_ | refine d_offG ?_ | refine wq_seq ?_ | refine wq_line ?_ | refine wq_draw (by decide +kernel) ?_ | refine wq_block ?_ | refine l_nil ?_ | refine d_nil ?_ | refine wq_skip ?_ | refine wq_ret ?_ | refine wq_exit ?_ | refine th_normal ?_ | refine th_ret ?_ | refine th_exit ?_ | refine bk_normal ?_ | refine bk_ret ?_ | refine bk_exit ?_ | refine bk_other rfl ?_)
              refine l_callG c5 ?_
              repeat (first | refine l_go ?_ | refine d_go ?_ | refine l_onG ?_ | refine l_offG ?_ | refine d_onG ?_ | refine d_offG ?_ | refine wq_seq ?_ | refine wq_line ?_ | refine wq_draw (by decide +kernel) ?_ | refine wq_block ?_ | refine l_nil ?_ | refine d_nil ?_ | refine wq_skip ?_ | refine wq_ret ?_ | refine wq_exit ?_ | refine th_normal ?_ | refine th_ret ?_ | refine th_exit ?_ | refine bk_normal ?_ | refine bk_ret ?_ | refine bk_exit ?_ | refine bk_other rfl ?_)
              refine cond_go (fun hb => ?_) (fun hb => ?_)
              · simp at hb
              clear hb
              repeat (first | refine l_go ?_ | refine d_go ?_ | refine l_onG ?_ | refine l_offG ?_ | refine d_onG ?_ | refine d_offG ?_ | refine wq_seq ?_ | refine wq_line ?_ | refine wq_draw (by decide +kernel) ?_ | refine wq_block ?_ | refine l_nil ?_ | refine d_nil ?_ | refine wq_skip ?_ | refine wq_ret ?_ | refine wq_exit ?_ | refine th_normal ?_ | refine th_ret ?_ | refine th_exit ?_ | refine bk_normal ?_ | refine bk_ret ?_ | refine bk_exit ?_ | refine bk_other rfl ?_)
              refine ⟨j - (k + 1), by omega, k + 1, hk', rfl, rfl, ?_⟩
              simp [put_app, put_none, *]
            · cases hb
          · rw [if_neg hin] at ho4
            by_cases hlo : bias > -65536
            · have hd1 : decide (bias > -65536) = true := decide_eq_true hlo
              have hd2 : decide (bias < 65536) = false := decide_eq_false (by omega)
              clear hz hzk hgk hbk hlo3 hlo4 sa sw hin hg1 hlo
              repeat (first | refine l_go ?_ | refine d_go ?_ | refine l_onG ?_ | refine l_offG ?_ | refine d_onG ?_ | refine d_offG ?_ | refine wq_seq ?_ | refine wq_line ?_ | refine wq_draw (by decide +kernel) ?_ | refine wq_block ?_ | refine l_nil ?_ | refine d_nil ?_ | refine wq_skip ?_ | refine wq_ret ?_ | refine wq_exit ?_ | refine th_normal ?_ | refine th_ret ?_ | refine th_exit ?_ | refine bk_normal ?_ | refine bk_ret ?_ | refine bk_exit ?_ | refine bk_other rfl ?_)
              refine cond_go (fun hb => ?_) (fun hb => ?_)
              · cases hb
              clear hb
              repeat (first | refine l_go ?_ | refine d_go ?_ | refine l_onG ?_ | refine l_offG ?_ | refine d_onG ?_ | refine d_offG ?_ | refine wq_seq ?_ | refine wq_line ?_ | refine wq_draw (by decide +kernel) ?_ | refine wq_block ?_ | refine l_nil ?_ | refine d_nil ?_ | refine wq_skip ?_ | refine wq_ret ?_ | refine wq_exit ?_ | refine th_normal ?_ | refine th_ret ?_ | refine th_exit ?_ | refine bk_normal ?_ | refine bk_ret ?_ | refine bk_exit ?_ | refine bk_other rfl ?_)
              refine cond_go (fun hb => ?_) (fun hb => ?_)
              · cases hb
              clear hb
              repeat (first | refine l_go ?_ | refine d_go ?_ | refine l_onG ?_ | refine l_offG ?_ | refine d_onG ?_ | refine d_offG ?_ | refine wq_seq ?_ | refine wq_line ?_ | refine wq_draw (by decide +kernel) ?_ | refine wq_block ?_ | refine l_nil ?_ | refine d_nil ?_ | refine wq_skip ?_ | refine wq_ret ?_ | refine wq_exit ?_ | refine th_normal ?_ | refine th_ret ?_ | refine th_exit ?_ | refine bk_normal ?_ | refine bk_ret ?_ | refine bk_exit ?_ | refine bk_other rfl ?_)
              refine ⟨j - (k + 1), by omega, k + 1, hk', rfl, rfl, ?_⟩
              simp [put_app, put_none, *]
            · have hd1 : decide (bias > -65536) = false := decide_eq_false hlo
              clear hz hzk hgk hbk hlo3 hlo4 sa sw hin hg1 hlo
              repeat (first | refine l_go ?_ | refine d_go ?_ | refine l_onG ?_ | refine l_offG ?_ | refine d_onG ?_ | refine d_offG ?_ | refine wq_seq ?_ | refine wq_line ?_ | refine wq_draw (by decide +kernel) ?_ | refine wq_block ?_ | refine l_nil ?_ | refine d_nil ?_ | refine wq_skip ?_ | refine wq_ret ?_ | refine wq_exit ?_ | refine th_normal ?_ | refine th_ret ?_ | refine th_exit ?_ | refine bk_normal ?_ | refine bk_ret ?_ | refine bk_exit ?_ | refine bk_other rfl ?_)
              refine cond_go (fun hb => ?_) (fun hb => ?_)
              · cases hb
              clear hb
              repeat (first | refine l_go ?_ | refine d_go ?_ | refine l_onG ?_ | refine l_offG ?_ | refine d_onG ?_ | refine d_offG ?_ | refine wq_seq ?_ | refine wq_line ?_ | refine wq_draw (by decide +kernel) ?_ | refine wq_block ?_ | refine l_nil ?_ | refine d_nil ?_ | refine wq_skip ?_ | refine wq_ret ?_ | refine wq_exit ?_ | refine th_normal ?_ | refine th_ret ?_ | refine th_exit ?_ | refine bk_normal ?_ | refine bk_ret ?_ | refine bk_exit ?_ | refine bk_other rfl ?_)
              refine cond_go (fun hb => ?_) (fun hb => ?_)
              · cases hb
              clear hb
              repeat (first | refine l_go ?_ | refine d_go ?_ | refine l_onG ?_ | refine l_offG ?_ | refine d_onG ?_ | refine d_offG ?_ | refine wq_seq ?_ | refine wq_line ?_ | refine wq_draw (by decide +kernel) ?_ | refine wq_block ?_ | refine l_nil ?_ | refine d_nil ?_ | refine wq_skip ?_ | refine wq_ret ?_ | refine wq_exit ?_ | refine th_normal ?_ | refine th_ret ?_ | refine th_exit ?_ | refine bk_normal ?_ | refine bk_ret ?_ | refine bk_exit ?_ | refine bk_other rfl ?_)
              refine ⟨j - (k + 1), by omega, k + 1, hk', rfl, rfl, ?_⟩
              simp [put_app, put_none, *]
      · clear hb
        repeat (first | refine l_go ?_ | refine d_go ?_ | refine l_onG ?_ | refine l_offG ?_ | refine d_onG ?_ | refine d_offG ?_ | refine wq_seq ?_ | refine wq_line ?_ | refine wq_draw (by decide +kernel) ?_ | refine wq_block ?_ | refine l_nil ?_ | refine d_nil ?_ | refine wq_skip ?_ | refine wq_ret ?_ | refine wq_exit ?_ | refine th_normal ?_ | refine th_ret ?_ | refine th_exit ?_ | refine bk_normal ?_ | refine bk_ret ?_ | refine bk_exit ?_ | refine bk_other rfl ?_)
        refine end_ret (by simp only [resRf, resRs, resR]; first | done | rfl) ⟨?_, pend⟩
        simp [put_app, put_none]
  · -- the shape may not be
    by_cases g1 : i < 1
    · have d1 : decide (i < 1) = true := decide_eq_true g1
      clear g1 hsh q0 q4 q5 hws lw
      repeat (first | refine l_go ?_ | refine d_go ?_ | refine l_onG ?_ | refine l_offG ?_ | refine d_onG ?_ | refine d_offG ?_ | refine wq_seq ?_ | refine wq_line ?_ | refine wq_draw (by decide +kernel) ?_ | refine wq_block ?_ | refine l_nil ?_ | refine d_nil ?_ | refine wq_skip ?_ | refine wq_ret ?_ | refine wq_exit ?_ | refine th_normal ?_ | refine th_ret ?_ | refine th_exit ?_ | refine bk_normal ?_ | refine bk_ret ?_ | refine bk_exit ?_ | refine bk_other rfl ?_)
      refine l_heap (h' := H1) hH1 ?_
      refine l_callG c1 ?_
      repeat (first | refine l_go ?_ | refine d_go ?_ | refine l_onG ?_ | refine l_offG ?_ | refine d_onG ?_ | refine d_offG ?_ | refine wq_seq ?_ | refine wq_line ?_ | refine wq_draw (by decide +kernel) ?_ | refine wq_block ?_ | refine l_nil ?_ | refine d_nil ?_ | refine wq_skip ?_ | refine wq_ret ?_ | refine wq_exit ?_ | refine th_normal ?_ | refine th_ret ?_ | refine th_exit ?_ | refine bk_normal ?_ | refine bk_ret ?_ | refine bk_exit ?_ | refine bk_other rfl ?_)
      refine cond_go (fun hb => ?_) (fun hb => ?_)
      · cases hb
      clear hb
      repeat (first | refine l_go ?_ | refine d_go ?_ | refine l_onG ?_ | refine l_offG ?_ | refine d_onG ?_ | refine d_offG ?_ | refine wq_seq ?_ | refine wq_line ?_ | refine wq_draw (by decide +kernel) ?_ | refine wq_block ?_ | refine l_nil ?_ | refine d_nil ?_ | refine wq_skip ?_ | refine wq_ret ?_ | refine wq_exit ?_ | refine th_normal ?_ | refine th_ret ?_ | refine th_exit ?_ | refine bk_normal ?_ | refine bk_ret ?_ | refine bk_exit ?_ | refine bk_other rfl ?_)
      refine cond_go (fun hb => ?_) (fun hb => ?_)
      · repeat (first | refine l_go ?_ | refine d_go ?_ | refine l_onG ?_ | refine l_offG ?_ | refine d_onG ?_ | refine d_offG ?_ | refine wq_seq ?_ | refine wq_line ?_ | refine wq_draw (by decide +kernel) ?_ | refine wq_block ?_ | refine l_nil ?_ | refine d_nil ?_ | refine wq_skip ?_ | refine wq_ret ?_ | refine wq_exit ?_ | refine th_normal ?_ | refine th_ret ?_ | refine th_exit ?_ | refine bk_normal ?_ | refine bk_ret ?_ | refine bk_exit ?_ | refine bk_other rfl ?_)
        refine end_ret (by simp only [resRf, resRs, resR]; first | done | rfl) ⟨?_, p1⟩
        simp [put_app, put_none]
      · cases hb
    by_cases g2 : i > 3
    · have d1 : decide (i < 1) = false := decide_eq_false g1
      have d2 : decide (i > 3) = true := decide_eq_true g2
      clear g1 g2 hsh q0 q4 q5 hws lw
      repeat (first | refine l_go ?_ | refine d_go ?_ | refine l_onG ?_ | refine l_offG ?_ | refine d_onG ?_ | refine d_offG ?_ | refine wq_seq ?_ | refine wq_line ?_ | refine wq_draw (by decide +kernel) ?_ | refine wq_block ?_ | refine l_nil ?_ | refine d_nil ?_ | refine wq_skip ?_ | refine wq_ret ?_ | refine wq_exit ?_ | refine th_normal ?_ | refine th_ret ?_ | refine th_exit ?_ | refine bk_normal ?_ | refine bk_ret ?_ | refine bk_exit ?_ | refine bk_other rfl ?_)
      refine l_heap (h' := H1) hH1 ?_
      refine l_callG c1 ?_
      repeat (first | refine l_go ?_ | refine d_go ?_ | refine l_onG ?_ | refine l_offG ?_ | refine d_onG ?_ | refine d_offG ?_ | refine wq_seq ?_ | refine wq_line ?_ | refine wq_draw (by decide +kernel) ?_ | refine wq_block ?_ | refine l_nil ?_ | refine d_nil ?_ | refine wq_skip ?_ | refine wq_ret ?_ | refine wq_exit ?_ | refine th_normal ?_ | refine th_ret ?_ | refine th_exit ?_ | refine bk_normal ?_ | refine bk_ret ?_ | refine bk_exit ?_ | refine bk_other rfl ?_)
      refine cond_go (fun hb => ?_) (fun hb => ?_)
      · cases hb
      clear hb
      repeat (first | refine l_go ?_ | refine d_go ?_ | refine l_onG ?_ | refine l_offG ?_ | refine d_onG ?_ | refine d_offG ?_ | refine wq_seq ?_ | refine wq_line ?_ | refine wq_draw (by decide +kernel) ?_ | refine wq_block ?_ | refine l_nil ?_ | refine d_nil ?_ | refine wq_skip ?_ | refine wq_ret ?_ | refine wq_exit ?_ | refine th_normal ?_ | refine th_ret ?_ | refine th_exit ?_ | refine bk_normal ?_ | refine bk_ret ?_ | refine bk_exit ?_ | refine bk_other rfl ?_)
      refine cond_go (fun hb => ?_) (fun hb => ?_)
      · repeat (first | refine l_go ?_ | refine d_go ?_ | refine l_onG ?_ | refine l_offG ?_ | refine d_onG ?_ | refine d_offG ?_ | refine wq_seq ?_ | refine wq_line ?_ | refine wq_draw (by decide +kernel) ?_ | refine wq_block ?_ | refine l_nil ?_ | refine d_nil ?_ | refine wq_skip ?_ | refine wq_ret ?_ | refine wq_exit ?_ | refine th_normal ?_ | refine th_ret ?_ | refine th_exit ?_ | refine bk_normal ?_ | refine bk_ret ?_ | refine bk_exit ?_ | refine bk_other rfl ?_)
        refine end_ret (by simp only [resRf, resRs, resR]; first | done | rfl) ⟨?_, p1⟩
        simp [put_app, put_none]
      · cases hb
    by_cases g3 : j < 1
    · have d1 : decide (i < 1) = false := decide_eq_false g1
      have d2 : decide (i > 3) = false := decide_eq_false g2
      have d3 : decide (j < 1) = true := decide_eq_true g3
      clear g1 g2 g3 hsh q0 q4 q5 hws lw
      repeat (first | refine l_go ?_ | refine d_go ?_ | refine l_onG ?_ | refine l_offG ?_ | refine d_onG ?_ | refine d_offG ?_ | refine wq_seq ?_ | refine wq_line ?_ | refine wq_draw (by decide +kernel) ?_ | refine wq_block ?_ | refine l_nil ?_ | refine d_nil ?_ | refine wq_skip ?_ | refine wq_ret ?_ | refine wq_exit ?_ | refine th_normal ?_ | refine th_ret ?_ | refine th_exit ?_ | refine bk_normal ?_ | refine bk_ret ?_ | refine bk_exit ?_ | refine bk_other rfl ?_)
      refine l_heap (h' := H1) hH1 ?_
      refine l_callG c1 ?_
      repeat (first | refine l_go ?_ | refine d_go ?_ | refine l_onG ?_ | refine l_offG ?_ | refine d_onG ?_ | refine d_offG ?_ | refine wq_seq ?_ | refine wq_line ?_ | refine wq_draw (by decide +kernel) ?_ | refine wq_block ?_ | refine l_nil ?_ | refine d_nil ?_ | refine wq_skip ?_ | refine wq_ret ?_ | refine wq_exit ?_ | refine th_normal ?_ | refine th_ret ?_ | refine th_exit ?_ | refine bk_normal ?_ | refine bk_ret ?_ | refine bk_exit ?_ | refine bk_other rfl ?_)
      refine cond_go (fun hb => ?_) (fun hb => ?_)
      · cases hb
      clear hb
      repeat (first | refine l_go ?_ | refine d_go ?_ | refine l_onG ?_ | refine l_offG ?_ | refine d_onG ?_ | refine d_offG ?_ | refine wq_seq ?_ | refine wq_line ?_ | refine wq_draw (by decide +kernel) ?_ | refine wq_block ?_ | refine l_nil ?_ | refine d_nil ?_ | refine wq_skip ?_ | refine wq_ret ?_ | refine wq_exit ?_ | refine th_normal ?_ | refine th_ret ?_ | refine th_exit ?_ | refine bk_normal ?_ | refine bk_ret ?_ | refine bk_exit ?_ | refine bk_other rfl ?_)
      refine cond_go (fun hb => ?_) (fun hb => ?_)
      · repeat (first | refine l_go ?_ | refine d_go ?_ | refine l_onG ?_ | refine l_offG ?_ | refine d_onG ?_ | refine d_offG ?_ | refine wq_seq ?_ | refine wq_line ?_ | refine wq_draw (by decide +kernel) ?_ | refine wq_block ?_ | refine l_nil ?_ | refine d_nil ?_ | refine wq_skip ?_ | refine wq_ret ?_ | refine wq_exit ?_ | refine th_normal ?_ | refine th_ret ?_ | refine th_exit ?_ | refine bk_normal ?_ | refine bk_ret ?_ | refine bk_exit ?_ | refine bk_other rfl ?_)
        refine end_ret (by simp only [resRf, resRs, resR]; first | done | rfl) ⟨?_, p1⟩
        simp [put_app, put_none]
      · cases hb
    have g4 : j > 3 := by
      apply Classical.byContradiction
      intro g4
      apply hsh
      simp [shapeMay, within]
      omega
    have d1 : decide (i < 1) = false := decide_eq_false g1
    have d2 : decide (i > 3) = false := decide_eq_false g2
    have d3 : decide (j < 1) = false := decide_eq_false g3
    have d4 : decide (j > 3) = true := decide_eq_true g4
    clear g1 g2 g3 g4 hsh q0 q4 q5 hws lw
    repeat (first | refine l_go ?_ | refine d_go ?_ | refine l_onG ?_ | refine l_offG ?_ | refine d_onG ?_ | refine d_offG ?_ | refine wq_seq ?_ | refine wq_line ?_ | refine wq_draw (by decide +kernel) ?_ | refine wq_block ?_ | refine l_nil ?_ | refine d_nil ?_ | refine wq_skip ?_ | refine wq_ret ?_ | refine wq_exit ?_ | refine th_normal ?_ | refine th_ret ?_ | refine th_exit ?_ | refine bk_normal ?_ | refine bk_ret ?_ | refine bk_exit ?_ | refine bk_other rfl ?_)
    refine l_heap (h' := H1) hH1 ?_
    refine l_callG c1 ?_
    repeat (first | refine l_go ?_ | refine d_go ?_ | refine l_onG ?_ | refine l_offG ?_ | refine d_onG ?_ | refine d_offG ?_ | refine wq_seq ?_ | refine wq_line ?_ | refine wq_draw (by decide +kernel) ?_ | refine wq_block ?_ | refine l_nil ?_ | refine d_nil ?_ | refine wq_skip ?_ | refine wq_ret ?_ | refine wq_exit ?_ | refine th_normal ?_ | refine th_ret ?_ | refine th_exit ?_ | refine bk_normal ?_ | refine bk_ret ?_ | refine bk_exit ?_ | refine bk_other rfl ?_)
    refine cond_go (fun hb => ?_) (fun hb => ?_)
    · cases hb
    clear hb
    repeat (first | refine l_go ?_ | refine d_go ?_ | refine l_onG ?_ | refine l_offG ?_ | refine d_onG ?_ | refine d_offG ?_ | refine wq_seq ?_ | refine wq_line ?_ | refine wq_draw (by decide +kernel) ?_ | refine wq_block ?_ | refine l_nil ?_ | refine d_nil ?_ | refine wq_skip ?_ | refine wq_ret ?_ | refine wq_exit ?_ | refine th_normal ?_ | refine th_ret ?_ | refine th_exit ?_ | refine bk_normal ?_ | refine bk_ret ?_ | refine bk_exit ?_ | refine bk_other rfl ?_)
    refine cond_go (fun hb => ?_) (fun hb => ?_)
    · repeat (first | refine l_go ?_ | refine d_go ?_ | refine l_onG ?_ | refine l_offG ?_ | refine d_onG ?_ | refine d_offG ?_ | refine wq_seq ?_ | refine wq_line ?_ | refine wq_draw (by decide +kernel) ?_ | refine wq_block ?_ | refine l_nil ?_ | refine d_nil ?_ | refine wq_skip ?_ | refine wq_ret ?_ | refine wq_exit ?_ | refine th_normal ?_ | refine th_ret ?_ | refine th_exit ?_ | refine bk_normal ?_ | refine bk_ret ?_ | refine bk_exit ?_ | refine bk_other rfl ?_)
      refine end_ret (by simp only [resRf, resRs, resR]; first | done | rfl) ⟨?_, p1⟩
      simp [put_app, put_none]
    · cases hb
end Go.Proofs.Ytjageapgbpdlhaa.VM
