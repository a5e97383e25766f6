/- Joined texts: RefA, OptB, TrainC, TrainD, HelpA, RowC, HelpB, LowP, LowA, LowB, InitP, InitA. -/
import Derived.Test.YtaofdhgkgklppaaGreatJB3
import Derived.Test.YtaofdhgkgklppaaGreatJB4
import Derived.Test.YtaofdhgkgklppaaGreatJB5
namespace Go.Proofs.YtaofdhgkgklppaaGreat.VM
open Go
set_option linter.unusedVariables false
set_option linter.unusedSimpArgs false
attribute [local irreducible] wq wqL wqD wqE wqO Th Bk EndR
set_option maxHeartbeats 8000000
theorem upTo12_ (H : Heap) (x a b : Int) : Call Tryz.prog 92 [.int .i64 x, .int .i64 a, .int .i64 b] H (.bool (within x a b)) H := by
 refine call_plain fit mixed Tryz.func92 rfl rfl rfl (by kernel_rfl) rfl ?_
 repeat' (first | (refine l_pl ?_; refine l_go ?_) | (refine d_pl ?_; refine d_go ?_) | (refine l_gd ?_; first | refine l_onG ?_ | refine l_offG ?_) | (refine d_gd ?_; first | refine d_onG ?_ | refine d_offG ?_) | refine wq_seq ?_ | refine wq_line ?_ | refine wq_draw (by decide +kernel) ?_ | refine wq_block ?_ | refine l_nil ?_ | refine d_nil ?_ | refine wq_skip ?_ | refine wq_ret ?_ | refine wq_exit ?_ | refine th_normal ?_ | refine th_ret ?_ | refine th_exit ?_ | refine bk_normal ?_ | refine bk_ret ?_ | refine bk_exit ?_ | refine bk_other rfl ?_ | first | refine l_partG (fun hb => ?_) (fun hb => ?_) | refine d_partG (fun hb => ?_) (fun hb => ?_))
 all_goals refine end_finG ?_; simp [put_app, put_none, *]
 all_goals simp_all [within]
 all_goals (first | done | omega)
theorem refHyperMay_ (H : Heap) (r m : Int) : Call Tryz.prog 167 [.agg [.int .i64 r, .int .i64 m]] H (.bool (hyperMay r m)) H := by
 refine call_plain fit mixed Tryz.func167 rfl rfl rfl (by kernel_rfl) rfl ?_
 refine goW ?_
 refine l_callG (upTo1_ ..) ?_
 refine goW ?_
 first | refine l_partG (fun hb => ?_) (fun hb => ?_) | refine d_partG (fun hb => ?_) (fun hb => ?_)
 ·refine goW ?_
  refine l_callG (upTo1_ ..) ?_
  refine goW ?_
  refine end_finG ?_; simp [put_app, put_none, *]
  simp_all [hyperMay]
 ·refine goW ?_
  refine end_finG ?_; simp [put_app, put_none, *]
  simp_all [hyperMay]
theorem lossMay_row {i h : Int} {rs : List (List Int × Int)} {xs : List Int} {y : Int} {k : Nat} (hk : rs[k]? = some (xs, y)) (hbad : (shapeMay i h && feeds i xs && fixMay y) = false) : lossMay i h rs = false := by
 cases hl : lossMay i h rs with
 | false => rfl
 | true =>
  obtain ⟨h1, _, _, h4⟩ := (by
   simp only [lossMay, Bool.and_eq_true, decide_eq_true_eq, List.all_eq_true] at hl
   exact ⟨hl.1.1, hl.1.2.1, hl.1.2.2, hl.2⟩ : shapeMay i h = true ∧ 1 ≤ rs.length ∧ rs.length ≤ 8 ∧ ∀ r ∈ rs, rowOk i r = true)
  have := h4 _ (List.mem_iff_getElem?.2 ⟨k, hk⟩)
  simp only [rowOk, Bool.and_eq_true] at this
  rw [h1, this.1, this.2] at hbad
  cases hbad
theorem refRowsMay_ (H : Heap) (i h : Int) (v : V) (rs : List (List Int × Int)) (hr : Rows H v rs) (hl : rs.length ≤ 2 ^ 47) (hxl : ∀ r ∈ rs, r.1.length ≤ 2 ^ 47) : Call Tryz.prog 114 [.agg [.int .i64 i, .int .i64 h], v] H (.bool (lossMay i h rs)) H := by
 refine call_plain fit mixed Tryz.func114 rfl rfl rfl (by kernel_rfl) rfl ?_
 obtain ⟨H1, hH1⟩ : ∃ H1, H ++ [.row [.int .i64 i, .int .i64 h] true] = H1 := ⟨_, rfl⟩
 have p1 : H <+: H1 := by rw [← hH1]; exact List.prefix_append _ _
 have hs : H1.loadN H.length 0 2 = some [.int .i64 i, .int .i64 h] := by rw [← hH1, loadN_app0]; rfl
 have l0 : loadV T 23 H1 H.length 0 = some (.agg [.int .i64 i, .int .i64 h]) := loadV_agg T23 rfl hs
 obtain ⟨rv, hrv, hrl, hrr⟩ := hr.mono p1
 have hlen := hrv.len T24 rfl
 rw [hrl] at hlen
 have c1 := refShapeMay_ H1 i h
 have c2 := upTo1_ H1 rs.length 1 8
 clear hs hr
 refine goW ?_
 refine wq_heap (h' := H1) hH1 ?_
 refine wq_loop (fun c ρ hp => ∃ k, k ≤ rs.length ∧ c = rs.length - k ∧ hp = H1 ∧ (∀ (j : Nat) xs y, j < k → rs[j]? = some (xs, y) → (shapeMay i h && feeds i xs && fixMay y) = true) ∧ ρ 1 = v ∧ ρ 2 = .ptr H.length 0 ∧ ρ 5 = .int .i64 (k : Nat)) ⟨0, Nat.zero_le _, rfl, rfl, by intro j xs y hj; omega, rfl, rfl, rfl⟩ ?_
 rintro _ ρ hp ⟨k, hk, rfl, hpe, hgood, h1, h2, h5⟩
 subst hpe
 refine goW ?_
 refine cond_go (fun hb => ?_) (fun hb => ?_)
 ·have hk' : k < rs.length := by simpa using hb
  clear hb c1 c2
  obtain ⟨⟨x, y⟩, hpk⟩ : ∃ p, rv[k]? = some p := ⟨rv[k]'(by omega), by simp⟩
  obtain ⟨⟨xs, y'⟩, hxk⟩ : ∃ x, rs[k]? = some x := ⟨rs[k], by simp [hk']⟩
  obtain ⟨s1, e1⟩ := hrr k _ _ hpk hxk
  obtain rfl : y = y' := e1
  obtain ⟨b2, o, _, hi, rfl, _, hlo, _⟩ := hrv.get T24 rfl T144 rfl hpk
  have ho : loadV T 144 hp b2 o = some (.agg [x, .int .i64 y]) := loadV_agg T144 rfl hlo
  have hw := wrap_succ (n := k) (by omega)
  have c3 := refRowMay_ hp i h y x xs s1 (hxl _ (List.mem_iff_getElem?.2 ⟨k, hxk⟩))
  obtain ⟨q, hq⟩ : ∃ q, (shapeMay i h && feeds i xs && fixMay y) = q := ⟨_, rfl⟩
  rw [hq] at c3
  cases q
  ·have hfin := lossMay_row hxk hq
   clear hgood hxk hpk hlo s1 hrr hq hxl hH1
   refine goW ?_
   refine d_call0G c3 ?_
   refine goW ?_
   refine cond_go (fun hb => ?_) (fun hb => ?_)
   ·refine goW ?_
    refine end_ret (by simp only [resRf, resRs, resR]; first | done | rfl) ⟨?_, p1⟩
    rw [hfin]
    simp [put_app, put_none]
   ·cases hb
  ·have hall : ∀ (j : Nat) ys z, j < k + 1 → rs[j]? = some (ys, z) → (shapeMay i h && feeds i ys && fixMay z) = true := fun j ys z hj hy => by
    by_cases hjk : j = k
    ·subst hjk; rw [hxk] at hy; cases hy; exact hq
    ·exact hgood j ys z (by omega) hy
   clear hgood hxk hpk hlo s1 hrr hq hxl hH1
   refine goW ?_
   refine d_call0G c3 ?_
   refine goW ?_
   refine cond_go (fun hb => ?_) (fun hb => ?_)
   ·cases hb
   ·refine goW ?_
    refine ⟨rs.length - (k + 1), by omega, k + 1, hk', rfl, rfl, hall, ?_⟩
    simp [put_app, put_none, *]
 ·have hk' : k = rs.length := by have : ¬ k < rs.length := by simpa using hb
                                 omega
  have hw8 : within (rs.length : Int) 1 8 = (decide (1 ≤ rs.length) && decide (rs.length ≤ 8)) := by
   apply Bool.eq_iff_iff.2; simp [within]; omega
  have hfin : lossMay i h rs = (shapeMay i h && (decide (1 ≤ rs.length) && decide (rs.length ≤ 8))) := by
   unfold lossMay
   cases hsm : shapeMay i h with
   | false => simp
   | true =>
    have hall : rs.all (rowOk i) = true := List.all_eq_true.2 fun r hr => by
     obtain ⟨j, hj⟩ := List.mem_iff_getElem?.1 hr
     have := hgood j r.1 r.2 (by have := (List.getElem?_eq_some_iff.1 hj).1; omega) hj
     rw [hsm] at this
     simpa [rowOk] using this
    rw [hall]; simp
  rw [hw8] at c2
  rw [hfin]
  obtain ⟨q, hq⟩ : ∃ q, (decide (1 ≤ rs.length) && decide (rs.length ≤ 8)) = q := ⟨_, rfl⟩
  obtain ⟨r1, e1⟩ : ∃ q, shapeMay i h = q := ⟨_, rfl⟩
  rw [hq] at c2 ⊢
  rw [e1] at c1 ⊢
  clear hb hgood hrr hfin hw8 hq e1 hk' hxl hH1
  refine goW ?_
  refine l_callG c1 ?_
  cases r1
  ·refine goW ?_
   refine end_ret (by simp only [resRf, resRs, resR]; first | done | rfl) ⟨?_, p1⟩
   simp [put_app, put_none]
  ·refine goW ?_
   refine l_callG c2 ?_
   refine goW ?_
   refine end_ret (by simp only [resRf, resRs, resR]; first | done | rfl) ⟨?_, p1⟩
   simp [put_app, put_none]
theorem refConfMay_ (H : Heap) (c : Cfg) (rv : V) (hr : Rows H rv c.rows) (hl : c.rows.length ≤ 2 ^ 47) (hxl : ∀ r ∈ c.rows, r.1.length ≤ 2 ^ 47) : Call Tryz.prog 42 [.agg (cfgC c rv)] H (.bool (cfgMay c)) H := by
 refine call_plain fit mixed Tryz.func42 rfl rfl rfl (by kernel_rfl) rfl ?_
 obtain ⟨H1, hH1⟩ : ∃ H1, H ++ [.row (cfgC c rv) true] = H1 := ⟨_, rfl⟩
 have p1 : H <+: H1 := by rw [← hH1]; exact List.prefix_append _ _
 have hg : H1[H.length]? = some (.row (cfgC c rv) true) := by rw [← hH1]; simp
 have l0 := ld_cell (q := 0) T3 rfl hg rfl
 have l3 := ld_cell (q := 3) T24 rfl hg rfl
 have l4 := ld_cell (q := 4) T3 rfl hg rfl
 have l5 := ld_cell (q := 5) T3 rfl hg rfl
 have l6 := ld_cell (q := 6) T3 rfl hg rfl
 have l7 := ld_cell (q := 7) T3 rfl hg rfl
 have l1 : loadV T 23 H1 H.length 1 = some (.agg [.int .i64 c.i, .int .i64 c.h]) := by
  refine loadV_agg T23 rfl ?_
  rw [← hH1, loadN_app0]; rfl
 have c1 := upTo12_ H1 c.m 2 8
 have c2 := refRowsMay_ H1 c.i c.h rv c.rows (hr.mono p1) hl hxl
 have c3 := upTo12_ H1 c.seed 0 65535
 have c4 := upTo12_ H1 c.total 1 32
 have c5 := upTo12_ H1 c.interval 1 8
 have c6 := upTo12_ H1 c.cutn 1 (IntKind.i64.wrap (c.m.tdiv 2))
 unfold cfgMay
 obtain ⟨r1, e1⟩ : ∃ r, within c.m 2 8 = r := ⟨_, rfl⟩
 obtain ⟨r2, e2⟩ : ∃ r, lossMay c.i c.h c.rows = r := ⟨_, rfl⟩
 obtain ⟨r3, e3⟩ : ∃ r, within c.seed 0 65535 = r := ⟨_, rfl⟩
 obtain ⟨r4, e4⟩ : ∃ r, within c.total 1 32 = r := ⟨_, rfl⟩
 obtain ⟨r5, e5⟩ : ∃ r, within c.interval 1 8 = r := ⟨_, rfl⟩
 rw [e1] at c1 ⊢
 rw [e2] at c2 ⊢
 rw [e3] at c3 ⊢
 rw [e4] at c4 ⊢
 rw [e5] at c5 ⊢
 clear e1 e2 e3 e4 e5 hr hl hxl hg
 refine goW ?_
 refine l_heap (h' := H1) hH1 ?_
 refine goW ?_
 refine l_callG c1 ?_
 cases r1
 ·refine goW ?_
  refine end_ret (by simp only [resRf, resRs, resR]; first | done | rfl) ⟨?_, p1⟩
  simp [put_app, put_none]
 refine goW ?_
 refine l_callG c2 ?_
 cases r2
 ·refine goW ?_
  refine end_ret (by simp only [resRf, resRs, resR]; first | done | rfl) ⟨?_, p1⟩
  simp [put_app, put_none]
 refine goW ?_
 refine l_callG c3 ?_
 cases r3
 ·refine goW ?_
  refine end_ret (by simp only [resRf, resRs, resR]; first | done | rfl) ⟨?_, p1⟩
  simp [put_app, put_none]
 refine goW ?_
 refine l_callG c4 ?_
 cases r4
 ·refine goW ?_
  refine end_ret (by simp only [resRf, resRs, resR]; first | done | rfl) ⟨?_, p1⟩
  simp [put_app, put_none]
 refine goW ?_
 refine l_callG c5 ?_
 cases r5
 ·refine goW ?_
  refine end_ret (by simp only [resRf, resRs, resR]; first | done | rfl) ⟨?_, p1⟩
  simp [put_app, put_none]
 refine goW ?_
 refine l_callG c6 ?_
 refine goW ?_
 refine end_ret (by simp only [resRf, resRs, resR]; first | done | rfl) ⟨?_, p1⟩
 simp [put_app, put_none]
theorem refChkMay_ (H : Heap) (w v : V) (ws vs : List Int) (r m t : Int) (hw : Sl 1 intC H w ws) (hv : Sl 1 intC H v vs) (lw : ws.length ≤ 2 ^ 47) (lv : vs.length ≤ 2 ^ 47) : Call Tryz.prog 93 [.agg (chkC w v r m t)] H (.bool (chkMay ws vs r m t)) H := by
 refine call_plain fit mixed Tryz.func93 rfl rfl rfl (by kernel_rfl) rfl ?_
 obtain ⟨H1, hH1⟩ : ∃ H1, H ++ [.row (chkC w v r m t) true] = H1 := ⟨_, rfl⟩
 have p1 : H <+: H1 := by rw [← hH1]; exact List.prefix_append _ _
 have hg1 : H1[H.length]? = some (.row (chkC w v r m t) true) := by rw [← hH1]; simp
 have k0 := ld_cell (q := 0) T27 rfl hg1 rfl
 have k1 := ld_cell (q := 1) T27 rfl hg1 rfl
 have l4 := ld_cell (q := 4) T3 rfl hg1 rfl
 have l2 : loadV T 43 H1 H.length 2 = some (.agg [.int .i64 r, .int .i64 m]) := by
  refine loadV_agg T43 rfl ?_
  rw [← hH1, loadN_app0]; rfl
 have hlen := hw.len T27 rfl
 have hlen2 := hv.len T27 rfl
 have c1 := refVecMay_ H1 w ws (hw.mono p1) lw
 have c2 := refVecMay_ H1 v vs (hv.mono p1) lv
 have c3 := refHyperMay_ H1 r m
 have c4 := upTo12_ H1 t 0 32
 have hfin : chkMay ws vs r m t = (vecMay ws && (vecMay vs && (decide (vs.length = ws.length) && (decide (ws.length > 0) && (hyperMay r m && within t 0 32))))) := by
  unfold chkMay alike within
  simp only [List.all_cons, List.all_nil, decide_true, Bool.and_true]
  cases vecMay ws <;> cases vecMay vs <;> cases decide (vs.length = ws.length) <;> cases decide (ws.length > 0) <;> cases hyperMay r m <;> cases decide (t ≥ 0) <;> simp
 have d1 : ((ws.length : Int) == (vs.length : Int)) = decide (vs.length = ws.length) := by apply Bool.eq_iff_iff.2; simp; omega
 have d2 : decide ((ws.length : Int) > 0) = decide (ws.length > 0) := by apply Bool.eq_iff_iff.2; simp
 rw [hfin]
 obtain ⟨r1, e1⟩ : ∃ q, vecMay ws = q := ⟨_, rfl⟩
 obtain ⟨r2, e2⟩ : ∃ q, vecMay vs = q := ⟨_, rfl⟩
 obtain ⟨r3, e3⟩ : ∃ q, decide (vs.length = ws.length) = q := ⟨_, rfl⟩
 obtain ⟨r4, e4⟩ : ∃ q, decide (ws.length > 0) = q := ⟨_, rfl⟩
 obtain ⟨r5, e5⟩ : ∃ q, hyperMay r m = q := ⟨_, rfl⟩
 rw [e1] at c1 ⊢
 rw [e2] at c2 ⊢
 rw [e3] at d1 ⊢
 rw [e4] at d2 ⊢
 rw [e5] at c3 ⊢
 clear e1 e2 e3 e4 e5 hfin hw hv lw lv hg1
 refine goW ?_
 refine l_heap (h' := H1) hH1 ?_
 refine goW ?_
 refine l_callG c1 ?_
 cases r1
 ·refine goW ?_
  refine end_ret (by simp only [resRf, resRs, resR]; first | done | rfl) ⟨?_, p1⟩
  simp [put_app, put_none]
 refine goW ?_
 refine l_callG c2 ?_
 cases r2
 ·refine goW ?_
  refine end_ret (by simp only [resRf, resRs, resR]; first | done | rfl) ⟨?_, p1⟩
  simp [put_app, put_none]
 cases r3
 ·refine goW ?_
  refine end_ret (by simp only [resRf, resRs, resR]; first | done | rfl) ⟨?_, p1⟩
  simp [put_app, put_none]
 cases r4
 ·refine goW ?_
  refine end_ret (by simp only [resRf, resRs, resR]; first | done | rfl) ⟨?_, p1⟩
  simp [put_app, put_none]
 refine goW ?_
 refine l_callG c3 ?_
 cases r5
 ·refine goW ?_
  refine end_ret (by simp only [resRf, resRs, resR]; first | done | rfl) ⟨?_, p1⟩
  simp [put_app, put_none]
 refine goW ?_
 refine l_callG c4 ?_
 refine goW ?_
 refine end_ret (by simp only [resRf, resRs, resR]; first | done | rfl) ⟨?_, p1⟩
 simp [put_app, put_none]
theorem Mine.keep {α : Type} {sz : Nat} {R : List V → α → Prop} {B H H' : Heap} {u v : V} {xs : List α} (h : Mine sz R B H v xs) (hk : Keep u H H') (hb : B <+: H') (ha : Apart u v) : Mine sz R B H' v xs := by
 refine ⟨hb, h.2.imp id ?_⟩
 rintro ⟨b, h1, h2⟩
 have hvb := h2.blk
 obtain ⟨cap, t, cs, h3, h4, h5, h6⟩ := h2
 exact ⟨b, h1, cap, t, cs, h3, h4, by rw [hk.2 b (List.getElem?_eq_some_iff.1 h5).1 fun e => ha b b e hvb rfl]; exact h5, h6⟩
theorem Apart.symm {u v : V} (h : Apart u v) : Apart v u := fun b c hb hc e => h c b hc hb e.symm
theorem int_app {B H : Heap} {v : V} {xs : List Int} (h : Mine 1 intC B H v xs) (y : Int) (hl : xs.length ≤ 2 ^ 40) :
  ∃ v' H', newsOf T (T 3).get! 27 (.slc H.length 0 1 1 true 1) (H ++ [.row [.int .i64 y] true]) = some (1, [.int .i64 y]) ∧ appendV (T 3).get! v 1 [.int .i64 y] (H ++ [.row [.int .i64 y] true]) = some (v', H') ∧ Mine 1 intC B H' v' (xs ++ [y]) ∧ Keep v (H ++ [.row [.int .i64 y] true]) H' ∧ Moved v (H ++ [.row [.int .i64 y] true]) v' := by
 obtain ⟨v', H', h1, h2, h3, h4⟩ := (h.pre (List.prefix_append H [.row [.int .i64 y] true])).app (ie := (T 3).get!) rfl (Cells.one (R := intC) (cs := [.int .i64 y]) (x := y) rfl rfl) ⟨by show (xs.length + 1) * 8 ≤ _; omega, by simp; omega⟩
 exact ⟨v', H', news_row T27 rfl (by decide) rfl, h1, h2, h3, h4⟩
theorem refOptim_ (H : Heap) (w v g : V) (ws vs gs : List Int) (r m : Int) (hw : Sl 1 intC H w ws) (hv : Sl 1 intC H v vs) (hg : Sl 1 intC H g gs) (hal : alike ws.length [ws, vs, gs] = true) (hhy : hyperMay r m = true) :
  ∃ u1 u2 H', Call Tryz.prog 96 [w, v, g, .agg [.int .i64 r, .int .i64 m]] H (.tup [u1, u2, .int .i64 0]) H' ∧ Mine 1 intC H H' u1 (nextL r m ws vs gs) ∧ Mine 1 intC H H' u2 (speedL m ws vs gs) ∧ Apart u1 u2 := by
 suffices hgoal : ∃ u H', (∃ u1 u2, u = .tup [u1, u2, .int .i64 0] ∧ Mine 1 intC H H' u1 (nextL r m ws vs gs) ∧ Mine 1 intC H H' u2 (speedL m ws vs gs) ∧ Apart u1 u2) ∧ Call Tryz.prog 96 [w, v, g, .agg [.int .i64 r, .int .i64 m]] H u H' by
  obtain ⟨_, H', ⟨u1, u2, rfl, h1⟩, h2⟩ := hgoal
  exact ⟨u1, u2, H', h2, h1⟩
 refine call_wq fit mixed Tryz.func96 rfl rfl rfl (by kernel_rfl) ?_
 have hal' := hal
 simp only [alike, List.all_cons, List.all_nil, Bool.and_true, Bool.and_eq_true, decide_eq_true_eq, true_and] at hal'
 obtain ⟨hvw, ⟨hvv, hlv⟩, hvg, hlg⟩ := hal'
 replace hvw := hvw.1
 have hlw := vecMay_len hvw
 obtain ⟨n, hn⟩ : ∃ n, ws.length = n := ⟨_, rfl⟩
 rw [hn] at hlv hlg hlw
 obtain ⟨H1, hH1⟩ : ∃ H1, H ++ [.row [.int .i64 r, .int .i64 m] true] = H1 := ⟨_, rfl⟩
 have p1 : H <+: H1 := by rw [← hH1]; exact List.prefix_append _ _
 have hg1 : H1[H.length]? = some (.row [.int .i64 r, .int .i64 m] true) := by rw [← hH1]; simp
 have l0 := ld_agg T43 rfl hg1 rfl
 have c1 := refVecMay_ H1 w ws (hw.mono p1) (by omega)
 have c2 := refVecMay_ H1 v vs (hv.mono p1) (by omega)
 have c3 := refVecMay_ H1 g gs (hg.mono p1) (by omega)
 have c4 := refHyperMay_ H1 r m
 rw [hvw] at c1
 rw [hvv] at c2
 rw [hvg] at c3
 rw [hhy] at c4
 have hlen := hw.len T27 rfl
 have hlen2 := hv.len T27 rfl
 have hlen3 := hg.len T27 rfl
 rw [hn] at hlen
 rw [hlv] at hlen2
 rw [hlg] at hlen3
 unfold nextL speedL
 rw [hn]
 clear hal hhy hvw hvv hvg
 refine goW ?_
 refine l_heap (h' := H1) hH1 ?_
 refine goW ?_
 refine l_callG c1 ?_
 refine goW ?_
 refine l_callG c2 ?_
 refine goW ?_
 refine l_callG c3 ?_
 refine goW ?_
 refine l_callG c4 ?_
 refine goW ?_
 refine cond_go (fun hb => ?_) (fun hb => ?_)
 ·cases hb
 clear hb c1 c2 c3 c4 l0
 refine wq_cut (fun ρ => ρ 0 = w ∧ ρ 1 = v ∧ ρ 2 = g ∧ ρ 7 = .ptr H.length 0) ⟨rfl, rfl, rfl, rfl⟩ ?_
 rintro ρ ⟨h0, h1, h2, h7⟩
 refine goW ?_
 refine wq_loop (fun c ρ hp => ∃ k u1 u2, k ≤ n ∧ c = n - k ∧ Mine 1 intC H1 hp u1 ((List.range k).map (nextK r m ws vs gs)) ∧ Mine 1 intC H1 hp u2 ((List.range k).map (speedK m vs gs)) ∧ Apart u1 u2 ∧
  ρ 0 = w ∧ ρ 1 = v ∧ ρ 2 = g ∧ ρ 7 = .ptr H.length 0 ∧ ρ 11 = u1 ∧ ρ 12 = u2 ∧ ρ 13 = .int .i64 (k : Nat)) ⟨0, .nils, .nils, Nat.zero_le _, rfl, Mine.nil (List.prefix_refl _), Mine.nil (List.prefix_refl _), (fun b c hb => by cases hb), h0, h1, h2, h7, rfl, rfl, rfl⟩ ?_
 clear h0 h1 h2 h7
 clear ρ
 rintro _ ρ hp ⟨k, u1, u2, hk, rfl, m1, m2, ap, h0, h1, h2, h7, h11, h12, h13⟩
 refine goW ?_
 refine cond_go (fun hb => ?_) (fun hb => ?_)
 ·have hk' : k < n := by simpa using hb
  clear hb
  have pp := p1.trans m1.1
  have hgk := pre_get m1.1 hg1
  have hg2 := getD_some (xs := vs) (k := k) (by omega)
  obtain ⟨b3, o3, _, hi3, rfl, _, hlo3, _⟩ := (hv.mono pp).get T27 rfl T3 rfl hg2
  have ho3 := loadV_one T3 rfl hlo3
  have hg3 := getD_some (xs := gs) (k := k) (by omega)
  obtain ⟨b4, o4, _, hi4, rfl, _, hlo4, _⟩ := (hg.mono pp).get T27 rfl T3 rfl hg3
  have ho4 := loadV_one T3 rfl hlo4
  have hg5 := getD_some (xs := ws) (k := k) (by omega)
  obtain ⟨b5, o5, _, hi5, rfl, _, hlo5, _⟩ := (hw.mono pp).get T27 rfl T3 rfl hg5
  have ho5 := loadV_one T3 rfl hlo5
  have lm := ld_cell (q := 1) T3 rfl hgk rfl
  have lr := ld_cell (q := 0) T3 rfl hgk rfl
  have c1 := refTimes_ hp (vs.getD k 0) m
  have c2 : Call Tryz.prog 179 [.int .i64 (times (vs.getD k 0) m), .int .i64 (gs.getD k 0)] hp (.int .i64 (speedK m vs gs k)) hp := refPlus_ hp _ _
  have c3 := refTimes_ hp r (speedK m vs gs k)
  have c4 : Call Tryz.prog 179 [.int .i64 (ws.getD k 0), .int .i64 (IntKind.i64.wrap (0 - times r (speedK m vs gs k)))] hp (.int .i64 (nextK r m ws vs gs k)) hp := refPlus_ hp _ _
  obtain ⟨v1, hp2, n1, a1, m3, kp1, mv1⟩ := int_app m1 (nextK r m ws vs gs k) (by simp; omega)
  rw [range_snoc] at m3
  have m2' := m2.pre (List.prefix_append hp [Blk.row [.int .i64 (nextK r m ws vs gs k)] true])
  have m4 := m2'.keep kp1 m3.1 ap
  have ap2 := mv1.apart m2'.sl ap
  obtain ⟨v2, hp3, n2, a2, m5, kp2, mv2⟩ := int_app m4 (speedK m vs gs k) (by simp; omega)
  rw [range_snoc] at m5
  have m3' := m3.pre (List.prefix_append hp2 [Blk.row [.int .i64 (speedK m vs gs k)] true])
  have m6 := m3'.keep kp2 m5.1 ap2.symm
  have ap3 := (mv2.apart m3'.sl ap2.symm).symm
  have hw1 := wrap_succ (n := k) (by omega)
  clear m1 m2 m2' m3 m3' m4 kp1 kp2 mv1 mv2 ap ap2 hlo3 hlo4 hlo5 hg2 hg3 hg5 hgk pp
  refine goW ?_
  refine d_call0G c1 ?_
  refine goW ?_
  refine d_call0G c2 ?_
  refine goW ?_
  refine d_call0G c3 ?_
  refine goW ?_
  refine d_call0G c4 ?_
  refine goW ?_
  refine d_appendG n1 a1 ?_
  refine goW ?_
  refine l_appendG n2 a2 ?_
  refine goW ?_
  refine ⟨n - (k + 1), by omega, k + 1, v1, v2, hk', rfl, m6, m5, ap3, ?_⟩
  simp [put_app, put_none, *]
 ·have hk' : k = n := by have : ¬ k < n := by simpa using hb
                         omega
  subst hk'
  have q1 := m1.low p1
  have q2 := m2.low p1
  clear hb
  refine goW ?_
  refine end_ret (by simp only [resRf, resRs, resR]; first | done | rfl) ⟨u1, u2, ?_, q1, q2, ap⟩
  simp [put_app, put_none, *]
theorem Mine.set {α : Type} {sz : Nat} {R : List V → α → Prop} {B H K : Heap} {v : V} {xs : List α} {c : Nat} {k : Blk} (h : Mine sz R B H v xs) (hk : K <+: H.set c k) (hl : K.length ≤ B.length) (hc : c < B.length) : Mine sz R K (H.set c k) v xs := by
 refine ⟨hk, h.2.imp id ?_⟩
 rintro ⟨b, h1, cap, t, cs, h3, h4, h5, h6⟩
 exact ⟨b, by omega, cap, t, cs, h3, h4, by rw [List.getElem?_set_ne (by omega)]; exact h5, h6⟩
theorem refTrain_good (H : Heap) (c : Cfg) (rv w v : V) (ws vs : List Int) (id r m t : Int) (hr : Rows H rv c.rows) (hw : Sl 1 intC H w ws) (hv : Sl 1 intC H v vs) (hc : cfgMay c = true) (hid : 0 ≤ id ∧ id < c.m) (hf : memFits c.i c.h ws vs r m t = true) (ht : t < c.total) :
  ∃ u1 u2 H', Call Tryz.prog 32 [.agg (cfgC c rv), .int .i64 id, .agg (chkC w v r m t)] H (.tup [.agg (chkC u1 u2 r m (t + 1)), .int .i64 0]) H' ∧ Mine 1 intC H H' u1 (nextL r m ws vs (trainG c id ws t)) ∧ Mine 1 intC H H' u2 (speedL m ws vs (trainG c id ws t)) ∧ Apart u1 u2 := by
 suffices hgoal : ∃ u H', (∃ u1 u2, u = .tup [.agg (chkC u1 u2 r m (t + 1)), .int .i64 0] ∧ Mine 1 intC H H' u1 (nextL r m ws vs (trainG c id ws t)) ∧ Mine 1 intC H H' u2 (speedL m ws vs (trainG c id ws t)) ∧ Apart u1 u2) ∧ Call Tryz.prog 32 [.agg (cfgC c rv), .int .i64 id, .agg (chkC w v r m t)] H u H' by
  obtain ⟨_, H', ⟨u1, u2, rfl, h1⟩, h2⟩ := hgoal
  exact ⟨u1, u2, H', h2, h1⟩
 refine call_wq fit mixed Tryz.func32 rfl rfl rfl (by kernel_rfl) ?_
 have hf' := hf
 simp only [memFits, Bool.and_eq_true] at hf'
 obtain ⟨hchk, hfit⟩ := hf'
 obtain ⟨hvw, hvv, hlv, hlw1, hhy, ht0, ht32⟩ := chkMay_split hchk
 obtain ⟨hm2, hloss, hseed, htot, _⟩ := cfgMay_split hc
 obtain ⟨_, hr1, hr8, hrok⟩ := lossMay_split hloss
 have hlw := vecMay_len hvw
 obtain ⟨H1, hH1⟩ : ∃ H1, H ++ [.row (cfgC c rv) true] = H1 := ⟨_, rfl⟩
 obtain ⟨H2, hH2⟩ : ∃ H2, H1 ++ [.row (chkC w v r m t) true] = H2 := ⟨_, rfl⟩
 obtain ⟨H3, hH3⟩ : ∃ H3, H2 ++ [.row zeroChk true] = H3 := ⟨_, rfl⟩
 have p1 : H <+: H1 := by rw [← hH1]; exact List.prefix_append _ _
 have p2 : H1 <+: H2 := by rw [← hH2]; exact List.prefix_append _ _
 have p3 : H2 <+: H3 := by rw [← hH3]; exact List.prefix_append _ _
 have p03 : H <+: H3 := p1.trans (p2.trans p3)
 have n1 : H.length < H1.length := by rw [← hH1]; simp
 have n2 : H1.length < H2.length := by rw [← hH2]; simp
 have n3 : H2.length < H3.length := by rw [← hH3]; simp
 have gc : H3[H.length]? = some (.row (cfgC c rv) true) := pre_get (p2.trans p3) (by rw [← hH1]; simp)
 have gk : H3[H1.length]? = some (.row (chkC w v r m t) true) := pre_get p3 (by rw [← hH2]; simp)
 have gz : H3[H2.length]? = some (.row zeroChk true) := by rw [← hH3]; simp
 have c1 := refConfMay_ H3 c rv (hr.mono p03) (by omega) (fun rr hrr => by
  have := hrok rr hrr
  simp only [rowOk, Bool.and_eq_true] at this
  have := vecMay_len (feeds_split this.1).2
  omega)
 rw [hc] at c1
 have c2 := upTo12_ H3 id 0 (IntKind.i64.wrap (c.m - 1))
 rw [within_iff.2 ⟨hid.1, by rw [wrap_i64 (by omega) (by omega)]; omega⟩] at c2
 have c3 := refChkMay_ H3 w v ws vs r m t (hw.mono p03) (hv.mono p03) (by omega) (by omega)
 rw [hchk] at c3
 have c7 := refFits_ H3 c.i c.h w ws (hw.mono p03) (by omega)
 rw [hfit] at c7
 have lm0 := ld_cell (q := 0) T3 rfl gc rfl
 have lk := ld_agg T45 rfl gk rfl
 have lc := ld_agg T26 rfl gc rfl
 have lt := ld_cell (q := 4) T3 rfl gk rfl
 have ltot := ld_cell (q := 5) T3 rfl gc rfl
 have dt : decide (t ≥ c.total) = false := decide_eq_false (by omega)
 -- the sample
 obtain ⟨s, hs⟩ : ∃ s : Nat, c.seed = s := ⟨c.seed.toNat, by omega⟩
 obtain ⟨d, hd⟩ : ∃ d : Nat, id = d := ⟨id.toNat, by omega⟩
 obtain ⟨tt, htt⟩ : ∃ tt : Nat, t = tt := ⟨t.toNat, by omega⟩
 obtain ⟨q, hq⟩ : ∃ q, trainQ c id t = q := ⟨_, rfl⟩
 have hq' : pickN s (4096 * d + tt) c.rows.length = q := by rw [← hq]; unfold trainQ; rw [hs, hd, htt]; rfl
 have hql : q < c.rows.length := by rw [← hq']; exact pickN_lt hr1
 have c4 := refSample_ H3 s d tt c.rows.length (by omega) (by omega) (by omega) hr1 hr8
 rw [hq', ← hs, ← hd, ← htt] at c4
 have lseed := ld_cell (q := 4) T3 rfl gc rfl
 have lrows := ld_cell (q := 3) T24 rfl gc rfl
 obtain ⟨rvv, hrv, hrl, _⟩ := hr.mono p03
 have hlen := hrv.len T24 rfl
 rw [hrl] at hlen
 -- the gradient
 obtain ⟨xs, y, hxy⟩ := rows_at c q hql
 obtain ⟨b0, o0, x, hi0, hl0, _, _, hx⟩ := (hr.mono p03).at hxy
 have hro := hrok _ (List.mem_iff_getElem?.2 ⟨q, hxy⟩)
 simp only [rowOk, Bool.and_eq_true] at hro
 obtain ⟨_, _, i', h', hi', hh', hi1, hi2, hh1, hh2, hsz⟩ := fits_split hfit
 have hxl : xs.length = i' := by have := (feeds_split hro.1).1; omega
 obtain ⟨gu, H4, c5, m4⟩ := refGrad_good H3 i' h' y w x ws xs (hw.mono p03) hx (by rw [← hi', ← hh']; exact hfit) (by rw [← hi']; exact hro.1) hro.2
 rw [← hi', ← hh'] at c5
 have hG : trainG c id ws t = grad i' h' ws xs y := by unfold trainG; rw [hq, hxy]; simp only [hi', hh', Int.toNat_natCast]
 rw [hG]
 have hns := small_size hi2 hh2
 have hsz16 : netSize i' h' ≤ 16 := by rw [← hsz]; exact hlw
 have hgm := grad_may (ws := ws) (y := y) (h := h') hxl hsz16
 have hgl := grad_len (h := h') (ws := ws) (y := y) hxl
 have p34 := m4.1
 have p04 := p03.trans p34
 have lsh : loadV T 23 H3 H.length 1 = some (.agg [.int .i64 c.i, .int .i64 c.h]) := by
  refine loadV_agg T23 rfl ?_
  unfold Heap.loadN
  rw [gc]; rfl
 have lws := ld_cell (q := 0) T27 rfl gk rfl
 have gk4 := pre_get p34 gk
 have lws4 := ld_cell (q := 0) T27 rfl gk4 rfl
 have lvs4 := ld_cell (q := 1) T27 rfl gk4 rfl
 have lhy4 : loadV T 43 H4 H1.length 2 = some (.agg [.int .i64 r, .int .i64 m]) := by
  refine loadV_agg T43 rfl ?_
  unfold Heap.loadN
  rw [gk4]; rfl
 obtain ⟨u1, u2, H5, c6, o1, o2, hap⟩ := refOptim_ H4 w v gu ws vs _ r m (hw.mono p04) (hv.mono p04) m4.sl (by simp [alike, hvw, hvv, hgm, hlv, hgl, hsz]) hhy
 have p45 := o1.1
 have gk5 := pre_get p45 gk4
 have gz5 := pre_get p45 (pre_get p34 gz)
 have lt5 := ld_cell (q := 4) T3 rfl gk5 rfl
 have lhy5 : loadV T 43 H5 H1.length 2 = some (.agg [.int .i64 r, .int .i64 m]) := by
  refine loadV_agg T43 rfl ?_
  unfold Heap.loadN
  rw [gk5]; rfl
 have wt : IntKind.i64.wrap (t + 1) = t + 1 := wrap_i64 (by omega) (by omega)
 have hu1 := o1.sl.two
 have hu2 := o2.sl.two
 have hst := agg_store (cells := chkC u1 u2 r m (t + 1)) T45 gz5 rfl rfl
 obtain ⟨H6, hH6⟩ : ∃ H6, H5.set H2.length (.row (chkC u1 u2 r m (t + 1)) true) = H6 := ⟨_, rfl⟩
 rw [hH6] at hst
 have l34 := p34.length_le
 have l45 := p45.length_le
 have g6 : H6[H2.length]? = some (.row (chkC u1 u2 r m (t + 1)) true) := by rw [← hH6, List.getElem?_set_self (by omega)]
 have p06 : H <+: H6 := by rw [← hH6]; exact pre_set (p04.trans p45) (by omega)
 have o16 := o1.set (K := H) (c := H2.length) (k := .row (chkC u1 u2 r m (t + 1)) true) (by rw [hH6]; exact p06) p04.length_le (by omega)
 have o26 := o2.set (K := H) (c := H2.length) (k := .row (chkC u1 u2 r m (t + 1)) true) (by rw [hH6]; exact p06) p04.length_le (by omega)
 rw [hH6] at o16 o26
 have ln6 : Heap.loadN H6 H2.length 0 5 = some (chkC u1 u2 r m (t + 1)) := by unfold Heap.loadN; rw [g6]; rfl
 clear hid ht hm2 hseed htot ht0 ht32 hlw1 hr1 hr8 n1 n2 n3 l34 l45 hql hsz16 hns hi1 hi2 hh1 hh2 hlw
 clear hf hchk hfit hvw hvv hlv hhy hc hloss hrok hr hw hv gc gk gz gk4 gk5 gz5 g6 o1 o2 hrv hrl hx hro hi' hh' hgm hgl m4 hG hs hd htt hq hq' hsz hxl hxy
 rcases hu1 with rfl | ⟨_, _, _, _, _, _, rfl⟩ <;> rcases hu2 with rfl | ⟨_, _, _, _, _, _, rfl⟩
 all_goals
  refine goW ?_
  refine l_heap (h' := H3) (by rw [← hH3, ← hH2, ← hH1]) ?_
  rw [hH1, hH2]
  refine goW ?_
  refine l_callG c1 ?_
  refine goW ?_
  refine l_callG c2 ?_
  refine goW ?_
  refine l_callG c3 ?_
  refine goW ?_
  refine l_callG c7 ?_
  refine goW ?_
  refine cond_go (fun hb => ?_) (fun hb => ?_)
  ·cases hb
  clear hb c1 c2 c3 c7
  refine goW ?_
  refine cond_go (fun hb => ?_) (fun hb => ?_)
  ·cases hb
  clear hb
  refine wq_cut (fun ρ => ρ 1 = .int .i64 id ∧ ρ 3 = .ptr H.length 0 ∧ ρ 5 = .ptr H1.length 0 ∧ ρ 6 = .ptr H2.length 0) ⟨rfl, rfl, rfl, rfl⟩ ?_
  rintro ρ ⟨h1, h3, h5, h6⟩
  refine goW ?_
  refine l_callG c4 ?_
  refine goW ?_
  refine d_callG c5 (.inl p34) ?_
  refine goW ?_
  refine l_callG c6 ?_
  refine goW ?_
  refine l_step (s_store eLk eLk hst) ?_
  refine goW ?_
  refine end_ret (v := .tup [.agg (chkC _ _ r m (t + 1)), .int .i64 0]) ?_ ⟨_, _, rfl, o16, o26, hap⟩
  simp only [resRf, resRs, resR, put_app, put_none, Nat.reduceEqDiff, reduceIte, Option.some.injEq, reduceCtorEq, h6, T45, ln6]
  rfl
theorem refTrain_bad (H : Heap) (c : Cfg) (rv w v : V) (ws vs : List Int) (id r m t e : Int) (hr : Rows H rv c.rows) (hw : Sl 1 intC H w ws) (hv : Sl 1 intC H v vs) (lr : c.rows.length ≤ 2 ^ 47) (lr2 : ∀ r ∈ c.rows, r.1.length ≤ 2 ^ 47) (lw : ws.length ≤ 2 ^ 47) (lv : vs.length ≤ 2 ^ 47)
  (he : ((cfgMay c && within id 0 (IntKind.i64.wrap (c.m - 1)) && memFits c.i c.h ws vs r m t) = false ∧ e = 2100) ∨ ((cfgMay c && within id 0 (IntKind.i64.wrap (c.m - 1)) && memFits c.i c.h ws vs r m t) = true ∧ decide (t ≥ c.total) = true ∧ e = 2101)) :
  Call Tryz.prog 32 [.agg (cfgC c rv), .int .i64 id, .agg (chkC w v r m t)] H (.tup [.agg zeroChk, .int .i64 e]) H := by
 suffices hgoal : ∃ u H', (u = .tup [.agg zeroChk, .int .i64 e] ∧ H <+: H') ∧ Call Tryz.prog 32 [.agg (cfgC c rv), .int .i64 id, .agg (chkC w v r m t)] H u H' by
  obtain ⟨_, H', ⟨rfl, h1⟩, h2⟩ := hgoal
  exact h2.forget h1 rfl
 refine call_wq fit mixed Tryz.func32 rfl rfl rfl (by kernel_rfl) ?_
 obtain ⟨H1, hH1⟩ : ∃ H1, H ++ [.row (cfgC c rv) true] = H1 := ⟨_, rfl⟩
 obtain ⟨H2, hH2⟩ : ∃ H2, H1 ++ [.row (chkC w v r m t) true] = H2 := ⟨_, rfl⟩
 obtain ⟨H3, hH3⟩ : ∃ H3, H2 ++ [.row zeroChk true] = H3 := ⟨_, rfl⟩
 have p1 : H <+: H1 := by rw [← hH1]; exact List.prefix_append _ _
 have p2 : H1 <+: H2 := by rw [← hH2]; exact List.prefix_append _ _
 have p3 : H2 <+: H3 := by rw [← hH3]; exact List.prefix_append _ _
 have p03 : H <+: H3 := p1.trans (p2.trans p3)
 have gc : H3[H.length]? = some (.row (cfgC c rv) true) := pre_get (p2.trans p3) (by rw [← hH1]; simp)
 have gk : H3[H1.length]? = some (.row (chkC w v r m t) true) := pre_get p3 (by rw [← hH2]; simp)
 have gz : H3[H2.length]? = some (.row zeroChk true) := by rw [← hH3]; simp
 have c1 := refConfMay_ H3 c rv (hr.mono p03) lr lr2
 have c2 := upTo12_ H3 id 0 (IntKind.i64.wrap (c.m - 1))
 have c3 := refChkMay_ H3 w v ws vs r m t (hw.mono p03) (hv.mono p03) lw lv
 have c7 := refFits_ H3 c.i c.h w ws (hw.mono p03) lw
 have lm0 := ld_cell (q := 0) T3 rfl gc rfl
 have lk := ld_agg T45 rfl gk rfl
 have lsh : loadV T 23 H3 H.length 1 = some (.agg [.int .i64 c.i, .int .i64 c.h]) := by
  refine loadV_agg T23 rfl ?_
  unfold Heap.loadN
  rw [gc]; rfl
 have lws := ld_cell (q := 0) T27 rfl gk rfl
 have lc := ld_agg T26 rfl gc rfl
 have lt := ld_cell (q := 4) T3 rfl gk rfl
 have ltot := ld_cell (q := 5) T3 rfl gc rfl
 have hst := agg_store (cells := zeroChk) T45 gz rfl rfl
 obtain ⟨H4, hH4⟩ : ∃ H4, H3.set H2.length (.row zeroChk true) = H4 := ⟨_, rfl⟩
 rw [hH4] at hst
 have hlt := (List.getElem?_eq_some_iff.1 gz).1
 have ln4 : Heap.loadN H4 H2.length 0 5 = some zeroChk := by unfold Heap.loadN; rw [← hH4, List.getElem?_set_self hlt]; rfl
 have p04 : H <+: H4 := by rw [← hH4]; exact pre_set p03 (p1.trans p2).length_le
 clear gc gk gz hr hw hv lr lr2 lw lv hlt p1 p2 p3 hH4
 obtain ⟨r1, e1⟩ : ∃ q, cfgMay c = q := ⟨_, rfl⟩
 obtain ⟨r2, e2⟩ : ∃ q, within id 0 (IntKind.i64.wrap (c.m - 1)) = q := ⟨_, rfl⟩
 obtain ⟨r3, e3⟩ : ∃ q, chkMay ws vs r m t = q := ⟨_, rfl⟩
 obtain ⟨r4, e4⟩ : ∃ q, fits c.i c.h ws = q := ⟨_, rfl⟩
 unfold memFits at he
 rw [e1, e2, e3, e4] at he
 rw [e1] at c1
 rw [e2] at c2
 rw [e3] at c3
 rw [e4] at c7
 clear e1 e2 e3 e4
 cases r1
 ·obtain rfl : e = 2100 := by rcases he with ⟨_, h⟩ | ⟨h, _⟩; exact h; cases h
  clear he
  refine goW ?_
  refine l_heap (h' := H3) (by rw [← hH3, ← hH2, ← hH1]) ?_
  rw [hH1, hH2]
  refine goW ?_
  refine l_callG c1 ?_
  refine goW ?_
  refine cond_go (fun hb => ?_) (fun hb => ?_)
  ·refine goW ?_
   refine end_ret (v := .tup [.agg zeroChk, .int .i64 2100]) ?_ ⟨rfl, p04⟩
   simp only [resRf, resRs, resR, put_app, put_none, Nat.reduceEqDiff, reduceIte, Option.some.injEq, reduceCtorEq, T45, ln4]
   rfl
  ·cases hb
 cases r2
 ·obtain rfl : e = 2100 := by rcases he with ⟨_, h⟩ | ⟨h, _⟩; exact h; cases h
  clear he
  refine goW ?_
  refine l_heap (h' := H3) (by rw [← hH3, ← hH2, ← hH1]) ?_
  rw [hH1, hH2]
  refine goW ?_
  refine l_callG c1 ?_
  refine goW ?_
  refine l_callG c2 ?_
  refine goW ?_
  refine cond_go (fun hb => ?_) (fun hb => ?_)
  ·refine goW ?_
   refine end_ret (v := .tup [.agg zeroChk, .int .i64 2100]) ?_ ⟨rfl, p04⟩
   simp only [resRf, resRs, resR, put_app, put_none, Nat.reduceEqDiff, reduceIte, Option.some.injEq, reduceCtorEq, T45, ln4]
   rfl
  ·cases hb
 cases r3
 ·obtain rfl : e = 2100 := by rcases he with ⟨_, h⟩ | ⟨h, _⟩; exact h; cases h
  clear he
  refine goW ?_
  refine l_heap (h' := H3) (by rw [← hH3, ← hH2, ← hH1]) ?_
  rw [hH1, hH2]
  refine goW ?_
  refine l_callG c1 ?_
  refine goW ?_
  refine l_callG c2 ?_
  refine goW ?_
  refine l_callG c3 ?_
  refine goW ?_
  refine cond_go (fun hb => ?_) (fun hb => ?_)
  ·refine goW ?_
   refine end_ret (v := .tup [.agg zeroChk, .int .i64 2100]) ?_ ⟨rfl, p04⟩
   simp only [resRf, resRs, resR, put_app, put_none, Nat.reduceEqDiff, reduceIte, Option.some.injEq, reduceCtorEq, T45, ln4]
   rfl
  ·cases hb
 cases r4
 ·obtain rfl : e = 2100 := by rcases he with ⟨_, h⟩ | ⟨h, _⟩; exact h; cases h
  clear he
  refine goW ?_
  refine l_heap (h' := H3) (by rw [← hH3, ← hH2, ← hH1]) ?_
  rw [hH1, hH2]
  refine goW ?_
  refine l_callG c1 ?_
  refine goW ?_
  refine l_callG c2 ?_
  refine goW ?_
  refine l_callG c3 ?_
  refine goW ?_
  refine l_callG c7 ?_
  refine goW ?_
  refine cond_go (fun hb => ?_) (fun hb => ?_)
  ·refine goW ?_
   refine end_ret (v := .tup [.agg zeroChk, .int .i64 2100]) ?_ ⟨rfl, p04⟩
   simp only [resRf, resRs, resR, put_app, put_none, Nat.reduceEqDiff, reduceIte, Option.some.injEq, reduceCtorEq, T45, ln4]
   rfl
  ·cases hb
 obtain ⟨hd, rfl⟩ : decide (t ≥ c.total) = true ∧ e = 2101 := by
  rcases he with ⟨h, _⟩ | ⟨_, h1, h2⟩
  ·cases h
  ·exact ⟨h1, h2⟩
 clear he
 refine goW ?_
 refine l_heap (h' := H3) (by rw [← hH3, ← hH2, ← hH1]) ?_
 rw [hH1, hH2]
 refine goW ?_
 refine l_callG c1 ?_
 refine goW ?_
 refine l_callG c2 ?_
 refine goW ?_
 refine l_callG c3 ?_
 refine goW ?_
 refine l_callG c7 ?_
 refine goW ?_
 refine cond_go (fun hb => ?_) (fun hb => ?_)
 ·cases hb
 clear hb
 refine goW ?_
 refine cond_go (fun hb => ?_) (fun hb => ?_)
 ·refine goW ?_
  refine end_ret (v := .tup [.agg zeroChk, .int .i64 2101]) ?_ ⟨rfl, p04⟩
  simp only [resRf, resRs, resR, put_app, put_none, Nat.reduceEqDiff, reduceIte, Option.some.injEq, reduceCtorEq, T45, ln4]
  rfl
 ·cases hb
def eqHyper (r m r' m' : Int) : Bool := decide (r = r') && decide (m = m')
theorem eq_hyper (r m r' m' : Int) : vbin T .eql 43 (.agg [.int .i64 r, .int .i64 m]) (.agg [.int .i64 r', .int .i64 m']) = some (.bool (eqHyper r m r' m')) := by
 have h : vbin T .eql 43 (.agg [.int .i64 r, .int .i64 m]) (.agg [.int .i64 r', .int .i64 m']) = some (.bool (r == r' && (m == m' && true))) := by
  simp only [vbin, T43]; rfl
 rw [h]
 unfold eqHyper
 congr 2
 apply Bool.eq_iff_iff.2; simp
def eqChk (ws vs : List Int) (r m t : Int) (ws' vs' : List Int) (r' m' t' : Int) : Bool := decide (ws = ws') && (decide (vs = vs') && (eqHyper r m r' m' && decide (t = t')))
theorem sameCheck_ (H : Heap) (w v w' v' : V) (ws vs ws' vs' : List Int) (r m t r' m' t' : Int) (hw : Sl 1 intC H w ws) (hv : Sl 1 intC H v vs) (hw' : Sl 1 intC H w' ws') (hv' : Sl 1 intC H v' vs') (lw : ws.length ≤ 2 ^ 47) (lv : vs.length ≤ 2 ^ 47) :
  Call Tryz.prog 25 [.agg (chkC w v r m t), .agg (chkC w' v' r' m' t')] H (.bool (eqChk ws vs r m t ws' vs' r' m' t')) H := by
 refine call_plain fit mixed Tryz.func25 rfl rfl rfl (by kernel_rfl) rfl ?_
 obtain ⟨H1, hH1⟩ : ∃ H1, H ++ [.row (chkC w v r m t) true] = H1 := ⟨_, rfl⟩
 obtain ⟨H2, hH2⟩ : ∃ H2, H1 ++ [.row (chkC w' v' r' m' t') true] = H2 := ⟨_, rfl⟩
 have p1 : H <+: H1 := by rw [← hH1]; exact List.prefix_append _ _
 have p2 : H1 <+: H2 := by rw [← hH2]; exact List.prefix_append _ _
 have pend := p1.trans p2
 have g1 : H2[H.length]? = some (.row (chkC w v r m t) true) := pre_get p2 (by rw [← hH1]; simp)
 have g2 : H2[H1.length]? = some (.row (chkC w' v' r' m' t') true) := by rw [← hH2]; simp
 have a0 := ld_cell (q := 0) T27 rfl g1 rfl
 have a1 := ld_cell (q := 1) T27 rfl g1 rfl
 have a4 := ld_cell (q := 4) T3 rfl g1 rfl
 have b0 := ld_cell (q := 0) T27 rfl g2 rfl
 have b1 := ld_cell (q := 1) T27 rfl g2 rfl
 have b4 := ld_cell (q := 4) T3 rfl g2 rfl
 have a2 : loadV T 43 H2 H.length 2 = some (.agg [.int .i64 r, .int .i64 m]) := by
  refine loadV_agg T43 rfl ?_
  unfold Heap.loadN
  rw [g1]; rfl
 have b2 : loadV T 43 H2 H1.length 2 = some (.agg [.int .i64 r', .int .i64 m']) := by
  refine loadV_agg T43 rfl ?_
  unfold Heap.loadN
  rw [g2]; rfl
 have hq := eq_hyper r m r' m'
 have c1 := sameInts_ H2 w w' ws ws' (hw.mono pend) (hw'.mono pend) lw
 have c2 := sameInts_ H2 v v' vs vs' (hv.mono pend) (hv'.mono pend) lv
 unfold eqChk
 obtain ⟨r1, e1⟩ : ∃ q, decide (ws = ws') = q := ⟨_, rfl⟩
 obtain ⟨r2, e2⟩ : ∃ q, decide (vs = vs') = q := ⟨_, rfl⟩
 obtain ⟨r3, e3⟩ : ∃ q, eqHyper r m r' m' = q := ⟨_, rfl⟩
 rw [e1] at c1 ⊢
 rw [e2] at c2 ⊢
 rw [e3] at hq ⊢
 have hd : (t == t') = decide (t = t') := by apply Bool.eq_iff_iff.2; simp
 clear e1 e2 e3 hw hv hw' hv' g1 g2 p1 p2
 refine goW ?_
 refine l_heap (h' := H2) (by rw [← hH2, ← hH1]) ?_
 rw [hH1]
 refine goW ?_
 refine l_callG c1 ?_
 cases r1
 ·refine goW ?_
  refine end_ret (by simp only [resRf, resRs, resR]; first | done | rfl) ⟨?_, pend⟩
  simp [put_app, put_none]
 refine goW ?_
 refine l_callG c2 ?_
 cases r2
 ·refine goW ?_
  refine end_ret (by simp only [resRf, resRs, resR]; first | done | rfl) ⟨?_, pend⟩
  simp [put_app, put_none]
 refine l_go ?_
 repeat (first | refine l_onG ?_ | refine l_offG ?_ | refine l_go ?_ (by first | exact s_field eLk (by rfl) | exact s_load eLk eLkV | exact s_move eLk | exact s_assign eLk | exact s_pick1 eLkB eLk eLk))
 refine l_step (s_bin eLk eLk hq) ?_
 cases r3
 ·refine goW ?_
  refine end_ret (by simp only [resRf, resRs, resR]; first | done | rfl) ⟨?_, pend⟩
  simp [put_app, put_none]
 refine goW ?_
 refine end_ret (by simp only [resRf, resRs, resR]; first | done | rfl) ⟨?_, pend⟩
 simp [put_app, put_none, hd]
def RowsM (B H : Heap) (v : V) (rs : List (List Int × Int)) : Prop := ∃ rv, Mine 2 rowC B H v rv ∧ RowsAt H rv rs ∧ ∀ p ∈ rv, ∀ c, p.1.blk = some c → B.length ≤ c
theorem RowsM.rows {B H : Heap} {v : V} {rs : List (List Int × Int)} (h : RowsM B H v rs) : Rows H v rs := by
 obtain ⟨rv, h1, h2, _⟩ := h
 exact ⟨rv, h1.sl, h2⟩
theorem RowsM.pre {B H : Heap} {v : V} {rs : List (List Int × Int)} (h : RowsM B H v rs) : B <+: H := by
 obtain ⟨rv, h1, _⟩ := h
 exact h1.1
theorem RowsM.set {B H : Heap} {v : V} {rs : List (List Int × Int)} (h : RowsM B H v rs) {c : Nat} {k : Blk} (hc : c < B.length) : Rows (H.set c k) v rs := by
 obtain ⟨rv, h1, h2, h3⟩ := h
 refine ⟨rv, h1.sl.fr fun b hb e => ?_, h2.1, fun j p r hj hr => ⟨(h2.2 j p r hj hr).1.fr fun b hb e => ?_, (h2.2 j p r hj hr).2⟩⟩
 ·have := (h1.blk e).1
  rw [List.getElem?_set_ne (by omega)]
 ·have := h3 p (List.mem_iff_getElem?.2 ⟨j, hj⟩) b e
  rw [List.getElem?_set_ne (by omega)]
theorem Keep.refl (v : V) (H : Heap) : Keep v H H := ⟨Nat.le_refl _, fun _ _ _ => rfl⟩
theorem Keep.trans {v : V} {A B C : Heap} (h : Keep v A B) (k : Keep v B C) : Keep v A C := ⟨Nat.le_trans h.1 k.1, fun c hc hne => by rw [k.2 c (Nat.lt_of_lt_of_le hc h.1) hne, h.2 c hc hne]⟩
theorem sameConfig_ (H : Heap) (c : Cfg) (u v : V) (hu : Rows H u c.rows) (hv : Rows H v c.rows) (lx : c.rows.length ≤ 2 ^ 47) (l1 : ∀ r ∈ c.rows, r.1.length ≤ 2 ^ 47) : Call Tryz.prog 40 [.agg (cfgC c u), .agg (cfgC c v)] H (.bool true) H := by
 refine call_plain fit mixed Tryz.func40 rfl rfl rfl (by kernel_rfl) rfl ?_
 obtain ⟨H1, hH1⟩ : ∃ H1, H ++ [.row (cfgC c u) true] = H1 := ⟨_, rfl⟩
 obtain ⟨H2, hH2⟩ : ∃ H2, H1 ++ [.row (cfgC c v) true] = H2 := ⟨_, rfl⟩
 have p1 : H <+: H1 := by rw [← hH1]; exact List.prefix_append _ _
 have p2 : H1 <+: H2 := by rw [← hH2]; exact List.prefix_append _ _
 have pend := p1.trans p2
 have g1 : H2[H.length]? = some (.row (cfgC c u) true) := pre_get p2 (by rw [← hH1]; simp)
 have g2 : H2[H1.length]? = some (.row (cfgC c v) true) := by rw [← hH2]; simp
 have a0 := ld_cell (q := 0) T3 rfl g1 rfl
 have a3 := ld_cell (q := 3) T24 rfl g1 rfl
 have a4 := ld_cell (q := 4) T3 rfl g1 rfl
 have a5 := ld_cell (q := 5) T3 rfl g1 rfl
 have a6 := ld_cell (q := 6) T3 rfl g1 rfl
 have a7 := ld_cell (q := 7) T3 rfl g1 rfl
 have a8 := ld_cell (q := 8) T4 rfl g1 rfl
 have b0 := ld_cell (q := 0) T3 rfl g2 rfl
 have b3 := ld_cell (q := 3) T24 rfl g2 rfl
 have b4 := ld_cell (q := 4) T3 rfl g2 rfl
 have b5 := ld_cell (q := 5) T3 rfl g2 rfl
 have b6 := ld_cell (q := 6) T3 rfl g2 rfl
 have b7 := ld_cell (q := 7) T3 rfl g2 rfl
 have b8 := ld_cell (q := 8) T4 rfl g2 rfl
 have a1 : loadV T 23 H2 H.length 1 = some (.agg [.int .i64 c.i, .int .i64 c.h]) := by
  refine loadV_agg T23 rfl ?_
  unfold Heap.loadN
  rw [g1]; rfl
 have b1 : loadV T 23 H2 H1.length 1 = some (.agg [.int .i64 c.i, .int .i64 c.h]) := by
  refine loadV_agg T23 rfl ?_
  unfold Heap.loadN
  rw [g2]; rfl
 have hq : vbin T .eql 23 (.agg [.int .i64 c.i, .int .i64 c.h]) (.agg [.int .i64 c.i, .int .i64 c.h]) = some (.bool true) := by
  have h : vbin T .eql 23 (.agg [.int .i64 c.i, .int .i64 c.h]) (.agg [.int .i64 c.i, .int .i64 c.h]) = some (.bool (c.i == c.i && (c.h == c.h && true))) := by
   simp only [vbin, T23]; rfl
  rw [h]; simp
 have hq2 : vbin T .eql 4 (.bool c.pert) (.bool c.pert) = some (.bool true) := by
  have h : vbin T .eql 4 (.bool c.pert) (.bool c.pert) = some (.bool (c.pert == c.pert)) := by
   simp only [vbin, T4]; rfl
  rw [h]; simp
 have c1 := sameRows_ H2 u v c.rows c.rows (hu.mono pend) (hv.mono pend) lx l1
 rw [decide_eq_true rfl] at c1
 clear hu hv g1 g2 p1 p2
 refine goW ?_
 refine l_heap (h' := H2) (by rw [← hH2, ← hH1]) ?_
 rw [hH1]
 repeat (first | refine wq_seq ?_ | refine wq_line ?_ | refine wq_draw (by decide +kernel) ?_ | refine wq_block ?_ | refine l_nil ?_ | refine d_nil ?_ | refine wq_skip ?_ | refine wq_ret ?_ | refine wq_exit ?_ | refine th_normal ?_ | refine th_ret ?_ | refine th_exit ?_ | refine bk_normal ?_ | refine bk_ret ?_ | refine bk_exit ?_ | refine bk_other rfl ?_ | refine l_onG ?_ | refine l_offG ?_ | refine l_step (s_bin eLk eLk hq) ?_ | refine l_step (s_bin eLk eLk hq2) ?_ | refine l_callG c1 ?_ | refine l_go ?_)
 refine end_ret (by simp only [resRf, resRs, resR]; first | done | rfl) ⟨?_, pend⟩
 simp [put_app, put_none]
abbrev zeroCfg : List V := [.int .i64 0, .int .i64 0, .int .i64 0, .nils, .int .i64 0, .int .i64 0, .int .i64 0, .int .i64 0, .bool false]
def byteC (cs : List V) (n : Int) : Prop := cs = [.int .u8 n]
def strOf (bs : List Int) : ByteArray := ⟨(bs.map fun n => UInt8.ofNat n.toNat).toArray⟩
theorem strOf_size (bs : List Int) : (strOf bs).size = bs.length := by simp [strOf, ByteArray.size]
theorem strOf_app (a b : List Int) : strOf a ++ strOf b = strOf (a ++ b) := by
 apply ByteArray.ext
 simp [strOf, ByteArray.data_append]
theorem toBytes_of : ∀ (cs : List V) (bs : List Int), Cells 1 byteC cs bs → V.toBytes cs = some (bs.map fun n => UInt8.ofNat n.toNat)
 | [], [], _ => rfl
 | [], b :: bs, h => by have := h.1; simp at this
 | c :: cs, [], h => by have := h.1; simp at this
 | c :: cs, b :: bs, h => by
  have h0 := h.2 0 b rfl
  simp [byteC] at h0
  subst h0
  have ht := toBytes_of cs bs ⟨by have := h.1; simpa using this, fun k x hk => by
   have := h.2 (k + 1) x (by simpa using hk)
   simpa [Nat.succ_mul] using this⟩
  simp [V.toBytes, ht]
theorem s_toStr {ρ : Rho} {H : Heap} {x : Operand} {v : V} {bs : List Int} (hx : ρ.ev x = some v) (h : Sl 1 byteC H v bs) : Does T ρ H (.convert 77 9 x) (.str (strOf bs)) H := by
 refine does_mem rfl ?_ ?_
 ·rcases h with ⟨rfl, _⟩ | ⟨b, off, cap, t, cs, wr, rfl, _⟩ <;> simp only [pureOp, T77, T9, hx]
 ·rcases h with ⟨rfl, rfl⟩ | ⟨b, off, cap, t, cs, wr, rfl, h1, h2, h3, h4⟩
  ·simp only [memOp, T77, T9, T5, hx]; rfl
  ·simp only [memOp, T77, T9, T5, hx]
   by_cases h0 : bs.length = 0
   ·obtain rfl : bs = [] := List.length_eq_zero_iff.1 h0
    simp; rfl
   ·rw [if_neg h0]
    have hl : H.loadN b off bs.length = some ((cs.drop off).take bs.length) := by
     unfold Heap.loadN
     rw [h2]
     simp only
     rw [if_pos (by omega)]
    have hc : Cells 1 byteC ((cs.drop off).take bs.length) bs := ⟨by simp; omega, fun k x hk => by
     have hk' := (List.getElem?_eq_some_iff.1 hk).1
     have := h4 k x hk
     rw [List.drop_take, List.drop_drop, List.take_take, Nat.min_eq_left (by omega)]
     exact this⟩
    rw [hl]
    simp only [toBytes_of _ _ hc]
    rfl
def lowK (x : Int) (j : Nat) : Int := IntKind.u8.wrap (x.fdiv (2 ^ min (8 * j) IntKind.i64.bits))
def lowL (x : Int) (k : Nat) : List Int := (List.range k).map (lowK x)
theorem str_add {a b : List Int} (h : a.length + b.length ≤ 2 ^ 40) : vbin T .add 9 (.str (strOf a)) (.str (strOf b)) = some (.str (strOf (a ++ b))) := by
 simp only [vbin, strBin, strOf_size, strOf_app]
 rw [if_neg (by simp only [IntKind.max, IntKind.signed, IntKind.bits]; omega)]
theorem lowL_len (x : Int) (k : Nat) : (lowL x k).length = k := by simp [lowL]
def lowsL (xs : List Int) : List Int := xs.flatMap fun x => lowL x 4
theorem lowsL_len (xs : List Int) : (lowsL xs).length = 4 * xs.length := by
 induction xs with
 | nil => rfl
 | cons x xs ih =>
  have : lowsL (x :: xs) = lowL x 4 ++ lowsL xs := rfl
  rw [this, List.length_append, ih, lowL_len, List.length_cons]; omega
theorem lowsL_snoc {xs : List Int} {k : Nat} {x : Int} (h : xs[k]? = some x) : lowsL (xs.take (k + 1)) = lowsL (xs.take k) ++ lowL x 4 := by
 rw [List.take_add_one, h]
 simp [lowsL]
def putL (ws vs : List Int) (r m t : Int) : List Int := (((lowL ws.length 1 ++ lowsL ws) ++ lowsL vs) ++ lowL r 4 ++ lowL m 4) ++ lowL t 1
theorem low_ (H : Heap) (x : Int) (k : Nat) (hk : k ≤ 8) : Call Tryz.prog 169 [.int .i64 x, .int .i64 k] H (.str (strOf (lowL x k))) H := by
 refine call_plain fit mixed Tryz.func169 rfl rfl rfl (by kernel_rfl) rfl ?_
 obtain ⟨H1, hH1⟩ : ∃ H1, H ++ [.row (zeros [.int .u8 0] k) true] = H1 := ⟨_, rfl⟩
 have p1 : H <+: H1 := by rw [← hH1]; exact List.prefix_append _ _
 obtain ⟨v, hv⟩ : ∃ v, V.slc H.length 0 k k true 1 = v := ⟨_, rfl⟩
 have hm : Mine 1 byteC H H1 v (List.replicate k 0) := by
  have h := mine_make (R := byteC) (t := true) (List.prefix_refl H) (cells_zeros (sz := 1) (z := [V.int .u8 0]) (x := (0 : Int)) rfl rfl k)
  rw [List.length_replicate, hH1, hv] at h
  exact h
 refine goW ?_
 refine l_makeG T77 rfl T5 ?_
 refine l_heap (h' := H1) hH1 ?_
 refine goW ?_
 refine wq_loop (fun c ρ hp => ∃ j ys, j ≤ k ∧ c = k - j ∧ ys.length = k ∧ (∀ i, i < j → ys[i]? = some (lowK x i)) ∧ Mine 1 byteC H hp v ys ∧ ρ 0 = .int .i64 x ∧ ρ 1 = .int .i64 (k : Nat) ∧ ρ 5 = v ∧ ρ 6 = .int .i64 (j : Nat)) ⟨0, _, Nat.zero_le _, rfl, by simp, by intro i hi; omega, hm, rfl, rfl, hv, rfl⟩ ?_
 clear hm hv hH1 p1
 rintro _ ρ hp ⟨j, ys, hj, rfl, hyl, hys, hm, h0, h1, h5, h6⟩
 refine goW ?_
 refine cond_go (fun hb => ?_) (fun hb => ?_)
 ·have hj' : j < k := by simpa using hb
  clear hb
  obtain ⟨b, o, hi, hst0⟩ := hm.store T77 rfl T5 rfl (k := j) (by omega)
  obtain ⟨H', hst, hm2⟩ := hst0 (.int .u8 (lowK x j)) (lowK x j) rfl rfl rfl
  have w8 : IntKind.i64.wrap (8 * (j : Int)) = ((8 * j : Nat) : Int) := by rw [show 8 * (j : Int) = ((8 * j : Nat) : Int) by omega]; exact wrap_nat (by omega)
  have hw := wrap_succ (n := j) (by omega)
  have hall : ∀ i, i < j + 1 → (ys.set j (lowK x j))[i]? = some (lowK x i) := fun i hi2 => by
   by_cases hij : i = j
   ·subst hij; rw [List.getElem?_set_self (by omega)]
   ·rw [List.getElem?_set_ne (by omega)]; exact hys i (by omega)
  clear hm hys hst0
  have hsh : vbin T .shr 3 (.int .i64 x) (.int .i64 ((8 * j : Nat) : Int)) = some (.int .i64 (x.fdiv (2 ^ min (8 * j) IntKind.i64.bits))) := by
   simp only [vbin, shiftBin]
   rw [if_neg (by omega), Int.toNat_natCast]
  have hlk : IntKind.u8.wrap (x.fdiv (2 ^ min (8 * j) IntKind.i64.bits)) = lowK x j := rfl
  repeat (first | refine wq_seq ?_ | refine wq_line ?_ | refine wq_draw (by decide +kernel) ?_ | refine wq_block ?_ | refine l_nil ?_ | refine d_nil ?_ | refine wq_skip ?_ | refine wq_ret ?_ | refine wq_exit ?_ | refine th_normal ?_ | refine th_ret ?_ | refine th_exit ?_ | refine bk_normal ?_ | refine bk_ret ?_ | refine bk_exit ?_ | refine bk_other rfl ?_ | refine l_step (s_bin eLk eLk hsh) ?_ | refine l_go ?_)
  refine ⟨k - (j + 1), by omega, j + 1, _, hj', rfl, by simpa using hyl, hall, hm2, ?_⟩
  simp [put_app, put_none, *]
 ·have hj' : j = k := by have : ¬ j < k := by simpa using hb
                         omega
  subst hj'
  clear hb
  have hyy : ys = lowL x j := by
   apply List.ext_getElem?
   intro i
   by_cases hi : i < j
   ·rw [hys i hi]; simp [lowL, hi]
   ·rw [List.getElem?_eq_none (by omega), List.getElem?_eq_none (by simp [lowL]; omega)]
  subst hyy
  have hsl := hm.sl
  have hpr := hm.1
  clear hm hys
  refine goW ?_
  refine l_step (s_toStr eLk hsl) ?_
  refine goW ?_
  refine end_ret (by simp only [resRf, resRs, resR]; first | done | rfl) ⟨?_, hpr⟩
  simp [put_app, put_none]
theorem refPut_good (H : Heap) (w v : V) (ws vs : List Int) (r m t : Int) (hw : Sl 1 intC H w ws) (hv : Sl 1 intC H v vs) (hm : chkMay ws vs r m t = true) : Call Tryz.prog 90 [.agg (chkC w v r m t)] H (.tup [.str (strOf (putL ws vs r m t)), .int .i64 0]) H := by
 refine call_plain fit mixed Tryz.func90 rfl rfl rfl (by kernel_rfl) rfl ?_
 obtain ⟨hvw, hvv, hlv, hlw1, _, _, _⟩ := chkMay_split hm
 have hlw := vecMay_len hvw
 obtain ⟨n, hn⟩ : ∃ n, ws.length = n := ⟨_, rfl⟩
 obtain ⟨H1, hH1⟩ : ∃ H1, H ++ [.row (chkC w v r m t) true] = H1 := ⟨_, rfl⟩
 have p1 : H <+: H1 := by rw [← hH1]; exact List.prefix_append _ _
 have g1 : H1[H.length]? = some (.row (chkC w v r m t) true) := by rw [← hH1]; simp
 have hw1 := hw.mono p1
 have hv1 := hv.mono p1
 have c0 := refChkMay_ H1 w v ws vs r m t hw1 hv1 (by omega) (by omega)
 rw [hm] at c0
 have la := ld_agg T45 rfl g1 rfl
 have l0 := ld_cell (q := 0) T27 rfl g1 rfl
 have l1 := ld_cell (q := 1) T27 rfl g1 rfl
 have l2 := ld_cell (q := 2) T3 rfl g1 rfl
 have l3 := ld_cell (q := 3) T3 rfl g1 rfl
 have l4 := ld_cell (q := 4) T3 rfl g1 rfl
 have hlen := hw1.len T27 rfl
 have hlen2 := hv1.len T27 rfl
 rw [hn] at hlen hlv hlw hlw1
 rw [hlv] at hlen2
 have k1 := low_ H1 n 1 (by decide)
 have k2 := low_ H1 r 4 (by decide)
 have k3 := low_ H1 m 4 (by decide)
 have k4 := low_ H1 t 1 (by decide)
 obtain ⟨pre, hpre⟩ : ∃ x, lowL ws.length 1 ++ lowsL ws = x := ⟨_, rfl⟩
 have hprel : pre.length = 1 + 4 * n := by rw [← hpre]; simp only [List.length_append, lowL_len, lowsL_len]; omega
 obtain ⟨out, hout⟩ : ∃ x, putL ws vs r m t = x := ⟨_, rfl⟩
 rw [hout]
 clear hm hvw hvv hw hv
 refine goW ?_
 refine l_heap (h' := H1) hH1 ?_
 refine goW ?_
 refine l_callG c0 ?_
 refine goW ?_
 refine cond_go (fun hb => ?_) (fun hb => ?_)
 ·cases hb
 clear hb c0 la
 refine goW ?_
 refine l_callG k1 ?_
 refine goW ?_
 refine wq_loop (fun c ρ hp => ∃ k, k ≤ n ∧ c = n - k ∧ hp = H1 ∧ ρ 1 = .ptr H.length 0 ∧ ρ 4 = .str (strOf (lowL n 1 ++ lowsL (ws.take k))) ∧ ρ 5 = .int .i64 (k : Nat)) ⟨0, Nat.zero_le _, rfl, rfl, rfl, by simp [lowsL]; rfl, rfl⟩ ?_
 rintro _ ρ hp ⟨k, hk, rfl, hpe, h1, h4, h5⟩
 subst hpe
 clear k1
 refine goW ?_
 refine cond_go (fun hb => ?_) (fun hb => ?_)
 ·have hk' : k < n := by simpa using hb
  clear hb
  have hwk := getD_some (xs := ws) (k := k) (by omega)
  obtain ⟨b, o, _, hi, rfl, _, hlo, _⟩ := hw1.get T27 rfl T3 rfl hwk
  have ho := loadV_one T3 rfl hlo
  have c1 := low_ hp (ws.getD k 0) 4 (by decide)
  have hsn := lowsL_snoc hwk
  have hadd := str_add (a := lowL n 1 ++ lowsL (ws.take k)) (b := lowL (ws.getD k 0) 4) (by simp only [List.length_append, lowL_len, lowsL_len, List.length_take]; omega)
  rw [List.append_assoc, ← hsn] at hadd
  have hw2 := wrap_succ (n := k) (by omega)
  clear hlo hwk hsn k2 k3 k4 hlen2 l1 l2 l3 l4
  refine goW ?_
  refine l_callG c1 ?_
  refine l_step (s_bin eLk eLk hadd) ?_
  refine goW ?_
  refine ⟨n - (k + 1), by omega, k + 1, hk', rfl, rfl, ?_⟩
  simp [put_app, put_none, *]
 have hk' : k = n := by have : ¬ k < n := by simpa using hb
                        omega
 subst hk'
 rw [List.take_of_length_le (by omega), ← hn, hpre] at h4
 clear hb hlen l0
 refine wq_cut (fun ρ => ρ 1 = .ptr H.length 0 ∧ ρ 4 = .str (strOf pre)) ⟨h1, h4⟩ ?_
 clear h1 h4 h5
 clear ρ
 rintro ρ ⟨h1, h4⟩
 refine goW ?_
 refine wq_loop (fun c ρ hp' => ∃ j, j ≤ k ∧ c = k - j ∧ hp' = hp ∧ ρ 1 = .ptr H.length 0 ∧ ρ 4 = .str (strOf (pre ++ lowsL (vs.take j))) ∧ ρ 6 = .int .i64 (j : Nat)) ⟨0, Nat.zero_le _, rfl, rfl, by simp [put_app, put_none, h1], by simp [put_app, put_none, h4, lowsL], rfl⟩ ?_
 clear h1 h4
 clear ρ
 rintro _ ρ hp2 ⟨j, hj, rfl, hpe, h1, h4, h6⟩
 subst hpe
 refine goW ?_
 refine cond_go (fun hb => ?_) (fun hb => ?_)
 ·have hj' : j < k := by simpa using hb
  clear hb
  have hwk := getD_some (xs := vs) (k := j) (by omega)
  obtain ⟨b, o, _, hi, rfl, _, hlo, _⟩ := hv1.get T27 rfl T3 rfl hwk
  have ho := loadV_one T3 rfl hlo
  have c1 := low_ hp2 (vs.getD j 0) 4 (by decide)
  have hsn := lowsL_snoc hwk
  have hadd := str_add (a := pre ++ lowsL (vs.take j)) (b := lowL (vs.getD j 0) 4) (by simp only [List.length_append, lowL_len, lowsL_len, List.length_take]; omega)
  rw [List.append_assoc, ← hsn] at hadd
  have hw2 := wrap_succ (n := j) (by omega)
  clear hlo hwk hsn k2 k3 k4 l2 l3 l4
  refine goW ?_
  refine l_callG c1 ?_
  refine l_step (s_bin eLk eLk hadd) ?_
  refine goW ?_
  refine ⟨k - (j + 1), by omega, j + 1, hj', rfl, rfl, ?_⟩
  simp [put_app, put_none, *]
 have hj' : j = k := by have : ¬ j < k := by simpa using hb
                        omega
 subst hj'
 rw [List.take_of_length_le (by omega)] at h4
 clear hb hlen2 l1
 have hfin : out = pre ++ lowsL vs ++ lowL r 4 ++ lowL m 4 ++ lowL t 1 := by rw [← hout, ← hpre]; rfl
 have a1 := str_add (a := pre ++ lowsL vs) (b := lowL r 4) (by simp only [List.length_append, lowL_len, lowsL_len]; omega)
 have a2 := str_add (a := pre ++ lowsL vs ++ lowL r 4) (b := lowL m 4) (by simp only [List.length_append, lowL_len, lowsL_len]; omega)
 have a3 := str_add (a := pre ++ lowsL vs ++ lowL r 4 ++ lowL m 4) (b := lowL t 1) (by simp only [List.length_append, lowL_len, lowsL_len]; omega)
 rw [← hfin] at a3
 clear hout hfin hpre
 refine goW ?_
 refine d_call0G k2 ?_
 refine d_step (s_bin eLk eLk a1) ?_
 refine goW ?_
 refine d_call0G k3 ?_
 refine d_step (s_bin eLk eLk a2) ?_
 refine goW ?_
 refine d_call0G k4 ?_
 refine d_step (s_bin eLk eLk a3) ?_
 refine goW ?_
 refine end_ret (by simp only [resRf, resRs, resR]; first | done | rfl) ⟨?_, p1⟩
 simp [put_app, put_none]
def initK (s f k : Nat) : Int := (drawN s (f + k) : Int) - 32768
def initL (i h s f : Nat) : List Int := (List.range (netSize i h)).map (initK s f)
theorem initK_may (s f k : Nat) : fixMay (initK s f k) = true := by
 have := drawN_lt s (f + k)
 unfold fixMay initK
 rw [within_iff]; omega
theorem initL_len (i h s f : Nat) : (initL i h s f).length = netSize i h := by simp [initL]
theorem initL_vec {i h s f : Nat} (hs : netSize i h ≤ 16) : vecMay (initL i h s f) = true := by
 simp only [vecMay, Bool.and_eq_true, decide_eq_true_eq, List.all_eq_true]
 refine ⟨by rw [initL_len]; exact hs, fun b hb => ?_⟩
 obtain ⟨k, _, rfl⟩ := List.mem_map.1 hb
 exact initK_may s f k
def rateN (s k : Nat) : Nat := 64 + pickN s k 16321
def momN (s k : Nat) : Nat := pickN s (k + 1) 58983
theorem hyper_re (s k : Nat) : hyperMay (rateN s k) (momN s k) = true := by
 have h1 := pickN_lt (s := s) (k := k) (b := 16321) (by decide)
 have h2 := pickN_lt (s := s) (k := k + 1) (b := 58983) (by decide)
 unfold rateN momN
 simp only [hyperMay, Bool.and_eq_true, within_iff]; omega
abbrev memC (w v : V) (r m t h : Int) : List V := [w, v, .int .i64 r, .int .i64 m, .int .i64 t, .int .i64 h]
abbrev zeroMem : List V := [.nils, .nils, .int .i64 0, .int .i64 0, .int .i64 0, .int .i64 0]
def firstW (c : Cfg) (id : Int) : List Int := initL c.i.toNat c.h.toNat c.seed.toNat (50000 + 16 * id.toNat)
def firstV (c : Cfg) : List Int := List.replicate (netSize c.i.toNat c.h.toNat) 0
def firstR (c : Cfg) (id : Int) : Int := rateN c.seed.toNat (40000 + 2 * id.toNat)
def firstM (c : Cfg) (id : Int) : Int := momN c.seed.toNat (40000 + 2 * id.toNat)
def firstS (c : Cfg) (id : Int) : List Int := putL (firstW c id) (firstV c) (firstR c id) (firstM c id) 0
theorem shape_ab {i h : Int} (hs : shapeMay i h = true) : ∃ a b : Nat, i = a ∧ h = b ∧ 1 ≤ a ∧ a ≤ 3 ∧ 1 ≤ b ∧ b ≤ 3 := by
 simp only [shapeMay, Bool.and_eq_true, within_iff] at hs
 exact ⟨i.toNat, h.toNat, by omega, by omega, by omega, by omega, by omega, by omega⟩
theorem size16 {a b : Nat} (ha : a ≤ 3) (hb : b ≤ 3) : netSize a b ≤ 16 := by have := small_size ha hb; unfold netSize; omega
theorem zeros_vec {n : Nat} (hn : n ≤ 16) : vecMay (List.replicate n 0) = true := by
 simp only [vecMay, Bool.and_eq_true, decide_eq_true_eq, List.all_eq_true]
 refine ⟨by simpa using hn, fun b hb => ?_⟩
 have := (List.mem_replicate.1 hb).2
 subst this; rfl
theorem first_fits {c : Cfg} (hc : cfgMay c = true) (id : Int) : memFits c.i c.h (firstW c id) (firstV c) (firstR c id) (firstM c id) 0 = true := by
 obtain ⟨_, hloss, _⟩ := cfgMay_split hc
 obtain ⟨hs, _⟩ := lossMay_split hloss
 obtain ⟨a, b, ha, hb, ha1, ha3, hb1, hb3⟩ := shape_ab hs
 have h16 := size16 ha3 hb3
 have hv := initL_vec (s := c.seed.toNat) (f := 50000 + 16 * id.toNat) h16
 have hl := initL_len a b c.seed.toNat (50000 + 16 * id.toNat)
 have hz := zeros_vec h16
 have hhy := hyper_re c.seed.toNat (40000 + 2 * id.toNat)
 have hpos : 0 < netSize a b := by unfold netSize; omega
 have hcast := size_cast a b
 have hs' : shapeMay (a : Int) (b : Int) = true := by rw [← ha, ← hb]; exact hs
 unfold memFits chkMay firstW firstV firstR firstM
 rw [ha, hb] at *
 simp only [Int.toNat_natCast]
 simp only [alike, List.all_cons, List.all_nil, hv, hl, hz, hhy, hs', fits, List.length_replicate, hpos]
 simp only [hcast, beq_self_eq_true]
 simp
theorem refInit_ (H : Heap) (i h s f : Nat) (hi : 1 ≤ i ∧ i ≤ 3) (hh : 1 ≤ h ∧ h ≤ 3) (hs : s ≤ 65535) (hf : f ≤ 1048560) :
  ∃ u H', Call Tryz.prog 128 [.agg [.int .i64 i, .int .i64 h], .int .i64 s, .int .i64 f] H (.tup [u, .int .i64 0]) H' ∧ Mine 1 intC H H' u (initL i h s f) := by
 suffices hgoal : ∃ w H', (∃ u, w = .tup [u, .int .i64 0] ∧ Mine 1 intC H H' u (initL i h s f)) ∧ Call Tryz.prog 128 [.agg [.int .i64 i, .int .i64 h], .int .i64 s, .int .i64 f] H w H' by
  obtain ⟨_, H', ⟨u, rfl, h1⟩, h2⟩ := hgoal
  exact ⟨u, H', h2, h1⟩
 refine call_wq fit mixed Tryz.func128 rfl rfl rfl (by kernel_rfl) ?_
 obtain ⟨H1, hH1⟩ : ∃ H1, H ++ [.row [.int .i64 i, .int .i64 h] true] = H1 := ⟨_, rfl⟩
 have p1 : H <+: H1 := by rw [← hH1]; exact List.prefix_append _ _
 have g1 : H1[H.length]? = some (.row [.int .i64 i, .int .i64 h] true) := by rw [← hH1]; simp
 have la := ld_agg T23 rfl g1 rfl
 have c0 := refShapeMay_ H1 i h
 have hsm : shapeMay (i : Int) (h : Int) = true := by simp only [shapeMay, Bool.and_eq_true, within_iff]; omega
 rw [hsm] at c0
 have c1 := upTo1_ H1 s 0 65535
 have c2 := upTo1_ H1 f 0 1048560
 rw [within_iff.2 ⟨by omega, by omega⟩] at c1 c2
 have hsmall : netSize i h ≤ 16 := by have := small_size hi.2 hh.2; unfold netSize; omega
 obtain ⟨n, hn⟩ : ∃ n, netSize i h = n := ⟨_, rfl⟩
 unfold initL
 rw [hn] at hsmall ⊢
 have hi' := hi.2
 have hh' := hh.2
 clear hsm hi hh
 refine goW ?_
 refine l_heap (h' := H1) hH1 ?_
 refine goW ?_
 refine l_callG c0 ?_
 refine goW ?_
 refine l_callG c1 ?_
 refine goW ?_
 refine l_callG c2 ?_
 refine goW ?_
 refine cond_go (fun hb => ?_) (fun hb => ?_)
 ·cases hb
 clear hb c0 c1 c2
 refine goW ?_
 refine wq_loop (fun c ρ hp => ∃ k u, k ≤ n ∧ c = n - k ∧ Mine 1 intC H1 hp u ((List.range k).map (initK s f)) ∧ ρ 1 = .int .i64 s ∧ ρ 2 = .int .i64 f ∧ ρ 3 = .ptr H.length 0 ∧ ρ 8 = u ∧ ρ 9 = .int .i64 (k : Nat)) ⟨0, .nils, Nat.zero_le _, rfl, Mine.nil (List.prefix_refl _), rfl, rfl, rfl, rfl, rfl⟩ ?_
 rintro _ ρ hp ⟨k, u, hk, rfl, hm, h1, h2, h3, h8, h9⟩
 have la2 : loadV T 23 hp H.length 0 = some (.agg [.int .i64 i, .int .i64 h]) := ld_agg T23 rfl (pre_get hm.1 g1) rfl
 have c3 := refsize_ hp i h hi' hh'
 rw [hn] at c3
 clear la
 refine goW ?_
 refine l_callG c3 ?_
 refine goW ?_
 refine cond_go (fun hb => ?_) (fun hb => ?_)
 ·have hk' : k < n := by simpa using hb
  clear hb c3 la2
  have w1 : IntKind.i64.wrap ((f : Int) + (k : Int)) = ((f + k : Nat) : Int) := by rw [← Int.natCast_add]; exact wrap_nat (by omega)
  have c4 := refDraw_ hp s (f + k) hs (by omega)
  have w2 : IntKind.i64.wrap (((drawN s (f + k) : Nat) : Int) - 32768) = initK s f k := by
   have := drawN_lt s (f + k)
   unfold initK
   exact wrap_i64 (by omega) (by omega)
  obtain ⟨v', hp', nw, ap, hm2, _, _⟩ := int_app hm (initK s f k) (by simp; omega)
  rw [range_snoc] at hm2
  have hw := wrap_succ (n := k) (by omega)
  clear hm hs hf
  refine goW ?_
  refine l_callG c4 ?_
  refine goW ?_
  refine l_appendG nw ap ?_
  refine goW ?_
  refine ⟨n - (k + 1), by omega, k + 1, v', hk', rfl, hm2, ?_⟩
  simp [put_app, put_none, *]
 ·have hk' : k = n := by have : ¬ k < n := by simpa using hb
                         omega
  subst hk'
  have hm2 := hm.low p1
  clear hb hm c3 la2
  refine goW ?_
  refine end_ret (by simp only [resRf, resRs, resR]; first | done | rfl) ⟨u, ?_, hm2⟩
  simp [put_app, put_none, *]
theorem refResample_ (H : Heap) (s k : Nat) (hs : s ≤ 65535) (hk : k ≤ 1048575) : Call Tryz.prog 185 [.int .i64 s, .int .i64 k] H (.tup [.agg [.int .i64 (rateN s k : Nat), .int .i64 (momN s k : Nat)], .int .i64 0]) H := by
 refine call_plain fit mixed Tryz.func185 rfl rfl rfl (by kernel_rfl) rfl ?_
 obtain ⟨H1, hH1⟩ : ∃ H1, H ++ [.row [.int .i64 0, .int .i64 0] true] = H1 := ⟨_, rfl⟩
 have p1 : H <+: H1 := by rw [← hH1]; exact List.prefix_append _ _
 have g1 : H1[H.length]? = some (.row [.int .i64 0, .int .i64 0] true) := by rw [← hH1]; simp
 have c1 := upTo1_ H1 s 0 65535
 have c2 := upTo1_ H1 k 0 1048575
 rw [within_iff.2 ⟨by omega, by omega⟩] at c1 c2
 have c3 := refPick_ H1 s k 16321 hs (by omega) (by decide) (by decide)
 have c4 := refPick_ H1 s (k + 1) 58983 hs (by omega) (by decide) (by decide)
 have w0 := wrap_succ (n := k) (by omega)
 have c4' : Call Tryz.prog 174 [.int .i64 s, .int .i64 ((k : Int) + 1), .int .i64 58983] H1 (.tup [.int .i64 (momN s k : Nat), .int .i64 0]) H1 := c4
 have w1 : IntKind.i64.wrap (64 + ((pickN s k 16321 : Nat) : Int)) = ((rateN s k : Nat) : Int) := by
  have h1 := pickN_lt (s := s) (k := k) (b := 16321) (by decide)
  unfold rateN
  rw [wrap_i64 (by omega) (by omega)]; omega
 have hst := agg_store (cells := [V.int .i64 (rateN s k : Nat), V.int .i64 (momN s k : Nat)]) T43 g1 rfl rfl
 obtain ⟨H2, hH2⟩ : ∃ H2, H1.set H.length (.row [V.int .i64 (rateN s k : Nat), V.int .i64 (momN s k : Nat)] true) = H2 := ⟨_, rfl⟩
 rw [hH2] at hst
 have hlt := (List.getElem?_eq_some_iff.1 g1).1
 have p2 : H <+: H2 := by rw [← hH2]; exact pre_set p1 (Nat.le_refl _)
 have ln2 : Heap.loadN H2 H.length 0 2 = some [V.int .i64 (rateN s k : Nat), V.int .i64 (momN s k : Nat)] := by unfold Heap.loadN; rw [← hH2, List.getElem?_set_self hlt]; rfl
 clear c4 hs hk g1 hlt hH2
 refine goW ?_
 refine l_heap (h' := H1) hH1 ?_
 refine goW ?_
 refine l_callG c1 ?_
 refine goW ?_
 refine l_callG c2 ?_
 refine goW ?_
 refine cond_go (fun hb => ?_) (fun hb => ?_)
 ·cases hb
 clear hb
 refine goW ?_
 refine l_callG c3 ?_
 refine goW ?_
 refine l_callG c4' ?_
 refine goW ?_
 refine l_step (s_store eLk eLk hst) ?_
 refine goW ?_
 refine end_ret (v := .tup [.agg [.int .i64 (rateN s k : Nat), .int .i64 (momN s k : Nat)], .int .i64 0]) ?_ ⟨rfl, p2⟩
 simp only [resRf, resRs, resR, put_app, put_none, Nat.reduceEqDiff, reduceIte, Option.some.injEq, reduceCtorEq, T43, ln2]
 rfl
theorem refFirstHyper_ (H : Heap) (s k : Nat) (hs : s ≤ 65535) (hk : k ≤ 7) : Call Tryz.prog 129 [.int .i64 s, .int .i64 k] H (.tup [.agg [.int .i64 (rateN s (40000 + 2 * k) : Nat), .int .i64 (momN s (40000 + 2 * k) : Nat)], .int .i64 0]) H := by
 refine call_plain fit mixed Tryz.func129 rfl rfl rfl (by kernel_rfl) rfl ?_
 obtain ⟨H1, hH1⟩ : ∃ H1, H ++ [.row [.int .i64 0, .int .i64 0] true] = H1 := ⟨_, rfl⟩
 have p1 : H <+: H1 := by rw [← hH1]; exact List.prefix_append _ _
 have g1 : H1[H.length]? = some (.row [.int .i64 0, .int .i64 0] true) := by rw [← hH1]; simp
 have c1 := upTo1_ H1 s 0 65535
 have c2 := upTo1_ H1 k 0 7
 rw [within_iff.2 ⟨by omega, by omega⟩] at c1 c2
 obtain ⟨q, hq⟩ : ∃ q, 40000 + 2 * k = q := ⟨_, rfl⟩
 have c3 := refResample_ H1 s q hs (by omega)
 have w0 : IntKind.i64.wrap (2 * (k : Int)) = ((2 * k : Nat) : Int) := by rw [show 2 * (k : Int) = ((2 * k : Nat) : Int) by omega]; exact wrap_nat (by omega)
 have w1 : IntKind.i64.wrap (40000 + ((2 * k : Nat) : Int)) = (q : Int) := by rw [wrap_i64 (by omega) (by omega)]; omega
 rw [hq]
 have hst := agg_store (cells := [V.int .i64 (rateN s q : Nat), V.int .i64 (momN s q : Nat)]) T43 g1 rfl rfl
 obtain ⟨H2, hH2⟩ : ∃ H2, H1.set H.length (.row [V.int .i64 (rateN s q : Nat), V.int .i64 (momN s q : Nat)] true) = H2 := ⟨_, rfl⟩
 rw [hH2] at hst
 have hlt := (List.getElem?_eq_some_iff.1 g1).1
 have p2 : H <+: H2 := by rw [← hH2]; exact pre_set p1 (Nat.le_refl _)
 have ln2 : Heap.loadN H2 H.length 0 2 = some [V.int .i64 (rateN s q : Nat), V.int .i64 (momN s q : Nat)] := by unfold Heap.loadN; rw [← hH2, List.getElem?_set_self hlt]; rfl
 clear hs hk g1 hlt hH2 hq
 refine goW ?_
 refine l_heap (h' := H1) hH1 ?_
 refine goW ?_
 refine l_callG c1 ?_
 refine goW ?_
 refine l_callG c2 ?_
 refine goW ?_
 refine cond_go (fun hb => ?_) (fun hb => ?_)
 ·cases hb
 clear hb
 refine goW ?_
 refine l_callG c3 ?_
 repeat (first | refine l_go ?_ (by first | exact s_extract eLk (by rfl)))
 refine l_step (s_store eLk eLk hst) ?_
 refine goW ?_
 refine end_ret (v := .tup [.agg [.int .i64 (rateN s q : Nat), .int .i64 (momN s q : Nat)], .int .i64 0]) ?_ ⟨rfl, p2⟩
 simp only [resRf, resRs, resR, put_app, put_none, Nat.reduceEqDiff, reduceIte, Option.some.injEq, reduceCtorEq, T43, ln2]
 rfl
end Go.Proofs.YtaofdhgkgklppaaGreat.VM
