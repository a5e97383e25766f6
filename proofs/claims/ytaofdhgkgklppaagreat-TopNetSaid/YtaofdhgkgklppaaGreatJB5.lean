/- Joined texts: ConfC, NetD, NetE, OptA, NetF, NetG, NetH, NetI, BackA, BackB, TrainA, TrainB. -/
import Derived.Test.YtaofdhgkgklppaaGreatJB4
namespace Go.Proofs.YtaofdhgkgklppaaGreat.VM
open Go
set_option linter.unusedVariables false
set_option linter.unusedSimpArgs false
attribute [local irreducible] wq wqL wqD wqE wqO Th Bk EndR
set_option maxHeartbeats 8000000
theorem confId_ (H : Heap) (b : Nat) (m id : Int) (hb : H.loadN b 0 1 = some [.int .i64 m]) : Call Tryz.prog 60 [.ptr b 0, .int .i64 id] H (.bool (within id 0 (IntKind.i64.wrap (m - 1)))) H := by
 refine call_plain fit mixed Tryz.func60 rfl rfl rfl (by kernel_rfl) rfl ?_
 have l0 := loadV_one T3 rfl hb
 refine goW ?_
 refine l_callG (confWithin_ _ _ _ _) ?_
 refine goW ?_
 refine end_finG ?_; simp [put_app, put_none, *]
theorem fill_two {u v : V} (h1 : u.cells = [u] ∧ u.isTup = false) (h2 : v.cells = [v] ∧ v.isTup = false) (z : V) : fillV (rowPlace 1 2) (zeros [z] 2) [(0, u), (1, v)] = some [u, v] := by
 simp [fillV, rowPlace, zeros, h1.1, h1.2, h2.1, h2.2, setL]
theorem fill_three {u v w : V} (h1 : u.cells = [u] ∧ u.isTup = false) (h2 : v.cells = [v] ∧ v.isTup = false) (h3 : w.cells = [w] ∧ w.isTup = false) (z : V) : fillV (rowPlace 1 3) (zeros [z] 3) [(0, u), (1, v), (2, w)] = some [u, v, w] := by
 simp [fillV, rowPlace, zeros, h1.1, h1.2, h2.1, h2.2, h3.1, h3.2, setL]
theorem one_cells : ∀ us : List V, Cells 1 oneC us us
 | [] => Cells.nil
 | u :: us => Cells.cons (cs := [u]) rfl rfl (one_cells us)
def chkMay (ws vs : List Int) (r m t : Int) : Bool := (((alike ws.length [ws, vs] && decide (ws.length > 0)) && hyperMay r m) && decide (t ≥ 0)) && decide (t ≤ 32)
abbrev chkC (w v : V) (r m t : Int) : List V := [w, v, .int .i64 r, .int .i64 m, .int .i64 t]
theorem chkMay_ (H : Heap) (w v : V) (ws vs : List Int) (r m t : Int) (hw : Sl 1 intC H w ws) (hv : Sl 1 intC H v vs) (lw : ws.length ≤ 2 ^ 47) (lv : vs.length ≤ 2 ^ 47) : Call Tryz.prog 149 [.agg (chkC w v r m t)] H (.bool (chkMay ws vs r m t)) H := by
 refine call_plain fit mixed Tryz.func149 rfl rfl rfl (by kernel_rfl) rfl ?_
 obtain ⟨H1, hH1⟩ : ∃ H1, H ++ [.row (chkC w v r m t) true] = H1 := ⟨_, rfl⟩
 have p1 : H <+: H1 := by rw [← hH1]; exact List.prefix_append _ _
 obtain ⟨H2, hH2⟩ : ∃ H2, H1 ++ [.row [w, v] true] = H2 := ⟨_, rfl⟩
 have p2 : H1 <+: H2 := by rw [← hH2]; exact List.prefix_append _ _
 have hg1 : H1[H.length]? = some (.row (chkC w v r m t) true) := by rw [← hH1]; simp
 have hg : H2[H.length]? = some (.row (chkC w v r m t) true) := pre_get p2 hg1
 have k0 := ld_cell (q := 0) T27 rfl hg1 rfl
 have k1 := ld_cell (q := 1) T27 rfl hg1 rfl
 have l0 := ld_cell (q := 0) T27 rfl hg rfl
 have l4 := ld_cell (q := 4) T3 rfl hg rfl
 have l2 : loadV T 43 H2 H.length 2 = some (.agg [.int .i64 r, .int .i64 m]) := by
  refine loadV_agg T43 rfl (loadN_pre p2 ?_)
  rw [← hH1, loadN_app0]; rfl
 have hfill := fill_two hw.cells hv.cells .nils
 have hlen := hw.len T27 rfl
 have hal : Sl 1 oneC H2 (.slc H1.length 0 2 2 true 1) [w, v] := by rw [← hH2]; exact (own_make H1 (one_cells [w, v])).sl
 have c1 := alike_ H2 _ [w, v] [ws, vs] ws.length hal rfl (by simp) (fun k u xs hu hx => by
  match k, hu, hx with
  | 0, hu, hx => simp at hu hx; subst hu; subst hx; exact ⟨hw.mono (p1.trans p2), lw⟩
  | 1, hu, hx => simp at hu hx; subst hu; subst hx; exact ⟨hv.mono (p1.trans p2), lv⟩
  | k + 2, hu, hx => simp at hu) (fun xs hx => by simp at hx; rw [hx])
 have c2 := hyperMayP H2 r m
 have pend := p1.trans p2
 unfold chkMay
 obtain ⟨r1, e1⟩ : ∃ q, alike ws.length [ws, vs] = q := ⟨_, rfl⟩
 obtain ⟨r2, e2⟩ : ∃ q, hyperMay r m = q := ⟨_, rfl⟩
 rw [e1] at c1 ⊢
 rw [e2] at c2 ⊢
 have hd : decide ((ws.length : Int) > 0) = decide (ws.length > 0) := by apply Bool.eq_iff_iff.2; simp
 obtain ⟨r3, e3⟩ : ∃ q, decide (ws.length > 0) = q := ⟨_, rfl⟩
 obtain ⟨r4, e4⟩ : ∃ q, decide (t ≥ 0) = q := ⟨_, rfl⟩
 obtain ⟨r5, e5⟩ : ∃ q, decide (t ≤ 32) = q := ⟨_, rfl⟩
 rw [e3] at hd ⊢
 rw [e4, e5]
 clear e1 e2 e3 hw hv lw lv hg hg1 hal p1 p2
 refine goW ?_
 refine l_heap (h' := H1) hH1 ?_
 refine goW ?_
 refine l_step (s_buildSlice (ie := (T 27).get!) T238 rfl T27 eLk (by decide) hfill) ?_
 refine l_heap (h' := H2) hH2 ?_
 refine l_callG c1 ?_
 cases r1
 ·refine goW ?_
  refine end_ret (by simp only [resRf, resRs, resR]; first | done | rfl) ⟨?_, pend⟩
  simp [put_app, put_none]
 cases r3
 ·refine goW ?_
  refine end_ret (by simp only [resRf, resRs, resR]; first | done | rfl) ⟨?_, pend⟩
  simp [put_app, put_none]
 refine goW ?_
 refine l_callG c2 ?_
 cases r2
 ·refine goW ?_
  refine end_ret (by simp only [resRf, resRs, resR]; first | done | rfl) ⟨?_, pend⟩
  simp [put_app, put_none]
 cases r4
 ·refine goW ?_
  refine end_ret (by simp only [resRf, resRs, resR]; first | done | rfl) ⟨?_, pend⟩
  simp [put_app, put_none]
 refine goW ?_
 refine end_ret (by simp only [resRf, resRs, resR]; first | done | rfl) ⟨?_, pend⟩
 simp [put_app, put_none]
def memFits (i h : Int) (ws vs : List Int) (r m t : Int) : Bool := chkMay ws vs r m t && fits i h ws
theorem memFits_ (H : Heap) (cb kb : Nat) (c : Cfg) (rv w v : V) (ws vs : List Int) (r m t : Int) (hc : H[cb]? = some (.row (cfgC c rv) true)) (hk : H[kb]? = some (.row (chkC w v r m t) true)) (hw : Sl 1 intC H w ws) (hv : Sl 1 intC H v vs) (lw : ws.length ≤ 2 ^ 47) (lv : vs.length ≤ 2 ^ 47) :
  Call Tryz.prog 74 [.ptr cb 0, .ptr kb 0] H (.bool (memFits c.i c.h ws vs r m t)) H := by
 refine call_plain fit mixed Tryz.func74 rfl rfl rfl (by kernel_rfl) rfl ?_
 have l0 := ld_agg T45 rfl hk rfl
 have l1 : loadV T 23 H cb 1 = some (.agg [.int .i64 c.i, .int .i64 c.h]) := by
  refine loadV_agg T23 rfl ?_
  unfold Heap.loadN
  rw [hc]; rfl
 have l2 := ld_cell (q := 0) T27 rfl hk rfl
 have c1 := chkMay_ H w v ws vs r m t hw hv lw lv
 have c2 := shapeFits_ H c.i c.h w ws hw lw
 unfold memFits
 obtain ⟨r1, e1⟩ : ∃ q, chkMay ws vs r m t = q := ⟨_, rfl⟩
 rw [e1] at c1 ⊢
 clear e1 hw hv lw lv hc hk
 cases r1
 ·refine goW ?_
  refine d_call0G c1 ?_
  refine goW ?_
  refine end_finG ?_; simp [put_app, put_none, *]
 ·refine goW ?_
  refine d_call0G c1 ?_
  refine goW ?_
  refine d_call0G c2 ?_
  refine goW ?_
  refine end_finG ?_; simp [put_app, put_none, *]
theorem unit_end {i h k : Nat} (hk : k < h) : k * (i + 1) + i < h * (i + 1) := by
 have := Nat.mul_le_mul_right (i + 1) (Nat.succ_le_of_lt hk)
 rw [Nat.succ_mul] at this
 omega
theorem small_size {i h : Nat} (hi : i ≤ 3) (hh : h ≤ 3) : h * (i + 1) ≤ 12 := Nat.le_trans (Nat.mul_le_mul hh (Nat.add_le_add_right hi 1)) (by decide)
theorem getD_some {xs : List Int} {k : Nat} (h : k < xs.length) : xs[k]? = some (xs.getD k 0) := by simp [List.getD_eq_getElem?_getD, h]
theorem unit_ (H : Heap) (b : Nat) (i h k : Nat) (w : V) (ws : List Int) (hn : NetAt H b i h w) (hw : Sl 1 intC H w ws) (hs : ws.length = netSize i h) (hi : i ≤ 3) (hh : h ≤ 3) (hk : k < h) :
  ∃ u, Call Tryz.prog 162 [.ptr b 0, .int .i64 k] H (.tup [u, .int .i64 (ws.getD (k * (i + 1) + i) 0)]) H ∧ Sl 1 intC H u ((ws.drop (k * (i + 1))).take i) := by
 have hsm := small_size hi hh
 have hue := unit_end (i := i) hk
 have hns : netSize i h = h * (i + 1) + h + 1 := rfl
 obtain ⟨a, ha⟩ : ∃ a, k * (i + 1) = a := ⟨_, rfl⟩
 rw [ha] at hue ⊢
 obtain ⟨u, hu, hus⟩ := hw.part (l := a) (k := a + i) (by omega) (by omega)
 rw [List.drop_take, Nat.add_sub_cancel_left] at hus
 refine ⟨u, ?_, hus⟩
 have hget := getD_some (xs := ws) (k := a + i) (by omega)
 obtain ⟨b2, o2, _, hi2, rfl, _, hlo2, _⟩ := hw.get T27 rfl T3 rfl hget
 have ho2 := loadV_one T3 rfl hlo2
 have l0 := loadV_one T3 rfl hn.a0
 have l2 := loadV_one T27 rfl hn.a2
 have w1 : IntKind.i64.wrap ((i : Int) + 1) = ((i + 1 : Nat) : Int) := wrap_succ (by omega)
 have w2 : IntKind.i64.wrap ((k : Int) * ((i + 1 : Nat) : Int)) = (a : Int) := by rw [← Int.natCast_mul, ha]; exact wrap_nat (by omega)
 have w3 : IntKind.i64.wrap ((a : Int) + (i : Int)) = ((a + i : Nat) : Int) := by rw [← Int.natCast_add]; exact wrap_nat (by omega)
 obtain ⟨r, hr⟩ : ∃ r, ws.getD (a + i) 0 = r := ⟨_, rfl⟩
 rw [hr] at ho2 ⊢
 clear hsm hue hns ha hus hget hr hs hi hh hk hlo2 hw hn
 suffices hh : ∃ v H', (v = .tup [u, .int .i64 r] ∧ H' = H) ∧ Call Tryz.prog 162 [.ptr b 0, .int .i64 k] H v H' by
  obtain ⟨v, H', ⟨rfl, rfl⟩, h4⟩ := hh
  exact h4
 refine call_wq fit mixed Tryz.func162 rfl rfl rfl (by kernel_rfl) ?_
 refine goW ?_
 refine end_ret (by simp only [resRf, resRs, resR]; first | done | rfl) ⟨?_, rfl⟩
 simp [put_app, put_none]
theorem last_ (H : Heap) (b : Nat) (i h : Nat) (w : V) (ws : List Int) (hn : NetAt H b i h w) (hw : Sl 1 intC H w ws) (hs : ws.length = netSize i h) (hi : i ≤ 3) (hh : h ≤ 3) :
  ∃ u, Call Tryz.prog 160 [.ptr b 0] H (.tup [u, .int .i64 (ws.getD (h * (i + 1) + h) 0)]) H ∧ Sl 1 intC H u ((ws.drop (h * (i + 1))).take h) := by
 have hsm := small_size hi hh
 have hns : netSize i h = h * (i + 1) + h + 1 := rfl
 obtain ⟨a, ha⟩ : ∃ a, h * (i + 1) = a := ⟨_, rfl⟩
 rw [ha] at hsm hns ⊢
 obtain ⟨u, hu, hus⟩ := hw.part (l := a) (k := a + h) (by omega) (by omega)
 rw [List.drop_take, Nat.add_sub_cancel_left] at hus
 refine ⟨u, ?_, hus⟩
 have hget := getD_some (xs := ws) (k := a + h) (by omega)
 obtain ⟨b2, o2, _, hi2, rfl, _, hlo2, _⟩ := hw.get T27 rfl T3 rfl hget
 have ho2 := loadV_one T3 rfl hlo2
 have l0 := loadV_one T3 rfl hn.a0
 have l1 := loadV_one T3 rfl hn.a1
 have l2 := loadV_one T27 rfl hn.a2
 have w1 : IntKind.i64.wrap ((i : Int) + 1) = ((i + 1 : Nat) : Int) := wrap_succ (by omega)
 have w2 : IntKind.i64.wrap ((h : Int) * ((i + 1 : Nat) : Int)) = (a : Int) := by rw [← Int.natCast_mul, ha]; exact wrap_nat (by omega)
 have w3 : IntKind.i64.wrap ((a : Int) + (h : Int)) = ((a + h : Nat) : Int) := by rw [← Int.natCast_add]; exact wrap_nat (by omega)
 obtain ⟨r, hr⟩ : ∃ r, ws.getD (a + h) 0 = r := ⟨_, rfl⟩
 rw [hr] at ho2 ⊢
 clear hsm hns ha hus hget hr hs hi hh hlo2 hw hn
 suffices hh : ∃ v H', (v = .tup [u, .int .i64 r] ∧ H' = H) ∧ Call Tryz.prog 160 [.ptr b 0] H v H' by
  obtain ⟨v, H', ⟨rfl, rfl⟩, h4⟩ := hh
  exact h4
 refine call_wq fit mixed Tryz.func160 rfl rfl rfl (by kernel_rfl) ?_
 refine goW ?_
 refine end_ret (by simp only [resRf, resRs, resR]; first | done | rfl) ⟨?_, rfl⟩
 simp [put_app, put_none]
def fillTo (f : Nat → Int) (n k : Nat) : List Int := (List.range k).map f ++ List.replicate (n - k) 0
theorem fillTo_len {f : Nat → Int} {n k : Nat} (h : k ≤ n) : (fillTo f n k).length = n := by simp [fillTo]; omega
theorem fillTo_set {f : Nat → Int} {n k : Nat} (h : k < n) : (fillTo f n k).set k (f k) = fillTo f n (k + 1) := by
 unfold fillTo
 rw [List.range_succ, List.map_append, List.append_assoc]
 obtain ⟨m, hm⟩ : ∃ m, n - k = m + 1 := ⟨n - k - 1, by omega⟩
 have h2 : n - (k + 1) = m := by omega
 rw [hm, h2, List.replicate_succ, List.set_append_right _ _ (by simp)]
 simp
theorem fillTo_zero (f : Nat → Int) (n : Nat) : fillTo f n 0 = List.replicate n 0 := by simp [fillTo]
theorem fillTo_all (f : Nat → Int) (n : Nat) : fillTo f n n = (List.range n).map f := by simp [fillTo]
theorem int_store {B H : Heap} {v : V} {xs : List Int} (h : Mine 1 intC B H v xs) {k : Nat} (hk : k < xs.length) (y : Int) :
  ∃ b o H', idxV T 27 v (k : Int) = some (.ptr b o) ∧ storeV T 3 H b o (.int .i64 y) = some H' ∧ Mine 1 intC B H' v (xs.set k y) := by
 obtain ⟨b, o, h1, h2⟩ := h.store T27 rfl T3 rfl hk
 obtain ⟨H', h3, h4⟩ := h2 (.int .i64 y) y rfl rfl rfl
 exact ⟨b, o, H', h1, h3, h4⟩
theorem int_make (H : Heap) (n : Nat) : Mine 1 intC H (H ++ [.row (zeros [.int .i64 0] n) true]) (.slc H.length 0 n n true 1) (List.replicate n 0) := by
 have := mine_make (t := true) (List.prefix_refl H) (cells_zeros (z := [.int .i64 0]) (R := intC) (x := 0) rfl rfl n)
 rw [List.length_replicate] at this
 exact this
theorem units_ (H : Heap) (b : Nat) (i h : Nat) (w x : V) (ws xs : List Int) (hn : NetAt H b i h w) (hw : Sl 1 intC H w ws) (hx : Sl 1 intC H x xs) (hs : ws.length = netSize i h) (hi : i ≤ 3) (hh : h ≤ 3) (hxs : xs.length = i) :
  ∃ u H', Call Tryz.prog 82 [.ptr b 0, x] H u H' ∧ Mine 1 intC H H' u (units i h ws xs) := by
 suffices hgoal : ∃ u H', Mine 1 intC H H' u (units i h ws xs) ∧ Call Tryz.prog 82 [.ptr b 0, x] H u H' by
  obtain ⟨u, H', h1, h2⟩ := hgoal
  exact ⟨u, H', h2, h1⟩
 refine call_wq fit mixed Tryz.func82 rfl rfl rfl (by kernel_rfl) ?_
 have l1 := loadV_one T3 rfl hn.a1
 have hm0 := int_make H h
 rw [← fillTo_zero (unit i ws xs)] at hm0
 have hlen := hm0.sl.len T27 rfl
 rw [fillTo_len (Nat.zero_le _)] at hlen
 refine goW ?_
 refine l_makeG T27 rfl T3 ?_
 refine l_heap (h' := H ++ [.row (zeros [.int .i64 0] h) true]) rfl ?_
 refine goW ?_
 refine wq_loop (fun c ρ hp => ∃ k, k ≤ h ∧ c = h - k ∧ Mine 1 intC H hp (.slc H.length 0 h h true 1) (fillTo (unit i ws xs) h k) ∧ ρ 0 = .ptr b 0 ∧ ρ 1 = x ∧ ρ 5 = .slc H.length 0 h h true 1 ∧ ρ 16 = .int .i64 h ∧ ρ 17 = .int .i64 (k : Nat)) ⟨0, Nat.zero_le _, rfl, hm0, rfl, rfl, rfl, rfl, rfl⟩ ?_
 rintro _ ρ hp ⟨k, hk, rfl, hm, h0, h1, h5, h16, h17⟩
 have hpre := hm.1
 refine goW ?_
 refine cond_go (fun hb => ?_) (fun hb => ?_)
 ·have hk' : k < h := by simpa using hb
  clear hb
  obtain ⟨uu, c1, hu⟩ := unit_ hp b i h k w ws (hn.mono hpre) (hw.mono hpre) hs hi hh hk'
  have hul : ((ws.drop (k * (i + 1))).take i).length ≤ i := by simp; omega
  have c2 := vecSum_ hp uu x _ xs hu (hx.mono hpre) (by omega) (by omega)
  have c3 := fixAnd_ hp (ws.getD (k * (i + 1) + i) 0) (dot ((ws.drop (k * (i + 1))).take i) xs)
  obtain ⟨b2, o2, hq, hi2, hst, hm2⟩ := int_store hm (k := k) (by rw [fillTo_len hk]; exact hk') (unit i ws xs k)
  rw [fillTo_set hk'] at hm2
  have c4 : Call Tryz.prog 80 _ hp (.int .i64 (unit i ws xs k)) hp := c3
  have hw := wrap_succ (n := k) (by omega)
  clear c3 hul hpre hn hu hx l1
  refine goW ?_
  refine l_callG c1 ?_
  refine goW ?_
  refine l_callG c2 ?_
  refine goW ?_
  refine l_callG c4 ?_
  refine goW ?_
  refine ⟨h - (k + 1), by omega, k + 1, hk', rfl, hm2, ?_⟩
  simp [put_app, put_none, *]
 ·have hk' : k = h := by have : ¬ k < h := by simpa using hb
                         omega
  subst hk'
  rw [fillTo_all] at hm
  clear hb
  refine goW ?_
  refine end_ret (by simp only [resRf, resRs, resR]; first | done | rfl) ?_
  simp only [put_app, put_none]
  simp only [Nat.reduceEqDiff, reduceIte, Option.some.injEq, reduceCtorEq, h5]
  exact hm
theorem acts_ (H : Heap) (x : V) (hs : List Int) (hx : Sl 1 intC H x hs) (hl : hs.length ≤ 2 ^ 40) :
  ∃ u H', Call Tryz.prog 161 [x] H u H' ∧ Mine 1 intC H H' u (acts hs) := by
 suffices hgoal : ∃ u H', Mine 1 intC H H' u (acts hs) ∧ Call Tryz.prog 161 [x] H u H' by
  obtain ⟨u, H', h1, h2⟩ := hgoal
  exact ⟨u, H', h2, h1⟩
 refine call_wq fit mixed Tryz.func161 rfl rfl rfl (by kernel_rfl) ?_
 obtain ⟨n, hn⟩ : ∃ n, hs.length = n := ⟨_, rfl⟩
 have hlen := hx.len T27 rfl
 rw [hn] at hlen
 obtain ⟨f, hf⟩ : ∃ f : Nat → Int, f = fun j => hard (hs.getD j 0) := ⟨_, rfl⟩
 have hall : (List.range n).map f = acts hs := by
  subst hf
  apply List.ext_getElem
  ·simp [acts, hn]
  ·intro j h1 h2
   simp [acts] at h2 ⊢
   simp [List.getD_eq_getElem?_getD, h2]
 have hm0 := int_make H n
 rw [← fillTo_zero f] at hm0
 refine goW ?_
 refine l_makeG T27 rfl T3 ?_
 refine l_heap (h' := H ++ [.row (zeros [.int .i64 0] n) true]) rfl ?_
 refine goW ?_
 refine wq_loop (fun c ρ hp => ∃ k, k ≤ n ∧ c = n - k ∧ Mine 1 intC H hp (.slc H.length 0 n n true 1) (fillTo f n k) ∧ ρ 3 = .slc H.length 0 n n true 1 ∧ ρ 9 = x ∧ ρ 10 = .int .i64 n ∧ ρ 11 = .int .i64 (k : Nat)) ⟨0, Nat.zero_le _, rfl, hm0, rfl, rfl, rfl, rfl⟩ ?_
 rintro _ ρ hp ⟨k, hk, rfl, hm, h3, h9, h10, h11⟩
 refine goW ?_
 refine cond_go (fun hb => ?_) (fun hb => ?_)
 ·have hk' : k < n := by simpa using hb
  clear hb
  have hget := getD_some (xs := hs) (k := k) (by omega)
  obtain ⟨b, o, _, hi, rfl, _, hlo, _⟩ := (hx.mono hm.1).get T27 rfl T3 rfl hget
  have ho := loadV_one T3 rfl hlo
  obtain ⟨b2, o2, hq, hi2, hst, hm2⟩ := int_store hm (k := k) (by rw [fillTo_len hk]; exact hk') (f k)
  rw [fillTo_set hk'] at hm2
  have c1 := actHard_ hp (hs.getD k 0)
  have hfk : hard (hs.getD k 0) = f k := by rw [hf]
  rw [hfk] at c1
  have hw := wrap_succ (n := k) (by omega)
  clear hfk hf hall hx hget hlo hm0 hlen
  refine goW ?_
  refine l_callG c1 ?_
  refine goW ?_
  refine ⟨n - (k + 1), by omega, k + 1, hk', rfl, hm2, ?_⟩
  simp [put_app, put_none, *]
 ·have hk' : k = n := by have : ¬ k < n := by simpa using hb
                         omega
  subst hk'
  rw [fillTo_all, hall] at hm
  clear hb hf
  refine goW ?_
  refine end_ret (by simp only [resRf, resRs, resR]; first | done | rfl) ?_
  simp only [put_app, put_none]
  simp only [Nat.reduceEqDiff, reduceIte, Option.some.injEq, reduceCtorEq, h3]
  exact hm
theorem tells_ (H : Heap) (b : Nat) (i h : Nat) (w x : V) (ws hs : List Int) (hn : NetAt H b i h w) (hw : Sl 1 intC H w ws) (hx : Sl 1 intC H x hs) (hsz : ws.length = netSize i h) (hi : i ≤ 3) (hh : h ≤ 3) (hxs : hs.length = h) :
  Call Tryz.prog 81 [.ptr b 0, x] H (.int .i64 (tells i h ws hs)) H := by
 refine call_plain fit mixed Tryz.func81 rfl rfl rfl (by kernel_rfl) rfl ?_
 obtain ⟨u, c1, hu⟩ := last_ H b i h w ws hn hw hsz hi hh
 obtain ⟨a, H1, c2, hm⟩ := acts_ H x hs hx (by omega)
 have c3 := vecSum_ H1 u a _ _ (hu.mono hm.1) hm.sl (by simp [acts]; omega) (by simp; omega)
 have c4 := fixAnd_ H1 (ws.getD (h * (i + 1) + h) 0) (dot ((ws.drop (h * (i + 1))).take h) (acts hs))
 have c5 : Call Tryz.prog 80 _ H1 (.int .i64 (tells i h ws hs)) H1 := c4
 have hp := hm.1
 clear c4 hm hn hw hx hsz hi hh hxs hu
 refine goW ?_
 refine l_callG c1 ?_
 refine goW ?_
 refine l_callG c2 ?_
 refine goW ?_
 refine l_callG c3 ?_
 refine goW ?_
 refine l_callG c5 ?_
 refine goW ?_
 refine end_ret (by simp only [resRf, resRs, resR]; first | done | rfl) ⟨?_, hp⟩
 simp [put_app, put_none]
theorem vecMay_part {ws : List Int} (h : vecMay ws = true) (a n : Nat) : vecMay ((ws.drop a).take n) = true := by
 simp only [vecMay, Bool.and_eq_true, decide_eq_true_eq, List.all_eq_true] at h ⊢
 refine ⟨by simp; omega, fun x hx => h.2 x ?_⟩
 exact List.mem_of_mem_drop (List.mem_of_mem_take hx)
theorem vecMay_len {ws : List Int} (h : vecMay ws = true) : ws.length ≤ 16 := by
 simp only [vecMay, Bool.and_eq_true, decide_eq_true_eq] at h; exact h.1
theorem hard_may (x : Int) : fixMay (hard x) = true := by
 have := clip_mem x (a := -65536) (b := 65536) (by decide)
 unfold hard
 exact within_iff.2 ⟨by omega, by omega⟩
theorem vecMay_acts {hs : List Int} (h : hs.length ≤ 16) : vecMay (acts hs) = true := by
 simp only [vecMay, Bool.and_eq_true, decide_eq_true_eq, List.all_eq_true]
 refine ⟨by simpa [acts] using h, fun x hx => ?_⟩
 obtain ⟨y, _, rfl⟩ := List.mem_map.1 hx
 exact hard_may y
theorem fits_split {i h : Int} {ws : List Int} (hf : fits i h ws = true) : shapeMay i h = true ∧ vecMay ws = true ∧ ∃ i' h' : Nat, i = i' ∧ h = h' ∧ 1 ≤ i' ∧ i' ≤ 3 ∧ 1 ≤ h' ∧ h' ≤ 3 ∧ ws.length = netSize i' h' := by
 simp only [fits, Bool.and_eq_true, decide_eq_true_eq] at hf
 obtain ⟨⟨h1, h2⟩, h3⟩ := hf
 obtain ⟨i', h', rfl, rfl, a, b, c, d⟩ := shape_nat h1
 refine ⟨h1, h2, i', h', rfl, rfl, a, b, c, d, ?_⟩
 rw [← size_cast] at h3
 exact Int.ofNat_inj.1 h3
theorem feeds_split {i : Int} {xs : List Int} (hf : feeds i xs = true) : (xs.length : Int) = i ∧ vecMay xs = true := by
 simpa only [feeds, Bool.and_eq_true, decide_eq_true_eq] using hf
theorem refAct_ (H : Heap) (x : Int) (hx : fixMay x = true) : Call Tryz.prog 217 [.int .i64 x] H (.tup [.int .i64 (hard x), .int .i64 0]) H := by
 refine call_plain fit mixed Tryz.func217 rfl rfl rfl (by kernel_rfl) rfl ?_
 have c1 := refFixMay_ H x
 rw [hx] at c1
 have c2 := refWithin_ H x (-65536) 65536 (by decide)
 have c3 : Call Tryz.prog 218 _ H (.int .i64 (hard x)) H := c2
 clear hx c2
 refine goW ?_
 refine l_callG c1 ?_
 refine goW ?_
 refine cond_go (fun hb => ?_) (fun hb => ?_)
 ·cases hb
 refine goW ?_
 refine l_callG c3 ?_
 refine goW ?_
 refine end_finG ?_; simp [put_app, put_none, *]
theorem refSlope_ (H : Heap) (x : Int) (hx : fixMay x = true) : Call Tryz.prog 180 [.int .i64 x] H (.tup [.int .i64 (rise x), .int .i64 0]) H := by
 refine call_plain fit mixed Tryz.func180 rfl rfl rfl (by kernel_rfl) rfl ?_
 have c1 := refFixMay_ H x
 rw [hx] at c1
 clear hx
 refine goW ?_
 refine l_callG c1 ?_
 refine goW ?_
 refine cond_go (fun hb => ?_) (fun hb => ?_)
 ·cases hb
 clear hb
 repeat' (first | (refine l_pl ?_; refine l_go ?_) | (refine d_pl ?_; refine d_go ?_) | (refine l_gd ?_; first | refine l_onG ?_ | refine l_offG ?_) | (refine d_gd ?_; first | refine d_onG ?_ | refine d_offG ?_) | refine wq_seq ?_ | refine wq_line ?_ | refine wq_draw (by decide +kernel) ?_ | refine wq_block ?_ | refine l_nil ?_ | refine d_nil ?_ | refine wq_skip ?_ | refine wq_ret ?_ | refine wq_exit ?_ | refine th_normal ?_ | refine th_ret ?_ | refine th_exit ?_ | refine bk_normal ?_ | refine bk_ret ?_ | refine bk_exit ?_ | refine bk_other rfl ?_ | first | refine l_partG (fun hb => ?_) (fun hb => ?_) | refine d_partG (fun hb => ?_) (fun hb => ?_))
 all_goals refine cond_go (fun hb => ?_) (fun hb => ?_)
 all_goals (repeat (first | (refine l_pl ?_; refine l_go ?_) | (refine d_pl ?_; refine d_go ?_) | (refine l_gd ?_; first | refine l_onG ?_ | refine l_offG ?_) | (refine d_gd ?_; first | refine d_onG ?_ | refine d_offG ?_) | refine wq_seq ?_ | refine wq_line ?_ | refine wq_draw (by decide +kernel) ?_ | refine wq_block ?_ | refine l_nil ?_ | refine d_nil ?_ | refine wq_skip ?_ | refine wq_ret ?_ | refine wq_exit ?_ | refine th_normal ?_ | refine th_ret ?_ | refine th_exit ?_ | refine bk_normal ?_ | refine bk_ret ?_ | refine bk_exit ?_ | refine bk_other rfl ?_))
 all_goals refine end_finG ?_; simp [put_app, put_none, *]
 all_goals simp_all [rise]
 all_goals (first | done | omega)
theorem int_append {B H : Heap} {v : V} {xs : List Int} (h : Mine 1 intC B H v xs) (y : Int) (hl : xs.length ≤ 2 ^ 40) :
  ∃ v' H', newsOf T (T 3).get! 27 (.slc H.length 0 1 1 true 1) (H ++ [.row [.int .i64 y] true]) = some (1, [.int .i64 y]) ∧ appendV (T 3).get! v 1 [.int .i64 y] (H ++ [.row [.int .i64 y] true]) = some (v', H') ∧ Mine 1 intC B H' v' (xs ++ [y]) := by
 obtain ⟨v', H', h1, h2⟩ := (h.pre (List.prefix_append H [.row [.int .i64 y] true])).append (ie := (T 3).get!) rfl (Cells.one (R := intC) (cs := [.int .i64 y]) (x := y) rfl rfl) ⟨by show (xs.length + 1) * 8 ≤ _; omega, by simp; omega⟩
 exact ⟨v', H', news_row T27 rfl (by decide) rfl, h1, h2⟩
theorem range_snoc (f : Nat → Int) (k : Nat) : (List.range k).map f ++ [f k] = (List.range (k + 1)).map f := by rw [List.range_succ, List.map_append]; rfl
theorem refActs_ (H : Heap) (x : V) (hs : List Int) (hx : Sl 1 intC H x hs) (hl : hs.length ≤ 2 ^ 40) (hmay : ∀ y ∈ hs, fixMay y = true) :
  ∃ u H', Call Tryz.prog 178 [x] H u H' ∧ Mine 1 intC H H' u (acts hs) := by
 suffices hgoal : ∃ u H', Mine 1 intC H H' u (acts hs) ∧ Call Tryz.prog 178 [x] H u H' by
  obtain ⟨u, H', h1, h2⟩ := hgoal
  exact ⟨u, H', h2, h1⟩
 refine call_wq fit mixed Tryz.func178 rfl rfl rfl (by kernel_rfl) ?_
 obtain ⟨n, hn⟩ : ∃ n, hs.length = n := ⟨_, rfl⟩
 have hlen := hx.len T27 rfl
 rw [hn] at hlen
 refine goW ?_
 refine wq_loop (fun c ρ hp => ∃ k u, k ≤ n ∧ c = n - k ∧ Mine 1 intC H hp u (acts (hs.take k)) ∧ ρ 0 = x ∧ ρ 3 = u ∧ ρ 4 = .int .i64 (k : Nat)) ⟨0, .nils, Nat.zero_le _, rfl, Mine.nil (List.prefix_refl _), rfl, rfl, rfl⟩ ?_
 rintro _ ρ hp ⟨k, u, hk, rfl, hm, h0, h3, h4⟩
 refine goW ?_
 refine cond_go (fun hb => ?_) (fun hb => ?_)
 ·have hk' : k < n := by simpa using hb
  clear hb
  have hget := getD_some (xs := hs) (k := k) (by omega)
  obtain ⟨b, o, _, hi, rfl, _, hlo, _⟩ := (hx.mono hm.1).get T27 rfl T3 rfl hget
  have ho := loadV_one T3 rfl hlo
  have c1 := refAct_ hp (hs.getD k 0) (hmay _ (List.mem_iff_getElem?.2 ⟨k, hget⟩))
  obtain ⟨v', H', n1, a1, m1⟩ := int_append hm (hard (hs.getD k 0)) (by simp [acts]; omega)
  have hnext : acts (hs.take k) ++ [hard (hs.getD k 0)] = acts (hs.take (k + 1)) := by rw [List.take_add_one, hget]; simp [acts]
  rw [hnext] at m1
  have hw := wrap_succ (n := k) (by omega)
  clear hnext hx hget hlo hlen hm
  refine goW ?_
  refine l_callG c1 ?_
  refine goW ?_
  refine l_appendG n1 a1 ?_
  refine goW ?_
  refine ⟨n - (k + 1), by omega, k + 1, v', hk', rfl, m1, ?_⟩
  simp [put_app, put_none, *]
 ·have hk' : k = n := by have : ¬ k < n := by simpa using hb
                         omega
  subst hk'
  rw [List.take_of_length_le (by omega)] at hm
  clear hb
  refine goW ?_
  refine end_ret (by simp only [resRf, resRs, resR]; first | done | rfl) ?_
  simp only [put_app, put_none]
  simp only [Nat.reduceEqDiff, reduceIte, Option.some.injEq, reduceCtorEq, h3]
  exact hm
theorem refRowMay_ (H : Heap) (i h y : Int) (x : V) (xs : List Int) (hx : Sl 1 intC H x xs) (hl : xs.length ≤ 2 ^ 47) : Call Tryz.prog 175 [.agg [.int .i64 i, .int .i64 h], .agg [x, .int .i64 y]] H (.bool (shapeMay i h && feeds i xs && fixMay y)) H := by
 refine call_plain fit mixed Tryz.func175 rfl rfl rfl (by kernel_rfl) rfl ?_
 have p1 : H <+: H ++ [.row [.int .i64 i, .int .i64 h] true] ++ [.row [x, .int .i64 y] true] := by rw [List.append_assoc]; exact List.prefix_append _ _
 obtain ⟨H1, hH1⟩ : ∃ H1, H ++ [.row [.int .i64 i, .int .i64 h] true] ++ [.row [x, .int .i64 y] true] = H1 := ⟨_, rfl⟩
 have l0 : loadV T 23 H1 H.length 0 = some (.agg [.int .i64 i, .int .i64 h]) := by
  refine loadV_agg T23 rfl ?_
  rw [← hH1, List.append_assoc, loadN_app0]; rfl
 have l1 : loadV T 27 H1 (H ++ [.row [.int .i64 i, .int .i64 h] true] : Heap).length 0 = some x := by
  refine loadV_one T27 rfl ?_
  rw [← hH1, loadN_app0]; rfl
 have l2 : loadV T 3 H1 (H ++ [.row [.int .i64 i, .int .i64 h] true] : Heap).length 1 = some (.int .i64 y) := by
  refine loadV_one T3 rfl ?_
  rw [← hH1, loadN_app0]; rfl
 rw [hH1] at p1
 have c1 := refShapeMay_ H1 i h
 have c2 := refFeeds_ H1 i h x xs (hx.mono p1) hl
 have c3 := refFixMay_ H1 y
 obtain ⟨r1, e1⟩ : ∃ r, shapeMay i h = r := ⟨_, rfl⟩
 obtain ⟨r2, e2⟩ : ∃ r, feeds i xs = r := ⟨_, rfl⟩
 rw [e1] at c1 ⊢
 rw [e2] at c2 ⊢
 clear e1 e2 hx
 refine goW ?_
 refine l_heap (h' := H1) hH1 ?_
 refine goW ?_
 refine l_callG c1 ?_
 cases r1
 ·refine goW ?_
  refine end_finG ?_; simp [put_app, put_none, *]
 ·refine goW ?_
  refine l_callG c2 ?_
  cases r2
  ·refine goW ?_
   refine end_finG ?_; simp [put_app, put_none, *]
  ·refine goW ?_
   refine l_callG c3 ?_
   refine goW ?_
   refine end_finG ?_; simp [put_app, put_none, *]
def speedK (mom : Int) (vs gs : List Int) (k : Nat) : Int := plus (times (vs.getD k 0) mom) (gs.getD k 0)
def nextK (rate mom : Int) (ws vs gs : List Int) (k : Nat) : Int := plus (ws.getD k 0) (neg (times rate (speedK mom vs gs k)))
def speedL (mom : Int) (ws vs gs : List Int) : List Int := (List.range ws.length).map (speedK mom vs gs)
def nextL (rate mom : Int) (ws vs gs : List Int) : List Int := (List.range ws.length).map (nextK rate mom ws vs gs)
theorem own_zero (H : Heap) (n : Nat) : Own 1 intC (H ++ [.row (zeros [.int .i64 0] n) true]) H.length (.slc H.length 0 n n true 1) (List.replicate n 0) := by
 have := own_make (t := true) H (cells_zeros (z := [.int .i64 0]) (R := intC) (x := 0) rfl rfl n)
 rw [List.length_replicate] at this
 exact this
theorem own_int {H : Heap} {b : Nat} {v : V} {xs : List Int} (ho : Own 1 intC H b v xs) {k : Nat} (hk : k < xs.length) (y : Int) :
  idxV T 27 v (k : Int) = some (.ptr b (k * 1)) ∧ ∃ H', storeV T 3 H b (k * 1) (.int .i64 y) = some H' ∧ Own 1 intC H' b v (xs.set k y) ∧ Fr b H H' := by
 obtain ⟨h1, h2⟩ := own_store ho T27 rfl T3 rfl hk
 exact ⟨h1, h2 (.int .i64 y) y rfl rfl rfl⟩
theorem own_ld {H : Heap} {b : Nat} {v : V} {xs : List Int} (ho : Own 1 intC H b v xs) {k : Nat} {y : Int} (hk : xs[k]? = some y) : loadV T 3 H b (k * 1) = some (.int .i64 y) := by
 obtain ⟨b', o', _, hi, rfl, _, hlo, _⟩ := ho.sl.get T27 rfl T3 rfl hk
 obtain ⟨h1, _⟩ := own_int ho (List.getElem?_eq_some_iff.1 hk).1 0
 rw [h1] at hi
 cases hi
 exact loadV_one T3 rfl hlo
theorem optStep_ (H : Heap) (w v g : V) (ws vs gs : List Int) (r m : Int) (hw : Sl 1 intC H w ws) (hv : Sl 1 intC H v vs) (hg : Sl 1 intC H g gs) (hal : alike ws.length [ws, vs, gs] = true) (hhy : hyperMay r m = true) :
  ∃ u1 u2 H' b1 b2, Call Tryz.prog 137 [w, v, g, .agg [.int .i64 r, .int .i64 m]] H (.tup [u1, u2, .int .i64 0]) H' ∧ H <+: H' ∧ H.length ≤ b1 ∧ H.length ≤ b2 ∧ b1 ≠ b2 ∧ Own 1 intC H' b1 u1 (nextL r m ws vs gs) ∧ Own 1 intC H' b2 u2 (speedL m ws vs gs) := by
 suffices hgoal : ∃ u H', (∃ u1 u2 b1 b2, u = .tup [u1, u2, .int .i64 0] ∧ H <+: H' ∧ H.length ≤ b1 ∧ H.length ≤ b2 ∧ b1 ≠ b2 ∧ Own 1 intC H' b1 u1 (nextL r m ws vs gs) ∧ Own 1 intC H' b2 u2 (speedL m ws vs gs)) ∧ Call Tryz.prog 137 [w, v, g, .agg [.int .i64 r, .int .i64 m]] H u H' by
  obtain ⟨_, H', ⟨u1, u2, b1, b2, rfl, h1⟩, h2⟩ := hgoal
  exact ⟨u1, u2, H', b1, b2, h2, h1⟩
 refine call_wq fit mixed Tryz.func137 rfl rfl rfl (by kernel_rfl) ?_
 have hal' := hal
 simp only [alike, List.all_cons, List.all_nil, Bool.and_true, Bool.and_eq_true, decide_eq_true_eq, true_and] at hal'
 obtain ⟨hvw, ⟨hvv, hlv⟩, hvg, hlg⟩ := hal'
 have hlw := vecMay_len hvw.1
 obtain ⟨n, hn⟩ : ∃ n, ws.length = n := ⟨_, rfl⟩
 rw [hn] at hlv hlg hlw
 obtain ⟨H1, hH1⟩ : ∃ H1, H ++ [.row [.int .i64 r, .int .i64 m] true] = H1 := ⟨_, rfl⟩
 have p1 : H <+: H1 := by rw [← hH1]; exact List.prefix_append _ _
 obtain ⟨H2, hH2⟩ : ∃ H2, H1 ++ [.row [w, v, g] true] = H2 := ⟨_, rfl⟩
 have p2 : H1 <+: H2 := by rw [← hH2]; exact List.prefix_append _ _
 have hg1 : H1[H.length]? = some (.row [.int .i64 r, .int .i64 m] true) := by rw [← hH1]; simp
 have hg2 := pre_get p2 hg1
 have l0 := ld_agg T43 rfl hg2 rfl
 have hfill := fill_three hw.cells hv.cells hg.cells .nils
 have hsl : Sl 1 oneC H2 (.slc H1.length 0 3 3 true 1) [w, v, g] := by rw [← hH2]; exact (own_make H1 (one_cells [w, v, g])).sl
 have c1 := alike_ H2 _ [w, v, g] [ws, vs, gs] ws.length hsl rfl (by simp) (fun k u xs hu hx => by
  match k, hu, hx with
  | 0, hu, hx => simp at hu hx; subst hu; subst hx; exact ⟨hw.mono (p1.trans p2), by omega⟩
  | 1, hu, hx => simp at hu hx; subst hu; subst hx; exact ⟨hv.mono (p1.trans p2), by omega⟩
  | 2, hu, hx => simp at hu hx; subst hu; subst hx; exact ⟨hg.mono (p1.trans p2), by omega⟩
  | k + 3, hu, hx => simp at hu) (fun xs hx => by simp at hx; rw [hx])
 rw [hal] at c1
 have c2 := optimMay H2 r m
 rw [hhy] at c2
 have hlen := hw.len T27 rfl
 rw [hn] at hlen
 have hlen2 := hv.len T27 rfl
 rw [hlv] at hlen2
 obtain ⟨H3, hH3⟩ : ∃ H3, H2 ++ [.row (zeros [.int .i64 0] n) true] = H3 := ⟨_, rfl⟩
 have p3 : H2 <+: H3 := by rw [← hH3]; exact List.prefix_append _ _
 obtain ⟨H4, hH4⟩ : ∃ H4, H3 ++ [.row (zeros [.int .i64 0] n) true] = H4 := ⟨_, rfl⟩
 have p4 : H3 <+: H4 := by rw [← hH4]; exact List.prefix_append _ _
 have o1 : Own 1 intC H4 H2.length (.slc H2.length 0 n n true 1) (List.replicate n 0) := by have := own_zero H2 n; rw [hH3] at this; exact this.pre p4
 have o2 : Own 1 intC H4 H3.length (.slc H3.length 0 n n true 1) (List.replicate n 0) := by have := own_zero H3 n; rw [hH4] at this; exact this
 rw [← fillTo_zero (nextK r m ws vs gs)] at o1
 rw [← fillTo_zero (speedK m vs gs)] at o2
 have hb12 : H2.length ≠ H3.length := by rw [← hH3]; simp
 have hb1 : H.length ≤ H2.length := (p1.trans p2).length_le
 have hb2 : H.length ≤ H3.length := ((p1.trans p2).trans p3).length_le
 have hbh : H.length < H2.length := by rw [← hH2, ← hH1]; simp
 have hbh3 : H.length < H3.length := by have := p3.length_le; omega
 have p04 : H <+: H4 := (p1.trans p2).trans (p3.trans p4)
 have hg4 : H4[H.length]? = some (.row [.int .i64 r, .int .i64 m] true) := pre_get (p3.trans p4) hg2
 unfold nextL speedL
 rw [hn]
 obtain ⟨x1, hx1⟩ : ∃ x1, V.slc H2.length 0 n n true 1 = x1 := ⟨_, rfl⟩
 obtain ⟨x2, hx2⟩ : ∃ x2, V.slc H3.length 0 n n true 1 = x2 := ⟨_, rfl⟩
 rw [hx1] at o1
 rw [hx2] at o2
 obtain ⟨bb1, hbb1⟩ : ∃ b, H2.length = b := ⟨_, rfl⟩
 obtain ⟨bb2, hbb2⟩ : ∃ b, H3.length = b := ⟨_, rfl⟩
 rw [hbb1] at o1 hb12 hb1 hbh
 rw [hbb2] at o2 hb12 hb2 hbh3
 clear hal hhy hvw hvv hvg p2 p3 p4 hg1 hg2 hsl hbb1 hbb2
 refine goW ?_
 refine l_heap (h' := H1) hH1 ?_
 refine goW ?_
 refine l_step (s_buildSlice (ie := (T 27).get!) T238 rfl T27 eLk (by decide) hfill) ?_
 refine l_heap (h' := H2) hH2 ?_
 refine l_callG c1 ?_
 refine goW ?_
 refine l_callG c2 ?_
 refine goW ?_
 refine cond_go (fun hb => ?_) (fun hb => ?_)
 ·cases hb
 clear hb c1 c2 l0 hfill
 refine wq_cut (fun ρ => ρ 0 = w ∧ ρ 1 = v ∧ ρ 2 = g ∧ ρ 7 = .ptr H.length 0) ⟨rfl, rfl, rfl, rfl⟩ ?_
 rintro ρ ⟨h0, h1, h2, h7⟩
 refine goW ?_
 refine d_step (s_makeSlice T27 rfl T3 eLk eLk (by simp only [IntKind.max, IntKind.signed, IntKind.bits]; omega)) ?_
 refine d_heap (h' := H3) hH3 ?_
 refine goW ?_
 refine d_step (s_makeSlice T27 rfl T3 eLk eLk (by simp only [IntKind.max, IntKind.signed, IntKind.bits]; omega)) ?_
 refine d_heap (h' := H4) hH4 ?_
 refine goW ?_
 refine wq_loop (fun c ρ hp => ∃ k, k ≤ n ∧ c = n - k ∧ H <+: hp ∧ hp[H.length]? = some (.row [.int .i64 r, .int .i64 m] true) ∧ Own 1 intC hp bb1 x1 (fillTo (nextK r m ws vs gs) n k) ∧ Own 1 intC hp bb2 x2 (fillTo (speedK m vs gs) n k) ∧
  ρ 0 = w ∧ ρ 2 = g ∧ ρ 7 = .ptr H.length 0 ∧ ρ 11 = x1 ∧ ρ 12 = x2 ∧ ρ 32 = v ∧ ρ 33 = .int .i64 n ∧ ρ 34 = .int .i64 (k : Nat)) ⟨0, Nat.zero_le _, rfl, p04, hg4, o1, o2, h0, h2, h7, by rw [← hx1]; rfl, by rw [← hx2]; rfl, rfl, rfl, rfl⟩ ?_
 clear h0 h1 h2 h7 o1 o2 hg4 p04 hH3 hH4 hx1 hx2
 clear ρ
 rintro _ ρ hp ⟨k, hk, rfl, pp, hgk, o1, o2, h0, h2, h7, h11, h12, h32, h33, h34⟩
 refine goW ?_
 refine cond_go (fun hb => ?_) (fun hb => ?_)
 ·have hk' : k < n := by simpa using hb
  clear hb
  have hg1 := getD_some (xs := vs) (k := k) (by omega)
  obtain ⟨b3, o3, _, hi3, rfl, _, hlo3, _⟩ := (hv.mono pp).get T27 rfl T3 rfl hg1
  have ho3 := loadV_one T3 rfl hlo3
  have hg2 := getD_some (xs := gs) (k := k) (by omega)
  obtain ⟨b4, o4, _, hi4, rfl, _, hlo4, _⟩ := (hg.mono pp).get T27 rfl T3 rfl hg2
  have ho4 := loadV_one T3 rfl hlo4
  have lm := ld_cell (q := 1) T3 rfl hgk rfl
  obtain ⟨ix2, hp2, st2, q2, fr2⟩ := own_int o2 (k := k) (by rw [fillTo_len hk]; exact hk') (speedK m vs gs k)
  rw [fillTo_set hk'] at q2
  have pp2 : H <+: hp2 := fr2.pre pp hb2
  have hlp := pp.length_le
  have hgl := (List.getElem?_eq_some_iff.1 hgk).1
  have hgk2 : hp2[H.length]? = some (.row [.int .i64 r, .int .i64 m] true) := by rw [fr2.2 _ hgl (by omega)]; exact hgk
  have q1 := fr2.own hb12 o1
  have lsp := own_ld q2 (k := k) (y := speedK m vs gs k) (by rw [← fillTo_set hk', List.getElem?_set_self (by rw [fillTo_len hk]; exact hk')])
  have hg5 := getD_some (xs := ws) (k := k) (by omega)
  obtain ⟨b5, o5, _, hi5, rfl, _, hlo5, _⟩ := (hw.mono pp2).get T27 rfl T3 rfl hg5
  have ho5 := loadV_one T3 rfl hlo5
  have lr := ld_cell (q := 0) T3 rfl hgk2 rfl
  obtain ⟨ix1, hp3, st1, q3, fr1⟩ := own_int q1 (k := k) (by rw [fillTo_len hk]; exact hk') (nextK r m ws vs gs k)
  rw [fillTo_set hk'] at q3
  have pp3 : H <+: hp3 := fr1.pre pp2 hb1
  have hgl2 := (List.getElem?_eq_some_iff.1 hgk2).1
  have hgk3 : hp3[H.length]? = some (.row [.int .i64 r, .int .i64 m] true) := by rw [fr1.2 _ hgl2 (by omega)]; exact hgk2
  have q4 := fr1.own hb12.symm q2
  have c1 := fixTimes_ hp (vs.getD k 0) m
  have c2 : Call Tryz.prog 80 [.int .i64 (times (vs.getD k 0) m), .int .i64 (gs.getD k 0)] hp (.int .i64 (speedK m vs gs k)) hp := fixAnd_ hp _ _
  have c3 := fixTimes_ hp2 r (speedK m vs gs k)
  have c4 : Call Tryz.prog 80 [.int .i64 (ws.getD k 0), .int .i64 (IntKind.i64.wrap (0 - times r (speedK m vs gs k)))] hp2 (.int .i64 (nextK r m ws vs gs k)) hp2 := fixAnd_ hp2 _ _
  have hw1 := wrap_succ (n := k) (by omega)
  clear o1 o2 q1 q2 fr1 fr2 hgl hgl2 hlp hlo3 hlo4 hlo5 hg1 hg2 hg5 hgk hgk2 pp pp2
  refine goW ?_
  refine d_call0G c1 ?_
  refine goW ?_
  refine d_call0G c2 ?_
  refine goW ?_
  refine d_call0G c3 ?_
  refine goW ?_
  refine d_call0G c4 ?_
  refine goW ?_
  refine ⟨n - (k + 1), by omega, k + 1, hk', rfl, pp3, hgk3, q3, q4, ?_⟩
  simp [put_app, put_none, *]
 ·have hk' : k = n := by have : ¬ k < n := by simpa using hb
                         omega
  subst hk'
  rw [fillTo_all] at o1 o2
  clear hb hgk
  refine goW ?_
  refine end_ret (by simp only [resRf, resRs, resR]; first | done | rfl) ⟨x1, x2, bb1, bb2, ?_, pp, hb1, hb2, hb12, o1, o2⟩
  simp [put_app, put_none, *]
theorem refHidden_ (H : Heap) (i h : Nat) (w x : V) (ws xs : List Int) (hw : Sl 1 intC H w ws) (hx : Sl 1 intC H x xs) (hf : fits i h ws = true) (hfeed : feeds i xs = true) :
  ∃ u H', Call Tryz.prog 177 [.agg [.int .i64 i, .int .i64 h], w, x] H (.tup [u, .int .i64 0]) H' ∧ Mine 1 intC H H' u (units i h ws xs) := by
 suffices hgoal : ∃ v H', (∃ u, v = .tup [u, .int .i64 0] ∧ Mine 1 intC H H' u (units i h ws xs)) ∧ Call Tryz.prog 177 [.agg [.int .i64 i, .int .i64 h], w, x] H v H' by
  obtain ⟨_, H', ⟨u, rfl, h1⟩, h2⟩ := hgoal
  exact ⟨u, H', h2, h1⟩
 refine call_wq fit mixed Tryz.func177 rfl rfl rfl (by kernel_rfl) ?_
 obtain ⟨hsm, hvw, i', h', hi', hh', hi1, hi2, hh1, hh2, hs⟩ := fits_split hf
 obtain rfl : i = i' := Int.ofNat_inj.1 hi'
 obtain rfl : h = h' := Int.ofNat_inj.1 hh'
 obtain ⟨hxl, hvx⟩ := feeds_split hfeed
 have hxl' : xs.length = i := Int.ofNat_inj.1 hxl
 have hwl := vecMay_len hvw
 obtain ⟨H1, hH1⟩ : ∃ H1, H ++ [.row [.int .i64 i, .int .i64 h] true] = H1 := ⟨_, rfl⟩
 have p1 : H <+: H1 := by rw [← hH1]; exact List.prefix_append _ _
 have q0 : ∀ H2, H1 <+: H2 → loadV T 3 H2 H.length 0 = some (.int .i64 i) := fun H2 hp => by
  refine loadV_one T3 rfl (loadN_pre hp ?_)
  rw [← hH1, loadN_app0]; rfl
 have q1 : ∀ H2, H1 <+: H2 → loadV T 3 H2 H.length 1 = some (.int .i64 h) := fun H2 hp => by
  refine loadV_one T3 rfl (loadN_pre hp ?_)
  rw [← hH1, loadN_app0]; rfl
 have l0 : loadV T 23 H1 H.length 0 = some (.agg [.int .i64 i, .int .i64 h]) := by
  refine loadV_agg T23 rfl ?_
  rw [← hH1, loadN_app0]; rfl
 have c1 := refFits_ H1 i h w ws (hw.mono p1) (by omega)
 have c2 := refFeeds_ H1 i h x xs (hx.mono p1) (by omega)
 rw [hf] at c1
 rw [hfeed] at c2
 clear hf hfeed hi' hh'
 have hsmall := small_size hi2 hh2
 have w1 : IntKind.i64.wrap ((i : Int) + 1) = ((i + 1 : Nat) : Int) := wrap_succ (by omega)
 refine goW ?_
 refine l_heap (h' := H1) hH1 ?_
 refine goW ?_
 refine l_callG c1 ?_
 refine goW ?_
 refine l_callG c2 ?_
 refine goW ?_
 refine cond_go (fun hb => ?_) (fun hb => ?_)
 ·cases hb
 clear hb c1 c2 l0
 refine goW ?_
 refine wq_loop (fun c ρ hp => ∃ k u, k ≤ h ∧ c = h - k ∧ Mine 1 intC H1 hp u ((List.range k).map (unit i ws xs)) ∧ ρ 1 = w ∧ ρ 2 = x ∧ ρ 3 = .ptr H.length 0 ∧ ρ 8 = u ∧ ρ 9 = .int .i64 (k : Nat)) ⟨0, .nils, Nat.zero_le _, rfl, Mine.nil (List.prefix_refl _), rfl, rfl, rfl, rfl, rfl⟩ ?_
 rintro _ ρ hp ⟨k, u, hk, rfl, hm, h1, h2, h3, h8, h9⟩
 have l0 := q0 hp hm.1
 have l1 := q1 hp hm.1
 refine goW ?_
 refine cond_go (fun hb => ?_) (fun hb => ?_)
 ·have hk' : k < h := by simpa using hb
  clear hb
  have hue := unit_end (i := i) hk'
  have hns : netSize i h = h * (i + 1) + h + 1 := rfl
  obtain ⟨a, ha⟩ : ∃ a, k * (i + 1) = a := ⟨_, rfl⟩
  have hf : unit i ws xs k = plus (ws.getD (k * (i + 1) + i) 0) (dot ((ws.drop (k * (i + 1))).take i) xs) := rfl
  rw [ha] at hue hf
  have hw2 := hw.mono (p1.trans hm.1)
  obtain ⟨pt, hpt, hps⟩ := hw2.part (l := a) (k := a + i) (by omega) (by omega)
  rw [List.drop_take, Nat.add_sub_cancel_left] at hps
  have hget := getD_some (xs := ws) (k := a + i) (by omega)
  obtain ⟨b2, o2, _, hi2', rfl, _, hlo2, _⟩ := hw2.get T27 rfl T3 rfl hget
  have ho2 := loadV_one T3 rfl hlo2
  have w2 : IntKind.i64.wrap ((k : Int) * ((i + 1 : Nat) : Int)) = (a : Int) := by rw [← Int.natCast_mul, ha]; exact wrap_nat (by omega)
  have w3 : IntKind.i64.wrap ((a : Int) + (i : Int)) = ((a + i : Nat) : Int) := by rw [← Int.natCast_add]; exact wrap_nat (by omega)
  have w4 := wrap_succ (n := k) (by omega)
  have c1 := refDot_ hp pt x _ xs hps (hx.mono (p1.trans hm.1)) (by simp; omega) (vecMay_part hvw _ _) hvx
  have c2 := refPlus_ hp (ws.getD (a + i) 0) (dot ((ws.drop a).take i) xs)
  rw [← hf] at c2
  obtain ⟨v', H', n1, a1, m1⟩ := int_append hm (unit i ws xs k) (by simp; omega)
  rw [range_snoc] at m1
  clear hf hue hns ha hps hget hlo2 hw2 hsmall hs hwl hxl hxl' hi1 hi2 hh1 hh2 hvw hvx hsm hm
  refine goW ?_
  refine l_callG c1 ?_
  refine goW ?_
  refine l_callG c2 ?_
  refine goW ?_
  refine l_appendG n1 a1 ?_
  refine goW ?_
  refine ⟨h - (k + 1), by omega, k + 1, v', hk', rfl, m1, ?_⟩
  simp [put_app, put_none, *]
 ·have hk' : k = h := by have : ¬ k < h := by simpa using hb
                         omega
  subst hk'
  have hm2 := hm.low p1
  clear hb
  refine goW ?_
  refine end_ret (by simp only [resRf, resRs, resR]; first | done | rfl) ⟨u, ?_, hm2⟩
  simp [put_app, put_none, *]
theorem refOut_ (H : Heap) (i h : Nat) (w x : V) (ws xs : List Int) (hw : Sl 1 intC H w ws) (hx : Sl 1 intC H x xs) (hf : fits i h ws = true) (hfeed : feeds i xs = true) :
  Call Tryz.prog 176 [.agg [.int .i64 i, .int .i64 h], w, x] H (.tup [.int .i64 (outOf i h ws xs), .int .i64 0]) H := by
 refine call_plain fit mixed Tryz.func176 rfl rfl rfl (by kernel_rfl) rfl ?_
 obtain ⟨hsm, hvw, i', h', hi', hh', hi1, hi2, hh1, hh2, hs⟩ := fits_split hf
 obtain rfl : i = i' := Int.ofNat_inj.1 hi'
 obtain rfl : h = h' := Int.ofNat_inj.1 hh'
 obtain ⟨H1, hH1⟩ : ∃ H1, H ++ [.row [.int .i64 i, .int .i64 h] true] = H1 := ⟨_, rfl⟩
 have p1 : H <+: H1 := by rw [← hH1]; exact List.prefix_append _ _
 have q0 : ∀ H2, H1 <+: H2 → loadV T 3 H2 H.length 0 = some (.int .i64 i) := fun H2 hp => by
  refine loadV_one T3 rfl (loadN_pre hp ?_)
  rw [← hH1, loadN_app0]; rfl
 have q1 : ∀ H2, H1 <+: H2 → loadV T 3 H2 H.length 1 = some (.int .i64 h) := fun H2 hp => by
  refine loadV_one T3 rfl (loadN_pre hp ?_)
  rw [← hH1, loadN_app0]; rfl
 have l0 : loadV T 23 H1 H.length 0 = some (.agg [.int .i64 i, .int .i64 h]) := by
  refine loadV_agg T23 rfl ?_
  rw [← hH1, loadN_app0]; rfl
 obtain ⟨u, H2, c1, hm⟩ := refHidden_ H1 i h w x ws xs (hw.mono p1) (hx.mono p1) hf hfeed
 have r0 := q0 H2 hm.1
 have r1 := q1 H2 hm.1
 have hul : (units i h ws xs).length = h := by simp [units]
 obtain ⟨ac, H3, c2, hm2⟩ := refActs_ H2 u _ hm.sl (by rw [hul]; omega) (fun y hy => by obtain ⟨k, _, rfl⟩ := List.mem_map.1 hy; exact plus_may _ _)
 have r1' := q1 H3 (hm.1.trans hm2.1)
 have hns : netSize i h = h * (i + 1) + h + 1 := rfl
 have hsmall := small_size hi2 hh2
 obtain ⟨a, ha⟩ : ∃ a, h * (i + 1) = a := ⟨_, rfl⟩
 rw [ha] at hns hsmall
 have hw2 := hw.mono (p1.trans (hm.1.trans hm2.1))
 obtain ⟨pt, hpt, hps⟩ := hw2.part (l := a) (k := a + h) (by omega) (by omega)
 rw [List.drop_take, Nat.add_sub_cancel_left] at hps
 have hget := getD_some (xs := ws) (k := a + h) (by omega)
 obtain ⟨b2, o2, _, hi2', rfl, _, hlo2, _⟩ := hw2.get T27 rfl T3 rfl hget
 have ho2 := loadV_one T3 rfl hlo2
 have w1 : IntKind.i64.wrap ((i : Int) + 1) = ((i + 1 : Nat) : Int) := wrap_succ (by omega)
 have w2 : IntKind.i64.wrap ((h : Int) * ((i + 1 : Nat) : Int)) = (a : Int) := by rw [← Int.natCast_mul, ha]; exact wrap_nat (by omega)
 have w3 : IntKind.i64.wrap ((a : Int) + (h : Int)) = ((a + h : Nat) : Int) := by rw [← Int.natCast_add]; exact wrap_nat (by omega)
 have c3 := refDot_ H3 pt ac _ _ hps hm2.sl (by simp [acts, hul]; omega) (vecMay_part hvw _ _) (vecMay_acts (by rw [hul]; omega))
 have c4 := refPlus_ H3 (ws.getD (a + h) 0) (dot ((ws.drop a).take h) (acts (units i h ws xs)))
 have hf4 : outOf i h ws xs = plus (ws.getD (h * (i + 1) + h) 0) (dot ((ws.drop (h * (i + 1))).take h) (acts (units i h ws xs))) := rfl
 rw [ha] at hf4
 rw [← hf4] at c4
 have p3 : H2 <+: H3 := hm2.1
 have pend : H <+: H3 := p1.trans (hm.1.trans hm2.1)
 clear hf4 hns hsmall ha hps hget hlo2 hw2 hs hi1 hi2 hh1 hh2 hvw hsm hm hm2 hul hi' hh' hf hfeed q0 q1 hw hx p1
 refine goW ?_
 refine l_heap (h' := H1) hH1 ?_
 refine goW ?_
 refine l_callG c1 ?_
 refine goW ?_
 refine cond_go (fun hb => ?_) (fun hb => ?_)
 ·cases hb
 clear hb c1
 refine goW ?_
 refine d_callG c2 (.inl p3) ?_
 refine goW ?_
 refine d_call0G c3 ?_
 refine goW ?_
 refine l_callG c4 ?_
 refine goW ?_
 refine end_ret (by simp only [resRf, resRs, resR]; first | done | rfl) ⟨?_, pend⟩
 simp [put_app, put_none]
theorem int_append2 {B H : Heap} {v u : V} {xs zs : List Int} (h : Mine 1 intC B H v xs) (hu : Sl 1 intC H u zs) (hap : Apart v u) (y : Int) (hl : xs.length ≤ 2 ^ 40) :
  ∃ v' H', newsOf T (T 3).get! 27 (.slc H.length 0 1 1 true 1) (H ++ [.row [.int .i64 y] true]) = some (1, [.int .i64 y]) ∧ appendV (T 3).get! v 1 [.int .i64 y] (H ++ [.row [.int .i64 y] true]) = some (v', H') ∧ Mine 1 intC B H' v' (xs ++ [y]) ∧ Sl 1 intC H' u zs ∧ Apart v' u := by
 have hn : newsOf T (T 3).get! 27 (.slc H.length 0 1 1 true 1) (H ++ [.row [.int .i64 y] true]) = some (1, [.int .i64 y]) := news_row T27 rfl (by decide) rfl
 have hc : Cells 1 intC [.int .i64 y] [y] := Cells.one (R := intC) (cs := [.int .i64 y]) (x := y) rfl rfl
 have h' := h.pre (List.prefix_append H [.row [.int .i64 y] true])
 have hu' := hu.mono (List.prefix_append H [.row [.int .i64 y] true])
 have hlt : ∀ c, u.blk = some c → c < H.length := fun c hc => hu.lt hc
 obtain ⟨hp, h'⟩ := h'
 rcases h' with ⟨rfl, rfl⟩ | ⟨b, hb1, ho⟩
 ·have hp2 : H <+: H ++ [.row [.int .i64 y] true] ++ [.row [.int .i64 y] true] := by rw [List.append_assoc]; exact List.prefix_append _ _
  refine ⟨.slc (H ++ [.row [.int .i64 y] true] : Heap).length 0 1 1 false 1, H ++ [.row [.int .i64 y] true] ++ [.row [.int .i64 y] true], hn, by rfl, mine_make (xs := [y]) hp hc, hu.mono hp2, fun b c hb hc' => ?_⟩
  have := hlt c hc'
  simp only [V.blk, Option.some.injEq] at hb
  simp at hb
  omega
 ·obtain ⟨v', b', H', e1, e2, e3, e4⟩ := own_append (ie := (T 3).get!) ho rfl hc ⟨by show (xs.length + 1) * 8 ≤ _; omega, by simp; omega⟩
  have hvb : v.blk = some b := by obtain ⟨cap, t, cs, rfl, _⟩ := ho; rfl
  refine ⟨v', H', hn, e1, ⟨e3.pre hp hb1, .inr ⟨b', ?_, e2⟩⟩, hu'.fr fun c hc1 hc2 => e3.2 c hc1 fun h => hap b c hvb hc2 h.symm, fun b1 c hb hc' => ?_⟩
  ·have := hp.length_le; omega
  ·have hv : v'.blk = some b' := by obtain ⟨cap, t, cs, rfl, _⟩ := e2; rfl
   rw [hv] at hb
   cases hb
   rcases e4 with rfl | e4
   ·exact hap _ _ hvb hc'
   ·have := hlt c hc'
    simp at e4
    omega
theorem flat_snoc (f : Nat → List Int) (k : Nat) : (List.range k).flatMap f ++ f k = (List.range (k + 1)).flatMap f := by
 rw [List.range_succ, List.flatMap_append]; simp
theorem flat_len {f : Nat → List Int} {n : Nat} (hf : ∀ k, (f k).length = n) : ∀ k, ((List.range k).flatMap f).length = k * n
 | 0 => by simp
 | k + 1 => by rw [← flat_snoc, List.length_append, flat_len hf k, hf, Nat.add_mul]; omega
theorem grad_good (H : Heap) (i h : Nat) (y : Int) (w x : V) (ws xs : List Int) (hw : Sl 1 intC H w ws) (hx : Sl 1 intC H x xs) (hf : fits i h ws = true) (hfeed : feeds i xs = true) (hy : fixMay y = true) :
  ∃ u H', Call Tryz.prog 136 [.agg [.int .i64 i, .int .i64 h], w, .agg [x, .int .i64 y]] H (.tup [u, .int .i64 0]) H' ∧ Mine 1 intC H H' u (grad i h ws xs y) := by
 suffices hgoal : ∃ v H', (∃ u, v = .tup [u, .int .i64 0] ∧ Mine 1 intC H H' u (grad i h ws xs y)) ∧ Call Tryz.prog 136 [.agg [.int .i64 i, .int .i64 h], w, .agg [x, .int .i64 y]] H v H' by
  obtain ⟨_, H', ⟨u, rfl, h1⟩, h2⟩ := hgoal
  exact ⟨u, H', h2, h1⟩
 refine call_wq fit mixed Tryz.func136 rfl rfl rfl (by kernel_rfl) ?_
 obtain ⟨hsm, hvw, i', h', hi', hh', hi1, hi2, hh1, hh2, hs⟩ := fits_split hf
 obtain rfl : i = i' := Int.ofNat_inj.1 hi'
 obtain rfl : h = h' := Int.ofNat_inj.1 hh'
 obtain ⟨hxl, hvx⟩ := feeds_split hfeed
 have hxl' : xs.length = i := Int.ofNat_inj.1 hxl
 have hwl := vecMay_len hvw
 have hsmall := small_size hi2 hh2
 obtain ⟨H1, hH1⟩ : ∃ H1, H ++ [.row [.int .i64 i, .int .i64 h] true] ++ [.row [x, .int .i64 y] true] = H1 := ⟨_, rfl⟩
 have p1 : H <+: H1 := by rw [← hH1, List.append_assoc]; exact List.prefix_append _ _
 have l0 : loadV T 23 H1 H.length 0 = some (.agg [.int .i64 i, .int .i64 h]) := by
  refine loadV_agg T23 rfl ?_
  rw [← hH1, List.append_assoc, loadN_app0]; rfl
 obtain ⟨rb, hrb⟩ : ∃ rb, (H ++ [.row [.int .i64 i, .int .i64 h] true] : Heap).length = rb := ⟨_, rfl⟩
 have q0 : ∀ H2, H1 <+: H2 → loadV T 27 H2 rb 0 = some x := fun H2 hp => by
  refine loadV_one T27 rfl (loadN_pre hp ?_)
  rw [← hH1, ← hrb, loadN_app0]; rfl
 have q1 : ∀ H2, H1 <+: H2 → loadV T 3 H2 rb 1 = some (.int .i64 y) := fun H2 hp => by
  refine loadV_one T3 rfl (loadN_pre hp ?_)
  rw [← hH1, ← hrb, loadN_app0]; rfl
 obtain ⟨b, H2, c1, p2, hn⟩ := new_ H1 i h w x ws xs (hw.mono p1) (hx.mono p1) (by omega) (by omega)
 rw [hf, hfeed] at c1
 have c2 := fixMay_ H2 y
 rw [hy] at c2
 have l1 := q0 H1 (List.prefix_refl _)
 have l2 := q1 H2 p2
 have l3 := q0 H2 p2
 obtain ⟨u10, H3, c3, hm10⟩ := units_ H2 b i h w x ws xs hn (hw.mono (p1.trans p2)) (hx.mono (p1.trans p2)) hs hi2 hh2 hxl'
 have p3 : H2 <+: H3 := hm10.1
 have p13 : H1 <+: H3 := p2.trans p3
 have p03 : H <+: H3 := p1.trans p13
 have l4 := q1 H3 p13
 obtain ⟨us, hus⟩ : ∃ us, units i h ws xs = us := ⟨_, rfl⟩
 rw [hus] at hm10
 have husl : us.length = h := by rw [← hus]; simp [units]
 have c4 := tells_ H3 b i h w u10 ws us (hn.mono p3) (hw.mono p03) hm10.sl hs hi2 hh2 husl
 have c5 := fixAnd_ H3 (tells i h ws us) (IntKind.i64.wrap (0 - y))
 obtain ⟨e, he⟩ : ∃ e, plus (tells i h ws us) (neg y) = e := ⟨_, rfl⟩
 have c5' : Call Tryz.prog 80 [.int .i64 (tells i h ws us), .int .i64 (IntKind.i64.wrap (0 - y))] H3 (.int .i64 e) H3 := by rw [← he]; exact c5
 obtain ⟨la, c6, hla⟩ := last_ H3 b i h w ws (hn.mono p3) (hw.mono p03) hs hi2 hh2
 have hlenu := hm10.sl.len T27 rfl
 rw [husl] at hlenu
 have hgr : grad i h ws xs y = (List.range h).flatMap (gradRow i h ws xs e us) ++ ((acts us).map (fun a => times e a) ++ [e]) := by
  unfold grad; simp only [hus, he]
 have hrl : ∀ k, (gradRow i h ws xs e us k).length = i + 1 := fun k => by simp [gradRow, hxl']
 rw [hgr]
 have hH1' := hH1
 clear c5 he hgr hus hf hfeed hy hi' hh'
 refine goW ?_
 refine l_heap (h' := H1) hH1' ?_
 rw [hrb]
 refine goW ?_
 refine l_callG c1 ?_
 refine goW ?_
 refine l_callG c2 ?_
 refine goW ?_
 refine cond_go (fun hb => ?_) (fun hb => ?_)
 ·cases hb
 clear hb c1 c2 l0 l1
 refine wq_cut (fun ρ => ρ 5 = .ptr rb 0 ∧ ρ 8 = .ptr b 0) ⟨rfl, rfl⟩ ?_
 rintro ρ ⟨h5, h8⟩
 refine goW ?_
 refine l_callG c3 ?_
 refine goW ?_
 refine d_call0G c4 ?_
 refine goW ?_
 refine d_call0G c5' ?_
 refine goW ?_
 refine l_callG c6 ?_
 refine goW ?_
 clear l2 l3 l4 c3 c4 c5' c6 hlenu
 refine wq_loop (fun c ρ hp => ∃ k v, k ≤ h ∧ c = h - k ∧ Mine 1 intC H3 hp v ((List.range k).flatMap (gradRow i h ws xs e us)) ∧ ρ 5 = .ptr rb 0 ∧ ρ 10 = u10 ∧ ρ 11 = .int .i64 e ∧ ρ 12 = la ∧ ρ 14 = v ∧ ρ 54 = u10 ∧ ρ 55 = .int .i64 h ∧ ρ 56 = .int .i64 (k : Nat)) ⟨0, .nils, Nat.zero_le _, rfl, Mine.nil (List.prefix_refl _), h5, rfl, rfl, rfl, rfl, rfl, rfl, rfl⟩ ?_
 clear h5 h8
 clear ρ
 rintro _ ρ hp ⟨k, v, hk, rfl, hm, h5, h10, h11, h12, h14, h54, h55, h56⟩
 have l1 := q0 hp (p13.trans hm.1)
 refine goW ?_
 refine cond_go (fun hb => ?_) (fun hb => ?_)
 ·have hk' : k < h := by simpa using hb
  clear hb
  have hg1 := getD_some (xs := us) (k := k) (by omega)
  obtain ⟨b2, o2, _, hi2', rfl, _, hlo2, _⟩ := (hm10.sl.mono hm.1).get T27 rfl T3 rfl hg1
  have ho2 := loadV_one T3 rfl hlo2
  have hg2 : ((ws.drop (h * (i + 1))).take h)[k]? = some (ws.getD (h * (i + 1) + k) 0) := by
   rw [List.getElem?_take, if_pos hk', List.getElem?_drop]
   exact getD_some (by rw [hs]; unfold netSize; omega)
  obtain ⟨b3, o3, _, hi3, rfl, _, hlo3, _⟩ := (hla.mono hm.1).get T27 rfl T3 rfl hg2
  have ho3 := loadV_one T3 rfl hlo3
  have c1 := fixTimes_ hp e (ws.getD (h * (i + 1) + k) 0)
  have c2 := actRise_ hp (us.getD k 0)
  have c3 := fixTimes_ hp (times e (ws.getD (h * (i + 1) + k) 0)) (rise (us.getD k 0))
  obtain ⟨d, hd⟩ : ∃ d, times (times e (ws.getD (h * (i + 1) + k) 0)) (rise (us.getD k 0)) = d := ⟨_, rfl⟩
  have hrow : gradRow i h ws xs e us k = xs.map (fun x => times d x) ++ [d] := by unfold gradRow; simp only [hd]
  rw [hd] at c3
  have hlen := ((hx.mono p03).mono hm.1).len T27 rfl
  rw [hxl'] at hlen
  have hw1 := wrap_succ (n := k) (by omega)
  have hout := flat_len hrl k
  have hkm : k * (i + 1) ≤ 12 := Nat.le_trans (Nat.mul_le_mul_right _ (Nat.le_of_lt hk')) hsmall
  refine goW ?_
  refine l_callG c1 ?_
  refine goW ?_
  refine l_callG c2 ?_
  refine goW ?_
  refine l_callG c3 ?_
  refine goW ?_
  refine wq_loop (fun c ρ hp => ∃ j v, j ≤ i ∧ c = i - j ∧ Mine 1 intC H3 hp v ((List.range k).flatMap (gradRow i h ws xs e us) ++ (xs.take j).map (fun x => times d x)) ∧ ρ 5 = .ptr rb 0 ∧ ρ 10 = u10 ∧ ρ 11 = .int .i64 e ∧ ρ 12 = la ∧ ρ 14 = v ∧ ρ 17 = .int .i64 d ∧ ρ 54 = u10 ∧ ρ 55 = .int .i64 h ∧ ρ 56 = .int .i64 (k : Nat) ∧ ρ 71 = x ∧ ρ 72 = .int .i64 i ∧ ρ 73 = .int .i64 (j : Nat)) ⟨0, v, Nat.zero_le _, rfl, by simpa using hm, h5, h10, h11, h12, h14, rfl, h54, h55, h56, rfl, rfl, rfl⟩ ?_
  clear h5 h10 h11 h12 h14 h54 h55 h56 ho2 ho3 hi2' hi3 hlo2 hlo3 c1 c2 c3 hlen l1 hm
  clear ρ
  rintro _ ρ hp ⟨j, v, hj, rfl, hm, h5, h10, h11, h12, h14, h17, h54, h55, h56, h71, h72, h73⟩
  refine goW ?_
  refine cond_go (fun hb => ?_) (fun hb => ?_)
  ·have hj' : j < i := by simpa using hb
   clear hb
   have hg := getD_some (xs := xs) (k := j) (by omega)
   obtain ⟨b2, o2, _, hi2', rfl, _, hlo2, _⟩ := (hx.mono (p03.trans hm.1)).get T27 rfl T3 rfl hg
   have ho2 := loadV_one T3 rfl hlo2
   have c1 := fixTimes_ hp d (xs.getD j 0)
   obtain ⟨v', H', n1, a1, m1⟩ := int_append hm (times d (xs.getD j 0)) (by simp [hout]; omega)
   have hnext : (List.range k).flatMap (gradRow i h ws xs e us) ++ (xs.take j).map (fun x => times d x) ++ [times d (xs.getD j 0)] = (List.range k).flatMap (gradRow i h ws xs e us) ++ (xs.take (j + 1)).map (fun x => times d x) := by
    rw [List.take_add_one, hg, List.append_assoc]; simp
   rw [hnext] at m1
   have hw2 := wrap_succ (n := j) (by omega)
   clear hnext hg hlo2 hm hw1 hout hkm hrow hd hrl
   refine goW ?_
   refine l_callG c1 ?_
   refine goW ?_
   refine l_appendG n1 a1 ?_
   refine goW ?_
   refine ⟨i - (j + 1), by omega, j + 1, v', hj', rfl, m1, ?_⟩
   simp [put_app, put_none, *]
  ·have hj' : j = i := by have : ¬ j < i := by simpa using hb
                          omega
   subst hj'
   rw [List.take_of_length_le (by omega)] at hm
   obtain ⟨v', H', n1, a1, m1⟩ := int_append hm d (by simp [hout]; omega)
   rw [List.append_assoc, ← hrow, flat_snoc] at m1
   clear hb hout hkm hrow hd hrl hm
   refine goW ?_
   refine l_appendG n1 a1 ?_
   refine goW ?_
   refine ⟨h - (k + 1), by omega, k + 1, v', hk', rfl, m1, ?_⟩
   simp [put_app, put_none, *]
 ·have hk' : k = h := by have : ¬ k < h := by simpa using hb
                         omega
  subst hk'
  clear hb l1
  obtain ⟨u90, H5, c1, hm5⟩ := acts_ hp u10 us (hm10.sl.mono hm.1) (by omega)
  have hml := hm.pre hm5.1
  have hap : Apart v u90 := fun b1 c1 e1 e2 => by
   have a1 := hm.blk e1
   have a2 := hm5.blk e2
   omega
  have hlen := hm5.sl.len T27 rfl
  have hal : (acts us).length = k := by simp [acts, husl]
  rw [hal] at hlen
  have hsl := hm5.sl
  obtain ⟨al, has⟩ : ∃ al, acts us = al := ⟨_, rfl⟩
  rw [has] at hsl hal ⊢
  have hout := flat_len hrl k
  refine goW ?_
  refine l_callG c1 ?_
  refine goW ?_
  refine wq_loop (fun c ρ hp => ∃ j v, j ≤ k ∧ c = k - j ∧ Mine 1 intC H3 hp v ((List.range k).flatMap (gradRow i k ws xs e us) ++ (al.take j).map (fun x => times e x)) ∧ Sl 1 intC hp u90 al ∧ Apart v u90 ∧ ρ 11 = .int .i64 e ∧ ρ 14 = v ∧ ρ 90 = u90 ∧ ρ 91 = .int .i64 k ∧ ρ 92 = .int .i64 (j : Nat)) ⟨0, v, Nat.zero_le _, rfl, by simpa using hml, hsl, hap, h11, h14, rfl, rfl, rfl⟩ ?_
  clear h5 h10 h11 h12 h14 h54 h55 h56 c1 hlen hm hml hsl hap hm5
  clear ρ
  rintro _ ρ hp ⟨j, v, hj, rfl, hm, hsl, hap, h11, h14, h90, h91, h92⟩
  refine goW ?_
  refine cond_go (fun hb => ?_) (fun hb => ?_)
  ·have hj' : j < k := by simpa using hb
   clear hb
   have hg := getD_some (xs := al) (k := j) (by omega)
   obtain ⟨b2, o2, _, hi2', rfl, _, hlo2, _⟩ := hsl.get T27 rfl T3 rfl hg
   have ho2 := loadV_one T3 rfl hlo2
   have c1 := fixTimes_ hp e (al.getD j 0)
   obtain ⟨v', H', n1, a1, m1, s1, ap1⟩ := int_append2 hm hsl hap (times e (al.getD j 0)) (by simp [hout]; omega)
   have hnext : (List.range k).flatMap (gradRow i k ws xs e us) ++ (al.take j).map (fun x => times e x) ++ [times e (al.getD j 0)] = (List.range k).flatMap (gradRow i k ws xs e us) ++ (al.take (j + 1)).map (fun x => times e x) := by
    rw [List.take_add_one, hg, List.append_assoc]; simp
   rw [hnext] at m1
   have hw2 := wrap_succ (n := j) (by omega)
   clear hnext hg hlo2 hm hsl hap hout hrl
   refine goW ?_
   refine l_callG c1 ?_
   refine goW ?_
   refine l_appendG n1 a1 ?_
   refine goW ?_
   refine ⟨k - (j + 1), by omega, j + 1, v', hj', rfl, m1, s1, ap1, ?_⟩
   simp [put_app, put_none, *]
  ·have hj' : j = k := by have : ¬ j < k := by simpa using hb
                          omega
   subst hj'
   rw [List.take_of_length_le (by omega)] at hm
   obtain ⟨v', H', n1, a1, m1⟩ := int_append hm e (by simp [hout]; omega)
   have m2 := m1.low p03
   rw [List.append_assoc] at m2
   clear hb hout hrl hm m1
   refine goW ?_
   refine l_appendG n1 a1 ?_
   refine goW ?_
   refine end_ret (by simp only [resRf, resRs, resR]; first | done | rfl) ⟨v', ?_, m2⟩
   simp [put_app, put_none]
def Fill (G : List Int) (D : Nat → Prop) (out : List Int) : Prop := out.length = G.length ∧ ∀ p, D p → out[p]? = G[p]?
theorem Fill.put {G out : List Int} {D D' : Nat → Prop} {q : Nat} {v : Int} (h : Fill G D out) (hv : G[q]? = some v) (hd : ∀ p, D' p → D p ∨ p = q) : Fill G D' (out.set q v) := by
 refine ⟨by rw [List.length_set]; exact h.1, fun p hp => ?_⟩
 by_cases hq : q = p
 ·subst hq
  have : q < G.length := (List.getElem?_eq_some_iff.1 hv).1
  rw [List.getElem?_set_self (by rw [h.1]; exact this), hv]
 ·rw [List.getElem?_set_ne hq]
  rcases hd p hp with h1 | h1
  ·exact h.2 p h1
  ·exact absurd h1.symm hq
theorem Fill.all {G out : List Int} {D : Nat → Prop} (h : Fill G D out) (hd : ∀ p, p < G.length → D p) : out = G := by
 apply List.ext_getElem?
 intro p
 by_cases hp : p < G.length
 ·exact h.2 p (hd p hp)
 ·rw [List.getElem?_eq_none (by rw [h.1]; omega), List.getElem?_eq_none (by omega)]
theorem flat_get {f : Nat → List Int} {n : Nat} (hf : ∀ k, (f k).length = n) {k j : Nat} (hj : j < n) : ∀ {h : Nat}, k < h → ((List.range h).flatMap f)[k * n + j]? = (f k)[j]?
 | 0, hk => by omega
 | h + 1, hk => by
  rw [← flat_snoc]
  by_cases hkh : k < h
  ·have h1 : (k + 1) * n ≤ h * n := Nat.mul_le_mul_right _ hkh
   rw [Nat.add_mul] at h1
   rw [List.getElem?_append_left (by rw [flat_len hf]; omega)]
   exact flat_get hf hj hkh
  ·obtain rfl : k = h := by omega
   rw [List.getElem?_append_right (by rw [flat_len hf]; omega), flat_len hf, Nat.add_sub_cancel_left]
theorem refGrad_good (H : Heap) (i h : Nat) (y : Int) (w x : V) (ws xs : List Int) (hw : Sl 1 intC H w ws) (hx : Sl 1 intC H x xs) (hf : fits i h ws = true) (hfeed : feeds i xs = true) (hy : fixMay y = true) :
  ∃ u H', Call Tryz.prog 95 [.agg [.int .i64 i, .int .i64 h], w, .agg [x, .int .i64 y]] H (.tup [u, .int .i64 0]) H' ∧ Mine 1 intC H H' u (grad i h ws xs y) := by
 suffices hgoal : ∃ v H', (∃ u, v = .tup [u, .int .i64 0] ∧ Mine 1 intC H H' u (grad i h ws xs y)) ∧ Call Tryz.prog 95 [.agg [.int .i64 i, .int .i64 h], w, .agg [x, .int .i64 y]] H v H' by
  obtain ⟨_, H', ⟨u, rfl, h1⟩, h2⟩ := hgoal
  exact ⟨u, H', h2, h1⟩
 refine call_wq fit mixed Tryz.func95 rfl rfl rfl (by kernel_rfl) ?_
 obtain ⟨hsm, hvw, i', h', hi', hh', hi1, hi2, hh1, hh2, hs⟩ := fits_split hf
 obtain rfl : i = i' := Int.ofNat_inj.1 hi'
 obtain rfl : h = h' := Int.ofNat_inj.1 hh'
 obtain ⟨hxl, hvx⟩ := feeds_split hfeed
 have hxl' : xs.length = i := Int.ofNat_inj.1 hxl
 have hwl := vecMay_len hvw
 have hsmall := small_size hi2 hh2
 obtain ⟨rb, hrb⟩ : ∃ rb, (H ++ [.row [.int .i64 i, .int .i64 h] true] : Heap).length = rb := ⟨_, rfl⟩
 obtain ⟨H1, hH1⟩ : ∃ H1, H ++ [.row [.int .i64 i, .int .i64 h] true] ++ [.row [x, .int .i64 y] true] = H1 := ⟨_, rfl⟩
 have p1 : H <+: H1 := by rw [← hH1, List.append_assoc]; exact List.prefix_append _ _
 have q0 : ∀ H2, H1 <+: H2 → loadV T 27 H2 rb 0 = some x := fun H2 hp => by
  refine loadV_one T27 rfl (loadN_pre hp ?_)
  rw [← hH1, ← hrb, loadN_app0]; rfl
 have q1 : ∀ H2, H1 <+: H2 → loadV T 3 H2 rb 1 = some (.int .i64 y) := fun H2 hp => by
  refine loadV_one T3 rfl (loadN_pre hp ?_)
  rw [← hH1, ← hrb, loadN_app0]; rfl
 have q2 : ∀ H2, H1 <+: H2 → loadV T 3 H2 H.length 0 = some (.int .i64 i) := fun H2 hp => by
  refine loadV_one T3 rfl (loadN_pre hp ?_)
  rw [← hH1, List.append_assoc, loadN_app0]; rfl
 have q3 : ∀ H2, H1 <+: H2 → loadV T 3 H2 H.length 1 = some (.int .i64 h) := fun H2 hp => by
  refine loadV_one T3 rfl (loadN_pre hp ?_)
  rw [← hH1, List.append_assoc, loadN_app0]; rfl
 have q4 : ∀ H2, H1 <+: H2 → loadV T 23 H2 H.length 0 = some (.agg [.int .i64 i, .int .i64 h]) := fun H2 hp => by
  refine loadV_agg T23 rfl (loadN_pre hp ?_)
  rw [← hH1, List.append_assoc, loadN_app0]; rfl
 have lr : loadV T 144 H1 rb 0 = some (.agg [x, .int .i64 y]) := by
  refine loadV_agg T144 rfl ?_
  rw [← hH1, ← hrb, loadN_app0]; rfl
 have c1 := refFits_ H1 i h w ws (hw.mono p1) (by omega)
 have c2 := refRowMay_ H1 i h y x xs (hx.mono p1) (by omega)
 rw [hf] at c1
 rw [hsm, hfeed, hy] at c2
 have c3 := refOut_ H1 i h w x ws xs (hw.mono p1) (hx.mono p1) hf hfeed
 obtain ⟨u10, H2, c4, hm10⟩ := refHidden_ H1 i h w x ws xs (hw.mono p1) (hx.mono p1) hf hfeed
 obtain ⟨us, hus⟩ : ∃ us, units i h ws xs = us := ⟨_, rfl⟩
 have husm : ∀ z ∈ us, fixMay z = true := by
  rw [← hus]
  intro z hz
  obtain ⟨k, _, rfl⟩ := List.mem_map.1 hz
  exact plus_may _ _
 have husl : us.length = h := by rw [← hus]; simp [units]
 rw [hus] at hm10
 obtain ⟨u12, H3, c5, hm12⟩ := refActs_ H2 u10 us hm10.sl (by omega) husm
 obtain ⟨al, hal⟩ : ∃ al, acts us = al := ⟨_, rfl⟩
 have hall : al.length = h := by rw [← hal]; simp [acts, husl]
 rw [hal] at hm12
 obtain ⟨e, he⟩ : ∃ e, plus (outOf i h ws xs) (neg y) = e := ⟨_, rfl⟩
 have c6 : Call Tryz.prog 179 [.int .i64 (outOf i h ws xs), .int .i64 (IntKind.i64.wrap (0 - y))] H3 (.int .i64 e) H3 := by rw [← he]; exact refPlus_ H3 _ _
 have c7 := refsize_ H3 i h hi2 hh2
 have p13 : H1 <+: H3 := hm10.1.trans hm12.1
 have l1 := q4 H1 (List.prefix_refl _)
 have l2 := q0 H1 (List.prefix_refl _)
 have l3 := q1 H3 p13
 have l4 := q2 H3 p13
 have l5 := q3 H3 p13
 have l6 := q4 H3 p13
 obtain ⟨a, ha⟩ : ∃ a, h * (i + 1) = a := ⟨_, rfl⟩
 obtain ⟨n, hn⟩ : ∃ n, netSize i h = n := ⟨_, rfl⟩
 have hna : a + h + 1 = n := by rw [← hn, ← ha]; rfl
 rw [hn] at c7 hs
 have hsl10 := hm10.sl.mono hm12.1
 have hsl12 := hm12.sl
 have w1 : IntKind.i64.wrap ((i : Int) + 1) = ((i + 1 : Nat) : Int) := wrap_succ (by omega)
 have w2 : IntKind.i64.wrap ((h : Int) * ((i + 1 : Nat) : Int)) = (a : Int) := by rw [← Int.natCast_mul, ha]; exact wrap_nat (by omega)
 have w3 : IntKind.i64.wrap ((a : Int) + (h : Int)) = ((a + h : Nat) : Int) := by rw [← Int.natCast_add]; exact wrap_nat (by omega)
 -- what is to come out
 obtain ⟨G, hG⟩ : ∃ G, grad i h ws xs y = G := ⟨_, rfl⟩
 have hgr : G = (List.range h).flatMap (gradRow i h ws xs e us) ++ (al.map (fun a => times e a) ++ [e]) := by
  have hou : tells i h ws us = outOf i h ws xs := by rw [outOf, hus]
  rw [← hG]; unfold grad; simp only [hus, hou, he, hal]
 have hrl : ∀ k, (gradRow i h ws xs e us k).length = i + 1 := fun k => by simp [gradRow, hxl']
 have hfl := flat_len hrl h
 rw [ha] at hfl
 have hGl : G.length = n := by rw [hgr]; simp only [List.length_append, List.length_map, List.length_cons, List.length_nil, hfl, hall]; omega
 have g1 : ∀ k, k < h → ∀ j, j < i + 1 → G[k * (i + 1) + j]? = (gradRow i h ws xs e us k)[j]? := fun k hk j hj => by
  have hue := unit_end (i := i) hk
  rw [hgr, List.getElem?_append_left (by rw [hfl, ← ha]; omega)]
  exact flat_get hrl hj hk
 have g2 : ∀ k, k < h → G[a + k]? = some (times e (al.getD k 0)) := fun k hk => by
  rw [hgr, List.getElem?_append_right (by rw [hfl]; omega), hfl, Nat.add_sub_cancel_left, List.getElem?_append_left (by simp [hall, hk]), List.getElem?_map, getD_some (by omega)]
  rfl
 have g3 : G[a + h]? = some e := by
  rw [hgr, List.getElem?_append_right (by rw [hfl]; omega), hfl, Nat.add_sub_cancel_left, List.getElem?_append_right (by simp [hall])]
  simp [hall]
 rw [hG]
 have hm0 := int_make H3 n
 have p03 : H <+: H3 := p1.trans p13
 clear hgr hG hus hf hfeed hy hi' hh' hal he hm10 hm12 hsm hvx
 refine goW ?_
 refine l_heap (h' := H1) hH1 ?_
 rw [hrb]
 refine goW ?_
 refine l_callG c1 ?_
 refine goW ?_
 refine l_callG c2 ?_
 refine goW ?_
 refine cond_go (fun hb => ?_) (fun hb => ?_)
 ·cases hb
 clear hb c1 c2
 refine wq_cut (fun ρ => ρ 1 = w ∧ ρ 3 = .ptr H.length 0 ∧ ρ 5 = .ptr rb 0) ⟨rfl, rfl, rfl⟩ ?_
 rintro ρ ⟨h1, h3, h5⟩
 refine goW ?_
 refine l_callG c3 ?_
 refine goW ?_
 refine l_callG c4 ?_
 refine goW ?_
 refine l_callG c5 ?_
 refine goW ?_
 refine l_callG c6 ?_
 refine goW ?_
 refine l_callG c7 ?_
 refine goW ?_
 refine l_makeG T27 rfl T3 ?_
 refine l_heap (h' := H3 ++ [.row (zeros [.int .i64 0] n) true]) rfl ?_
 refine goW ?_
 clear c3 c4 c5 c6 c7 l1 l2 l3 l4 l5 l6 lr
 refine wq_loop (fun c ρ hp => ∃ k out, k ≤ h ∧ c = h - k ∧ Mine 1 intC H3 hp (.slc H3.length 0 n n true 1) out ∧ Fill G (fun p => p < k * (i + 1) ∨ (a ≤ p ∧ p < a + k)) out ∧ ρ 1 = w ∧ ρ 3 = .ptr H.length 0 ∧ ρ 5 = .ptr rb 0 ∧ ρ 10 = u10 ∧ ρ 12 = u12 ∧ ρ 13 = .int .i64 e ∧ ρ 14 = .int .i64 a ∧ ρ 15 = .slc H3.length 0 n n true 1 ∧ ρ 16 = .int .i64 (k : Nat)) ⟨0, _, Nat.zero_le _, rfl, hm0, ⟨by simp [hGl], fun p hp => by omega⟩, h1, h3, h5, rfl, rfl, rfl, rfl, rfl, rfl⟩ ?_
 clear h1 h3 h5
 clear ρ
 rintro _ ρ hp ⟨k, out, hk, rfl, hm, hF, h1, h3, h5, h10, h12, h13, h14, h15, h16⟩
 have m1 := p13.trans hm.1
 have l1 := q3 hp m1
 refine goW ?_
 refine cond_go (fun hb => ?_) (fun hb => ?_)
 ·have hk' : k < h := by simpa using hb
  clear hb
  have hue := unit_end (i := i) hk'
  have l0 := q2 hp m1
  have l2 := q0 hp m1
  have hol : out.length = n := by rw [hF.1, hGl]
  have hg1 := getD_some (xs := us) (k := k) (by omega)
  obtain ⟨b2, o2, _, hi2', rfl, _, hlo2, _⟩ := (hsl10.mono hm.1).get T27 rfl T3 rfl hg1
  have ho2 := loadV_one T3 rfl hlo2
  have hg2 := getD_some (xs := ws) (k := a + k) (by omega)
  obtain ⟨b3, o3, _, hi3, rfl, _, hlo3, _⟩ := (hw.mono (p1.trans m1)).get T27 rfl T3 rfl hg2
  have ho3 := loadV_one T3 rfl hlo3
  have c1 := refSlope_ hp (us.getD k 0) (husm _ (List.mem_iff_getElem?.2 ⟨k, hg1⟩))
  have c2 := refTimes_ hp e (ws.getD (a + k) 0)
  have c3 := refTimes_ hp (times e (ws.getD (a + k) 0)) (rise (us.getD k 0))
  obtain ⟨d, hd⟩ : ∃ d, times (times e (ws.getD (a + k) 0)) (rise (us.getD k 0)) = d := ⟨_, rfl⟩
  have hrow : gradRow i h ws xs e us k = xs.map (fun x => times d x) ++ [d] := by unfold gradRow; simp only [ha, hd]
  rw [hd] at c3
  obtain ⟨mm, hmm⟩ : ∃ mm, k * (i + 1) = mm := ⟨_, rfl⟩
  have w4 : IntKind.i64.wrap ((a : Int) + (k : Int)) = ((a + k : Nat) : Int) := by rw [← Int.natCast_add]; exact wrap_nat (by omega)
  have w5 : IntKind.i64.wrap ((k : Int) * ((i + 1 : Nat) : Int)) = (mm : Int) := by rw [← Int.natCast_mul, hmm]; exact wrap_nat (by omega)
  have w6 : IntKind.i64.wrap ((mm : Int) + (i : Int)) = ((mm + i : Nat) : Int) := by rw [← Int.natCast_add]; exact wrap_nat (by omega)
  have w7 := wrap_succ (n := k) (by omega)
  have hgk := g1 k hk'
  rw [hmm] at hgk hue hF
  have hma : mm + i < a := by omega
  clear g1 hd hg1 hg2 hlo2 hlo3
  refine goW ?_
  refine l_callG c1 ?_
  refine goW ?_
  refine l_callG c2 ?_
  refine goW ?_
  refine l_callG c3 ?_
  refine goW ?_
  refine wq_loop (fun c ρ hp => ∃ j out, j ≤ i ∧ c = i - j ∧ Mine 1 intC H3 hp (.slc H3.length 0 n n true 1) out ∧ Fill G (fun p => p < mm + j ∨ (a ≤ p ∧ p < a + k)) out ∧ ρ 1 = w ∧ ρ 3 = .ptr H.length 0 ∧ ρ 5 = .ptr rb 0 ∧ ρ 10 = u10 ∧ ρ 12 = u12 ∧ ρ 13 = .int .i64 e ∧ ρ 14 = .int .i64 a ∧ ρ 15 = .slc H3.length 0 n n true 1 ∧ ρ 16 = .int .i64 (k : Nat) ∧ ρ 19 = .int .i64 d ∧ ρ 20 = .int .i64 (j : Nat)) ⟨0, out, Nat.zero_le _, rfl, hm, by simpa using hF, h1, h3, h5, h10, h12, h13, h14, h15, h16, rfl, rfl⟩ ?_
  clear h1 h3 h5 h10 h12 h13 h14 h15 h16 c1 c2 c3 ho2 ho3 hi2' hi3 l0 l1 l2 hm hF m1 hol
  clear ρ
  clear out
  rintro _ ρ hp ⟨j, out, hj, rfl, hm, hF, h1, h3, h5, h10, h12, h13, h14, h15, h16, h19, h20⟩
  have m1 := p13.trans hm.1
  have l0 := q2 hp m1
  have hol : out.length = n := by rw [hF.1, hGl]
  refine goW ?_
  refine cond_go (fun hb => ?_) (fun hb => ?_)
  ·have hj' : j < i := by simpa using hb
   clear hb
   have l2 := q0 hp m1
   have hg := getD_some (xs := xs) (k := j) (by omega)
   obtain ⟨b2, o2, _, hi2', rfl, _, hlo2, _⟩ := (hx.mono (p1.trans m1)).get T27 rfl T3 rfl hg
   have ho2 := loadV_one T3 rfl hlo2
   have c1 := refTimes_ hp d (xs.getD j 0)
   obtain ⟨b3, o3, H', hi3, hst, hm2⟩ := int_store hm (k := mm + j) (by omega) (times d (xs.getD j 0))
   have hF2 := hF.put (D' := fun p => p < mm + (j + 1) ∨ (a ≤ p ∧ p < a + k)) (q := mm + j) (v := times d (xs.getD j 0)) (by
    rw [hgk j (by omega), hrow, List.getElem?_append_left (by simp; omega), List.getElem?_map, hg]; rfl) (fun p hp => by omega)
   have w8 : IntKind.i64.wrap ((mm : Int) + (j : Int)) = ((mm + j : Nat) : Int) := by rw [← Int.natCast_add]; exact wrap_nat (by omega)
   have w9 := wrap_succ (n := j) (by omega)
   clear hgk hg hlo2 hm hF hrow hrl w7 w6 w4 g2 g3
   refine goW ?_
   refine d_call0G c1 ?_
   refine goW ?_
   refine ⟨i - (j + 1), by omega, j + 1, _, hj', rfl, hm2, hF2, ?_⟩
   simp [put_app, put_none, *]
  ·have hj' : j = i := by have : ¬ j < i := by simpa using hb
                          omega
   subst hj'
   clear hb
   obtain ⟨b3, o3, H4, hi3, hst3, hm3⟩ := int_store hm (k := mm + j) (by omega) d
   have hF3 := hF.put (D' := fun p => p < mm + (j + 1) ∨ (a ≤ p ∧ p < a + k)) (q := mm + j) (v := d) (by
    rw [hgk j (by omega), hrow, List.getElem?_append_right (by simp; omega)]; simp [hxl']) (fun p hp => by omega)
   have hg1 := getD_some (xs := al) (k := k) (by omega)
   obtain ⟨b2, o2, _, hi2', rfl, _, hlo2, _⟩ := (hsl12.mono hm3.1).get T27 rfl T3 rfl hg1
   have ho2 := loadV_one T3 rfl hlo2
   have c1 := refTimes_ H4 e (al.getD k 0)
   obtain ⟨b4, o4, H5, hi4, hst4, hm4⟩ := int_store hm3 (k := a + k) (by simp; omega) (times e (al.getD k 0))
   have hF4 := hF3.put (D' := fun p => p < (k + 1) * (j + 1) ∨ (a ≤ p ∧ p < a + (k + 1))) (q := a + k) (g2 k hk') (fun p hp => by
    have : (k + 1) * (j + 1) = mm + (j + 1) := by rw [Nat.add_mul, hmm]; omega
    rw [this] at hp; omega)
   clear hgk hg1 hlo2 hm hm3 hF hF3 hrow hrl g2 g3
   refine goW ?_
   refine l_callG c1 ?_
   refine goW ?_
   refine ⟨h - (k + 1), by omega, k + 1, _, hk', rfl, hm4, hF4, ?_⟩
   simp [put_app, put_none, *]
 ·have hk' : k = h := by have : ¬ k < h := by simpa using hb
                         omega
  subst hk'
  clear hb
  have hol : out.length = n := by rw [hF.1, hGl]
  rw [ha] at hF
  obtain ⟨b3, o3, H4, hi3, hst3, hm3⟩ := int_store hm (k := a + k) (by omega) e
  have hF3 := hF.put (D' := fun p => p < n) (q := a + k) g3 (fun p hp => by omega)
  have hout := hF3.all (fun p hp => by omega)
  rw [hout] at hm3
  have hm4 := hm3.low p03
  clear g1 g2 g3 hF hF3 hm hm3 hout hrl
  refine goW ?_
  refine end_ret (by simp only [resRf, resRs, resR]; first | done | rfl) ⟨_, ?_, hm4⟩
  simp [put_app, put_none, *]
theorem grad_len {i h : Nat} {ws xs : List Int} {y : Int} (hx : xs.length = i) : (grad i h ws xs y).length = netSize i h := by
 unfold grad
 have hrl : ∀ e us k, (gradRow i h ws xs e us k).length = i + 1 := fun e us k => by simp [gradRow, hx]
 simp only [List.length_append, flat_len (hrl _ _), List.length_map, List.length_cons, List.length_nil, acts, units, List.length_range]
 unfold netSize; omega
theorem Rows.at {H : Heap} {v : V} {rs : List (List Int × Int)} (h : Rows H v rs) {k : Nat} {xs : List Int} {y : Int} (hk : rs[k]? = some (xs, y)) : ∃ b o x, idxV T 24 v (k : Int) = some (.ptr b o) ∧ loadV T 144 H b o = some (.agg [x, .int .i64 y]) ∧ loadV T 27 H b o = some x ∧ loadV T 3 H b (o + 1) = some (.int .i64 y) ∧ Sl 1 intC H x xs := by
 obtain ⟨rv, h1, h2, h3⟩ := h
 have hkl : k < rv.length := by rw [h2]; exact (List.getElem?_eq_some_iff.1 hk).1
 obtain ⟨⟨x, z⟩, hp⟩ : ∃ p, rv[k]? = some p := ⟨rv[k], by simp [hkl]⟩
 obtain ⟨hs, hz⟩ := h3 k _ _ hp hk
 obtain rfl : z = y := hz
 obtain ⟨b, o, _, hi, rfl, _, hlo, hlc⟩ := h1.get T24 rfl T144 rfl hp
 exact ⟨b, o, x, hi, loadV_agg T144 rfl hlo, loadV_one T27 rfl (hlc 0 _ rfl), loadV_one T3 rfl (hlc 1 _ rfl), hs⟩
theorem grad_may {i h : Nat} {ws xs : List Int} {y : Int} (hx : xs.length = i) (hs : netSize i h ≤ 16) : vecMay (grad i h ws xs y) = true := by
 have hl := grad_len (h := h) (ws := ws) (y := y) hx
 simp only [vecMay, Bool.and_eq_true, decide_eq_true_eq, List.all_eq_true]
 refine ⟨by omega, fun b hb => ?_⟩
 unfold grad at hb
 simp only at hb
 rcases List.mem_append.1 hb with hb | hb
 ·obtain ⟨k, _, hk⟩ := List.mem_flatMap.1 hb
  unfold gradRow at hk
  rcases List.mem_append.1 hk with hk | hk
  ·obtain ⟨z, _, rfl⟩ := List.mem_map.1 hk
   exact times_may _ _
  ·simp at hk; subst hk; exact times_may _ _
 ·rcases List.mem_append.1 hb with hb | hb
  ·obtain ⟨z, _, rfl⟩ := List.mem_map.1 hb
   exact times_may _ _
  ·simp at hb; subst hb; exact plus_may _ _
theorem pickN_lt {s k b : Nat} (hb : 1 ≤ b) : pickN s k b < b := by
 unfold pickN
 have h := drawN_lt s k
 have : drawN s k * b ≤ 65535 * b := Nat.mul_le_mul_right _ (by omega)
 omega
theorem agg_store {t b : Nat} {i : TI} {H : Heap} {cs cells : List V} (hT : T t = some i) (hb : H[b]? = some (.row cs true)) (hl : cells.length = i.size) (hc : cs.length = i.size) : storeV T t H b 0 (.agg cells) = some (H.set b (.row cells true)) := by
 have e : storeV T t H b 0 (.agg cells) = if cells.length = i.size then H.storeN b 0 cells else none := by simp only [storeV, hT, V.cells]; rfl
 rw [e, if_pos hl]
 unfold Heap.storeN
 rw [hb]
 simp only
 rw [if_pos (by omega), setL_tail (by omega)]
 have h1 : cs.drop (0 + cells.length) = [] := List.drop_eq_nil_of_le (by omega)
 rw [h1]
 simp
abbrev zeroChk : List V := [.nils, .nils, .int .i64 0, .int .i64 0, .int .i64 0]
theorem rows_at (c : Cfg) (q : Nat) (hq : q < c.rows.length) : ∃ xs y, c.rows[q]? = some (xs, y) := ⟨(c.rows[q]).1, (c.rows[q]).2, by simp [hq]⟩
theorem cfgMay_split {c : Cfg} (h : cfgMay c = true) : (2 ≤ c.m ∧ c.m ≤ 8) ∧ lossMay c.i c.h c.rows = true ∧ (0 ≤ c.seed ∧ c.seed ≤ 65535) ∧ (1 ≤ c.total ∧ c.total ≤ 32) ∧ (1 ≤ c.interval ∧ c.interval ≤ 8) := by
 simp only [cfgMay, Bool.and_eq_true, within_iff] at h
 exact ⟨h.1.1.1.1.1, h.1.1.1.1.2, h.1.1.1.2, h.1.1.2, h.1.2⟩
theorem lossMay_split {i h : Int} {rs : List (List Int × Int)} (hh : lossMay i h rs = true) : shapeMay i h = true ∧ 1 ≤ rs.length ∧ rs.length ≤ 8 ∧ ∀ r ∈ rs, rowOk i r = true := by
 simp only [lossMay, Bool.and_eq_true, decide_eq_true_eq, List.all_eq_true] at hh
 exact ⟨hh.1.1, hh.1.2.1, hh.1.2.2, hh.2⟩
theorem chkMay_split {ws vs : List Int} {r m t : Int} (h : chkMay ws vs r m t = true) : vecMay ws = true ∧ vecMay vs = true ∧ vs.length = ws.length ∧ 1 ≤ ws.length ∧ hyperMay r m = true ∧ 0 ≤ t ∧ t ≤ 32 := by
 simp only [chkMay, alike, List.all_cons, List.all_nil, Bool.and_true, Bool.and_eq_true, decide_eq_true_eq] at h
 obtain ⟨⟨⟨⟨⟨⟨a, _⟩, b, c⟩, d⟩, e⟩, f⟩, g⟩ := h
 exact ⟨a, b, c, by omega, e, by omega, g⟩
def trainQ (c : Cfg) (id t : Int) : Nat := pickN c.seed.toNat (4096 * id.toNat + t.toNat) c.rows.length
def trainG (c : Cfg) (id : Int) (ws : List Int) (t : Int) : List Int := match c.rows[trainQ c id t]? with
 | some (xs, y) => grad c.i.toNat c.h.toNat ws xs y
 | none => []
theorem one_good (H : Heap) (c : Cfg) (rv w v : V) (ws vs : List Int) (id r m t : Int) (hr : Rows H rv c.rows) (hw : Sl 1 intC H w ws) (hv : Sl 1 intC H v vs) (hc : cfgMay c = true) (hid : 0 ≤ id ∧ id < c.m) (hf : memFits c.i c.h ws vs r m t = true) (ht : t < c.total) :
  ∃ u1 u2 H' b1 b2, Call Tryz.prog 62 [.agg (cfgC c rv), .int .i64 id, .agg (chkC w v r m t)] H (.tup [.agg (chkC u1 u2 r m (t + 1)), .int .i64 0]) H' ∧ H <+: H' ∧ H.length ≤ b1 ∧ H.length ≤ b2 ∧ b1 ≠ b2 ∧ Own 1 intC H' b1 u1 (nextL r m ws vs (trainG c id ws t)) ∧ Own 1 intC H' b2 u2 (speedL m ws vs (trainG c id ws t)) := by
 suffices hgoal : ∃ u H', (∃ u1 u2 b1 b2, u = .tup [.agg (chkC u1 u2 r m (t + 1)), .int .i64 0] ∧ H <+: H' ∧ H.length ≤ b1 ∧ H.length ≤ b2 ∧ b1 ≠ b2 ∧ Own 1 intC H' b1 u1 (nextL r m ws vs (trainG c id ws t)) ∧ Own 1 intC H' b2 u2 (speedL m ws vs (trainG c id ws t))) ∧ Call Tryz.prog 62 [.agg (cfgC c rv), .int .i64 id, .agg (chkC w v r m t)] H u H' by
  obtain ⟨_, H', ⟨u1, u2, b1, b2, rfl, h1⟩, h2⟩ := hgoal
  exact ⟨u1, u2, H', b1, b2, h2, h1⟩
 refine call_wq fit mixed Tryz.func62 rfl rfl rfl (by kernel_rfl) ?_
 have hf' := hf
 simp only [memFits, Bool.and_eq_true] at hf'
 obtain ⟨hchk, hfit⟩ := hf'
 obtain ⟨hvw, hvv, hlv, hlw1, hhy, ht0, ht32⟩ := chkMay_split hchk
 obtain ⟨hm2, hloss, hseed, htot, _⟩ := cfgMay_split hc
 obtain ⟨_, hr1, hr8, hrok⟩ := lossMay_split hloss
 have hlw := vecMay_len hvw
 obtain ⟨H1, hH1⟩ : ∃ H1, H ++ [.row (cfgC c rv) true] = H1 := ⟨_, rfl⟩
 obtain ⟨H2, hH2⟩ : ∃ H2, H1 ++ [.row (chkC w v r m t) true] = H2 := ⟨_, rfl⟩
 obtain ⟨H3, hH3⟩ : ∃ H3, H2 ++ [.row zeroChk true] = H3 := ⟨_, rfl⟩
 have p1 : H <+: H1 := by rw [← hH1]; exact List.prefix_append _ _
 have p2 : H1 <+: H2 := by rw [← hH2]; exact List.prefix_append _ _
 have p3 : H2 <+: H3 := by rw [← hH3]; exact List.prefix_append _ _
 have p03 : H <+: H3 := p1.trans (p2.trans p3)
 have n1 : H.length < H1.length := by rw [← hH1]; simp
 have n2 : H1.length < H2.length := by rw [← hH2]; simp
 have n3 : H2.length < H3.length := by rw [← hH3]; simp
 have gc : H3[H.length]? = some (.row (cfgC c rv) true) := pre_get (p2.trans p3) (by rw [← hH1]; simp)
 have gk : H3[H1.length]? = some (.row (chkC w v r m t) true) := pre_get p3 (by rw [← hH2]; simp)
 have gz : H3[H2.length]? = some (.row zeroChk true) := by rw [← hH3]; simp
 have c1 := confMay_ H3 c rv (hr.mono p03) (by omega) (fun rr hrr => by
  have := hrok rr hrr
  simp only [rowOk, Bool.and_eq_true] at this
  have := vecMay_len (feeds_split this.1).2
  omega)
 rw [hc] at c1
 have c2 := confId_ H3 H.length c.m id (by unfold Heap.loadN; rw [gc]; rfl)
 rw [within_iff.2 ⟨hid.1, by rw [wrap_i64 (by omega) (by omega)]; omega⟩] at c2
 have c3 := memFits_ H3 H.length H1.length c rv w v ws vs r m t gc gk (hw.mono p03) (hv.mono p03) (by omega) (by omega)
 rw [hf] at c3
 have lc := ld_agg T26 rfl gc rfl
 have lt := ld_cell (q := 4) T3 rfl gk rfl
 have ltot := ld_cell (q := 5) T3 rfl gc rfl
 have dt : decide (t ≥ c.total) = false := decide_eq_false (by omega)
 -- the sample
 obtain ⟨s, hs⟩ : ∃ s : Nat, c.seed = s := ⟨c.seed.toNat, by omega⟩
 obtain ⟨d, hd⟩ : ∃ d : Nat, id = d := ⟨id.toNat, by omega⟩
 obtain ⟨tt, htt⟩ : ∃ tt : Nat, t = tt := ⟨t.toNat, by omega⟩
 obtain ⟨q, hq⟩ : ∃ q, trainQ c id t = q := ⟨_, rfl⟩
 have hq' : pickN s (4096 * d + tt) c.rows.length = q := by rw [← hq]; unfold trainQ; rw [hs, hd, htt]; rfl
 have hql : q < c.rows.length := by rw [← hq']; exact pickN_lt hr1
 have c4 := sampleRow_ H3 s d tt c.rows.length (by omega) (by omega) (by omega) hr1 hr8
 rw [hq', ← hs, ← hd, ← htt] at c4
 have lseed := ld_cell (q := 4) T3 rfl gc rfl
 have lrows := ld_cell (q := 3) T24 rfl gc rfl
 obtain ⟨rvv, hrv, hrl, _⟩ := hr.mono p03
 have hlen := hrv.len T24 rfl
 rw [hrl] at hlen
 -- the gradient
 obtain ⟨xs, y, hxy⟩ := rows_at c q hql
 obtain ⟨b0, o0, x, hi0, hl0, _, _, hx⟩ := (hr.mono p03).at hxy
 have hro := hrok _ (List.mem_iff_getElem?.2 ⟨q, hxy⟩)
 simp only [rowOk, Bool.and_eq_true] at hro
 obtain ⟨_, _, i', h', hi', hh', hi1, hi2, hh1, hh2, hsz⟩ := fits_split hfit
 have hxl : xs.length = i' := by have := (feeds_split hro.1).1; omega
 obtain ⟨gu, H4, c5, m4⟩ := grad_good H3 i' h' y w x ws xs (hw.mono p03) hx (by rw [← hi', ← hh']; exact hfit) (by rw [← hi']; exact hro.1) hro.2
 rw [← hi', ← hh'] at c5
 have hG : trainG c id ws t = grad i' h' ws xs y := by unfold trainG; rw [hq, hxy]; simp only [hi', hh', Int.toNat_natCast]
 rw [hG]
 have hns := small_size hi2 hh2
 have hsz16 : netSize i' h' ≤ 16 := by rw [← hsz]; exact hlw
 have hgm := grad_may (ws := ws) (y := y) (h := h') hxl hsz16
 have hgl := grad_len (h := h') (ws := ws) (y := y) hxl
 have p34 := m4.1
 have p04 := p03.trans p34
 have lsh : loadV T 23 H3 H.length 1 = some (.agg [.int .i64 c.i, .int .i64 c.h]) := by
  refine loadV_agg T23 rfl ?_
  unfold Heap.loadN
  rw [gc]; rfl
 have lws := ld_cell (q := 0) T27 rfl gk rfl
 have gk4 := pre_get p34 gk
 have lws4 := ld_cell (q := 0) T27 rfl gk4 rfl
 have lvs4 := ld_cell (q := 1) T27 rfl gk4 rfl
 have lhy4 : loadV T 43 H4 H1.length 2 = some (.agg [.int .i64 r, .int .i64 m]) := by
  refine loadV_agg T43 rfl ?_
  unfold Heap.loadN
  rw [gk4]; rfl
 obtain ⟨u1, u2, H5, b1, b2, c6, p45, hb1, hb2, hb12, o1, o2⟩ := optStep_ H4 w v gu ws vs _ r m (hw.mono p04) (hv.mono p04) m4.sl (by simp [alike, hvw, hvv, hgm, hlv, hgl, hsz]) hhy
 have gk5 := pre_get p45 gk4
 have gz5 := pre_get p45 (pre_get p34 gz)
 have lt5 := ld_cell (q := 4) T3 rfl gk5 rfl
 have lhy5 : loadV T 43 H5 H1.length 2 = some (.agg [.int .i64 r, .int .i64 m]) := by
  refine loadV_agg T43 rfl ?_
  unfold Heap.loadN
  rw [gk5]; rfl
 have wt : IntKind.i64.wrap (t + 1) = t + 1 := wrap_i64 (by omega) (by omega)
 have hu1 := o1.sl.two
 have hu2 := o2.sl.two
 have hst := agg_store (cells := chkC u1 u2 r m (t + 1)) T45 gz5 rfl rfl
 obtain ⟨H6, hH6⟩ : ∃ H6, H5.set H2.length (.row (chkC u1 u2 r m (t + 1)) true) = H6 := ⟨_, rfl⟩
 rw [hH6] at hst
 have l34 := p34.length_le
 have l45 := p45.length_le
 have g6 : H6[H2.length]? = some (.row (chkC u1 u2 r m (t + 1)) true) := by rw [← hH6, List.getElem?_set_self (by omega)]
 have p06 : H <+: H6 := by rw [← hH6]; exact pre_set (p04.trans p45) (by omega)
 have o16 : Own 1 intC H6 b1 u1 _ := Fr.own (b := H2.length) (H := H5) ⟨by rw [← hH6]; simp, fun b' _ hne => by rw [← hH6, List.getElem?_set_ne (fun h => hne h.symm)]⟩ (by omega) o1
 have o26 : Own 1 intC H6 b2 u2 _ := Fr.own (b := H2.length) (H := H5) ⟨by rw [← hH6]; simp, fun b' _ hne => by rw [← hH6, List.getElem?_set_ne (fun h => hne h.symm)]⟩ (by omega) o2
 have ln6 : Heap.loadN H6 H2.length 0 5 = some (chkC u1 u2 r m (t + 1)) := by unfold Heap.loadN; rw [g6]; rfl
 have hbb1 : H.length ≤ b1 := by omega
 have hbb2 : H.length ≤ b2 := by omega
 clear hid ht hm2 hseed htot ht0 ht32 hlw1 hr1 hr8 n1 n2 n3 l34 l45 hql hsz16 hns hi1 hi2 hh1 hh2 hlw
 clear hf hchk hfit hvw hvv hlv hhy hc hloss hrok hr hw hv gc gk gz gk4 gk5 gz5 g6 o1 o2 hrv hrl hx hro hi' hh' hgm hgl m4 hG hs hd htt hq hq' hsz hxl hxy
 rcases hu1 with rfl | ⟨_, _, _, _, _, _, rfl⟩ <;> rcases hu2 with rfl | ⟨_, _, _, _, _, _, rfl⟩
 all_goals
  refine goW ?_
  refine l_heap (h' := H3) (by rw [← hH3, ← hH2, ← hH1]) ?_
  rw [hH1, hH2]
  refine goW ?_
  refine l_callG c1 ?_
  refine goW ?_
  refine l_callG c2 ?_
  refine goW ?_
  refine l_callG c3 ?_
  refine goW ?_
  refine cond_go (fun hb => ?_) (fun hb => ?_)
  ·cases hb
  clear hb c1 c2 c3
  refine goW ?_
  refine cond_go (fun hb => ?_) (fun hb => ?_)
  ·cases hb
  clear hb
  refine wq_cut (fun ρ => ρ 1 = .int .i64 id ∧ ρ 3 = .ptr H.length 0 ∧ ρ 5 = .ptr H1.length 0 ∧ ρ 6 = .ptr H2.length 0) ⟨rfl, rfl, rfl, rfl⟩ ?_
  rintro ρ ⟨h1, h3, h5, h6⟩
  refine goW ?_
  refine l_callG c4 ?_
  refine goW ?_
  refine d_callG c5 (.inl p34) ?_
  refine goW ?_
  refine l_callG c6 ?_
  refine goW ?_
  refine l_step (s_store eLk eLk hst) ?_
  refine goW ?_
  refine end_ret (v := .tup [.agg (chkC _ _ r m (t + 1)), .int .i64 0]) ?_ ⟨_, _, b1, b2, rfl, p06, hbb1, hbb2, hb12, o16, o26⟩
  simp only [resRf, resRs, resR, put_app, put_none, Nat.reduceEqDiff, reduceIte, Option.some.injEq, reduceCtorEq, h6, T45, ln6]
  rfl
theorem one_bad (H : Heap) (c : Cfg) (rv w v : V) (ws vs : List Int) (id r m t e : Int) (hr : Rows H rv c.rows) (hw : Sl 1 intC H w ws) (hv : Sl 1 intC H v vs) (lr : c.rows.length ≤ 2 ^ 47) (lr2 : ∀ r ∈ c.rows, r.1.length ≤ 2 ^ 47) (lw : ws.length ≤ 2 ^ 47) (lv : vs.length ≤ 2 ^ 47)
  (he : ((cfgMay c && within id 0 (IntKind.i64.wrap (c.m - 1)) && memFits c.i c.h ws vs r m t) = false ∧ e = 2100) ∨ ((cfgMay c && within id 0 (IntKind.i64.wrap (c.m - 1)) && memFits c.i c.h ws vs r m t) = true ∧ decide (t ≥ c.total) = true ∧ e = 2101)) :
  Call Tryz.prog 62 [.agg (cfgC c rv), .int .i64 id, .agg (chkC w v r m t)] H (.tup [.agg zeroChk, .int .i64 e]) H := by
 suffices hgoal : ∃ u H', (u = .tup [.agg zeroChk, .int .i64 e] ∧ H <+: H') ∧ Call Tryz.prog 62 [.agg (cfgC c rv), .int .i64 id, .agg (chkC w v r m t)] H u H' by
  obtain ⟨_, H', ⟨rfl, h1⟩, h2⟩ := hgoal
  exact h2.forget h1 rfl
 refine call_wq fit mixed Tryz.func62 rfl rfl rfl (by kernel_rfl) ?_
 obtain ⟨H1, hH1⟩ : ∃ H1, H ++ [.row (cfgC c rv) true] = H1 := ⟨_, rfl⟩
 obtain ⟨H2, hH2⟩ : ∃ H2, H1 ++ [.row (chkC w v r m t) true] = H2 := ⟨_, rfl⟩
 obtain ⟨H3, hH3⟩ : ∃ H3, H2 ++ [.row zeroChk true] = H3 := ⟨_, rfl⟩
 have p1 : H <+: H1 := by rw [← hH1]; exact List.prefix_append _ _
 have p2 : H1 <+: H2 := by rw [← hH2]; exact List.prefix_append _ _
 have p3 : H2 <+: H3 := by rw [← hH3]; exact List.prefix_append _ _
 have p03 : H <+: H3 := p1.trans (p2.trans p3)
 have gc : H3[H.length]? = some (.row (cfgC c rv) true) := pre_get (p2.trans p3) (by rw [← hH1]; simp)
 have gk : H3[H1.length]? = some (.row (chkC w v r m t) true) := pre_get p3 (by rw [← hH2]; simp)
 have gz : H3[H2.length]? = some (.row zeroChk true) := by rw [← hH3]; simp
 have c1 := confMay_ H3 c rv (hr.mono p03) lr lr2
 have c2 := confId_ H3 H.length c.m id (by unfold Heap.loadN; rw [gc]; rfl)
 have c3 := memFits_ H3 H.length H1.length c rv w v ws vs r m t gc gk (hw.mono p03) (hv.mono p03) lw lv
 have lc := ld_agg T26 rfl gc rfl
 have lt := ld_cell (q := 4) T3 rfl gk rfl
 have ltot := ld_cell (q := 5) T3 rfl gc rfl
 have hst := agg_store (cells := zeroChk) T45 gz rfl rfl
 obtain ⟨H4, hH4⟩ : ∃ H4, H3.set H2.length (.row zeroChk true) = H4 := ⟨_, rfl⟩
 rw [hH4] at hst
 have hlt := (List.getElem?_eq_some_iff.1 gz).1
 have ln4 : Heap.loadN H4 H2.length 0 5 = some zeroChk := by unfold Heap.loadN; rw [← hH4, List.getElem?_set_self hlt]; rfl
 have p04 : H <+: H4 := by rw [← hH4]; exact pre_set p03 (p1.trans p2).length_le
 clear gc gk gz hr hw hv lr lr2 lw lv hlt p1 p2 p3 hH4
 obtain ⟨r1, e1⟩ : ∃ q, cfgMay c = q := ⟨_, rfl⟩
 obtain ⟨r2, e2⟩ : ∃ q, within id 0 (IntKind.i64.wrap (c.m - 1)) = q := ⟨_, rfl⟩
 obtain ⟨r3, e3⟩ : ∃ q, memFits c.i c.h ws vs r m t = q := ⟨_, rfl⟩
 rw [e1, e2, e3] at he
 rw [e1] at c1
 rw [e2] at c2
 rw [e3] at c3
 clear e1 e2 e3
 cases r1
 ·obtain rfl : e = 2100 := by rcases he with ⟨_, h⟩ | ⟨h, _⟩; exact h; cases h
  clear he
  refine goW ?_
  refine l_heap (h' := H3) (by rw [← hH3, ← hH2, ← hH1]) ?_
  rw [hH1, hH2]
  refine goW ?_
  refine l_callG c1 ?_
  refine goW ?_
  refine cond_go (fun hb => ?_) (fun hb => ?_)
  ·refine goW ?_
   refine end_ret (v := .tup [.agg zeroChk, .int .i64 2100]) ?_ ⟨rfl, p04⟩
   simp only [resRf, resRs, resR, put_app, put_none, Nat.reduceEqDiff, reduceIte, Option.some.injEq, reduceCtorEq, T45, ln4]
   rfl
  ·cases hb
 cases r2
 ·obtain rfl : e = 2100 := by rcases he with ⟨_, h⟩ | ⟨h, _⟩; exact h; cases h
  clear he
  refine goW ?_
  refine l_heap (h' := H3) (by rw [← hH3, ← hH2, ← hH1]) ?_
  rw [hH1, hH2]
  refine goW ?_
  refine l_callG c1 ?_
  refine goW ?_
  refine l_callG c2 ?_
  refine goW ?_
  refine cond_go (fun hb => ?_) (fun hb => ?_)
  ·refine goW ?_
   refine end_ret (v := .tup [.agg zeroChk, .int .i64 2100]) ?_ ⟨rfl, p04⟩
   simp only [resRf, resRs, resR, put_app, put_none, Nat.reduceEqDiff, reduceIte, Option.some.injEq, reduceCtorEq, T45, ln4]
   rfl
  ·cases hb
 cases r3
 ·obtain rfl : e = 2100 := by rcases he with ⟨_, h⟩ | ⟨h, _⟩; exact h; cases h
  clear he
  refine goW ?_
  refine l_heap (h' := H3) (by rw [← hH3, ← hH2, ← hH1]) ?_
  rw [hH1, hH2]
  refine goW ?_
  refine l_callG c1 ?_
  refine goW ?_
  refine l_callG c2 ?_
  refine goW ?_
  refine l_callG c3 ?_
  refine goW ?_
  refine cond_go (fun hb => ?_) (fun hb => ?_)
  ·refine goW ?_
   refine end_ret (v := .tup [.agg zeroChk, .int .i64 2100]) ?_ ⟨rfl, p04⟩
   simp only [resRf, resRs, resR, put_app, put_none, Nat.reduceEqDiff, reduceIte, Option.some.injEq, reduceCtorEq, T45, ln4]
   rfl
  ·cases hb
 obtain ⟨hd, rfl⟩ : decide (t ≥ c.total) = true ∧ e = 2101 := by
  rcases he with ⟨h, _⟩ | ⟨_, h1, h2⟩
  ·cases h
  ·exact ⟨h1, h2⟩
 clear he
 refine goW ?_
 refine l_heap (h' := H3) (by rw [← hH3, ← hH2, ← hH1]) ?_
 rw [hH1, hH2]
 refine goW ?_
 refine l_callG c1 ?_
 refine goW ?_
 refine l_callG c2 ?_
 refine goW ?_
 refine l_callG c3 ?_
 refine goW ?_
 refine cond_go (fun hb => ?_) (fun hb => ?_)
 ·cases hb
 clear hb
 refine goW ?_
 refine cond_go (fun hb => ?_) (fun hb => ?_)
 ·refine goW ?_
  refine end_ret (v := .tup [.agg zeroChk, .int .i64 2101]) ?_ ⟨rfl, p04⟩
  simp only [resRf, resRs, resR, put_app, put_none, Nat.reduceEqDiff, reduceIte, Option.some.injEq, reduceCtorEq, T45, ln4]
  rfl
 ·cases hb
end Go.Proofs.YtaofdhgkgklppaaGreat.VM
