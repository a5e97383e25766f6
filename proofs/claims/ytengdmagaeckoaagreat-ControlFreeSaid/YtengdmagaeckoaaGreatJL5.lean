/- Joined texts: ConfB, ConfC, NetD, NetE, OptA, NetF, NetG, NetH, NetI, BackA, BackB, TrainA. -/
import Derived.Test.YtengdmagaeckoaaGreatJL4
/- Layers 10, 14, 19, 20: rows, checkpoints, configs that may be: the program's. -/
namespace Go.Proofs.YtengdmagaeckoaaGreat.VM
open Go
set_option linter.unusedVariables false
set_option linter.unusedSimpArgs false
attribute [local irreducible] wq wqL wqD wqE wqO Th Bk EndR
set_option maxHeartbeats 8000000

theorem indexRows_ (H : Heap) (b : Nat) (i h : Int) (v : V) (rs : List (List Int × Int)) (hs : H.loadN b 0 2 = some [.int .i64 i, .int .i64 h]) (hr : Rows H v rs) (hl : rs.length ≤ 2 ^ 47) (hxl : ∀ r ∈ rs, r.1.length ≤ 2 ^ 47) :
    ∃ r : Int, decide (r ≥ 0) = !(rs.all (rowOk i)) ∧ Call Tryz.prog 149 [v, .fn 115 [.ptr b 0]] H (.int .i64 r) H := by
  obtain ⟨k0, hk0, hgood, hend⟩ := first_bad (rowOk i) rs
  obtain ⟨r, hre⟩ : ∃ r : Int, r = if k0 = rs.length then -1 else (k0 : Int) := ⟨_, rfl⟩
  refine ⟨r, ?_, ?_⟩
  · rcases hend with ⟨h1, h2⟩ | ⟨h2, x, h3, _⟩
    · rw [hre, if_pos h1, h2]; rfl
    · have : k0 < rs.length := (List.getElem?_eq_some_iff.1 h3).1
      rw [hre, if_neg (by omega), h2]
      simp
  refine call_plain fit mixed Tryz.func149 rfl rfl rfl (by kernel_rfl) rfl ?_
  obtain ⟨rv, hrv, hrl, hrr⟩ := hr
  have hlen := hrv.len T24 rfl
  rw [hrl] at hlen
  refine goW ?_
  refine wq_loop (fun c ρ hp => ∃ k, k ≤ k0 ∧ c = rs.length - k ∧ hp = H ∧ ρ 0 = v ∧ ρ 1 = .fn 115 [.ptr b 0] ∧ ρ 7 = .int .i64 rs.length ∧ ρ 8 = .int .i64 (k : Nat)) ⟨0, Nat.zero_le _, rfl, rfl, rfl, rfl, rfl, rfl⟩ ?_
  rintro _ ρ hp ⟨k, hk, rfl, rfl, h0, h1, h7, h8⟩
  refine goW ?_
  refine cond_go (fun hb => ?_) (fun hb => ?_)
  · have hk' : k < rs.length := by simpa using hb
    clear hb
    obtain ⟨⟨x, y⟩, hpk⟩ : ∃ p, rv[k]? = some p := ⟨rv[k]'(by omega), by simp⟩
    obtain ⟨⟨xs, y'⟩, hxk⟩ : ∃ x, rs[k]? = some x := ⟨rs[k], by simp [hk']⟩
    obtain ⟨s1, e1⟩ := hrr k _ _ hpk hxk
    obtain rfl : y = y' := e1
    obtain ⟨b2, o, _, hi, rfl, _, hlo, _⟩ := hrv.get T24 rfl T113 rfl hpk
    have ho : loadV T 113 hp b2 o = some (.agg [x, .int .i64 y]) := loadV_agg T113 rfl hlo
    have hw := wrap_succ (n := k) (by omega)
    have hodd := lossOdd_ hp b i h y x xs hs s1 (hxl _ (List.mem_iff_getElem?.2 ⟨k, hxk⟩))
    by_cases hkk : k < k0
    · have hg : rowOk i (xs, y) = true := hgood k _ hkk hxk
      rw [hg] at hodd
      clear hend hg hxk hpk hlo s1 hrr hgood
      refine goW ?_
      refine l_callG hodd ?_
      refine goW ?_
      refine cond_go (fun hb => ?_) (fun hb => ?_)
      · cases hb
      · refine goW ?_
        refine ⟨rs.length - (k + 1), by omega, k + 1, hkk, rfl, rfl, ?_⟩
        simp [put_app, put_none, *]
    · have hkk' : k = k0 := by omega
      rcases hend with ⟨h2, _⟩ | ⟨_, z, h3, h4⟩
      · omega
      · rw [← hkk', hxk] at h3
        obtain rfl := Option.some.inj h3
        rw [h4] at hodd
        rw [if_neg (by omega), ← hkk'] at hre
        subst hre
        clear hgood h3 h4 hkk hkk' hk hk0 hxk hpk hlo s1 hrr
        refine goW ?_
        refine l_callG hodd ?_
        refine goW ?_
        refine cond_go (fun hb => ?_) (fun hb => ?_)
        · refine goW ?_
          refine end_ret (by simp only [resRf, resRs, resR]; first | done | rfl) ⟨?_, by first | exact List.prefix_refl _ | exact List.prefix_append _ _ | assumption | (refine List.IsPrefix.trans (by assumption) (List.prefix_append _ _)) | (simp only [List.append_assoc, List.cons_append, List.nil_append, List.set_cons_zero, List.set_cons_succ]; exact ⟨_, by simp only [List.append_assoc, List.cons_append, List.nil_append]; rfl⟩)⟩
          simp [put_app, put_none]
        · cases hb
  · have hk' : k = rs.length := by have : ¬ k < rs.length := by simpa using hb
                                   omega
    rw [if_pos (by omega)] at hre
    clear hb hgood hend hrr
    refine goW ?_
    refine end_ret (by simp only [resRf, resRs, resR]; first | done | rfl) ⟨?_, by first | exact List.prefix_refl _ | exact List.prefix_append _ _ | assumption | (refine List.IsPrefix.trans (by assumption) (List.prefix_append _ _)) | (simp only [List.append_assoc, List.cons_append, List.nil_append, List.set_cons_zero, List.set_cons_succ]; exact ⟨_, by simp only [List.append_assoc, List.cons_append, List.nil_append]; rfl⟩)⟩
    rw [hre]
    simp [put_app, put_none]

theorem lossMay_ (H : Heap) (i h : Int) (v : V) (rs : List (List Int × Int)) (hr : Rows H v rs) (hl : rs.length ≤ 2 ^ 47) (hxl : ∀ r ∈ rs, r.1.length ≤ 2 ^ 47) : Call Tryz.prog 79 [.agg [.int .i64 i, .int .i64 h], v] H (.bool (lossMay i h rs)) H := by
  refine call_plain fit mixed Tryz.func79 rfl rfl rfl (by kernel_rfl) rfl ?_
  obtain ⟨H1, hH1⟩ : ∃ H1, H ++ [.row [.int .i64 i, .int .i64 h] true] = H1 := ⟨_, rfl⟩
  have p1 : H <+: H1 := by rw [← hH1]; exact List.prefix_append _ _
  have hs : H1.loadN H.length 0 2 = some [.int .i64 i, .int .i64 h] := by rw [← hH1, loadN_app0]; rfl
  have l0 : loadV T 23 H1 H.length 0 = some (.agg [.int .i64 i, .int .i64 h]) := loadV_agg T23 rfl hs
  have hr1 := hr.mono p1
  obtain ⟨rv, hrv, hrl, _⟩ := hr
  have hlen := hrv.len T24 rfl
  rw [hrl] at hlen
  have c1 := shapeMay_ H1 i h
  obtain ⟨r, hr2, hidx⟩ := indexRows_ H1 H.length i h v rs hs hr1 hl hxl
  have hcon : Call Tryz.prog 119 [v, .fn 115 [.ptr H.length 0]] H1 (.bool (!(rs.all (rowOk i)))) H1 := by
    refine call_plain fit mixed Tryz.func119 rfl rfl rfl (by kernel_rfl) rfl ?_
    refine goW ?_
    refine l_callG hidx ?_
    refine goW ?_
    refine end_finG ?_; simp [put_app, put_none, *]
  obtain ⟨q, hq⟩ : ∃ q, rs.all (rowOk i) = q := ⟨_, rfl⟩
  have hfin : lossMay i h rs = (shapeMay i h && (decide (1 ≤ rs.length) && decide (rs.length ≤ 8)) && q) := by unfold lossMay; rw [hq]
  rw [hq] at hcon
  rw [hfin]
  obtain ⟨r1, e1⟩ : ∃ r, shapeMay i h = r := ⟨_, rfl⟩
  rw [e1] at c1 ⊢
  clear hr2 hidx hfin hq hs hr1 hrv hrl hxl e1
  cases r1
  · refine goW ?_
    refine l_heap (h' := H1) hH1 ?_
    refine goW ?_
    refine l_callG c1 ?_
    refine goW ?_
    refine end_ret (by simp only [resRf, resRs, resR]; first | done | rfl) ⟨?_, p1⟩
    simp [put_app, put_none]
  by_cases g1 : 1 ≤ rs.length
  · have d1 : decide ((rs.length : Int) ≥ 1) = true := decide_eq_true (by omega)
    by_cases g2 : rs.length ≤ 8
    · have d2 : decide ((rs.length : Int) ≤ 8) = true := decide_eq_true (by omega)
      have e3 : (decide (1 ≤ rs.length) && decide (rs.length ≤ 8)) = true := by simp [g1, g2]
      rw [e3]
      clear g1 g2 e3 hl
      refine goW ?_
      refine l_heap (h' := H1) hH1 ?_
      refine goW ?_
      refine l_callG c1 ?_
      refine goW ?_
      refine l_callG hcon ?_
      refine goW ?_
      refine end_ret (by simp only [resRf, resRs, resR]; first | done | rfl) ⟨?_, p1⟩
      simp [put_app, put_none]
    · have d2 : decide ((rs.length : Int) ≤ 8) = false := decide_eq_false (by omega)
      have e3 : (decide (1 ≤ rs.length) && decide (rs.length ≤ 8)) = false := by simp [g2]
      rw [e3]
      clear g1 g2 e3 hl
      refine goW ?_
      refine l_heap (h' := H1) hH1 ?_
      refine goW ?_
      refine l_callG c1 ?_
      refine goW ?_
      refine end_ret (by simp only [resRf, resRs, resR]; first | done | rfl) ⟨?_, p1⟩
      simp [put_app, put_none]
  · have d1 : decide ((rs.length : Int) ≥ 1) = false := decide_eq_false (by omega)
    have e3 : (decide (1 ≤ rs.length) && decide (rs.length ≤ 8)) = false := by simp [g1]
    rw [e3]
    clear g1 e3 hl
    refine goW ?_
    refine l_heap (h' := H1) hH1 ?_
    refine goW ?_
    refine l_callG c1 ?_
    refine goW ?_
    refine end_ret (by simp only [resRf, resRs, resR]; first | done | rfl) ⟨?_, p1⟩
    simp [put_app, put_none]

/-- a config -/
structure Cfg where
  m : Int
  i : Int
  h : Int
  rows : List (List Int × Int)
  seed : Int
  total : Int
  interval : Int
  cutn : Int
  pert : Bool
abbrev cfgC (c : Cfg) (rv : V) : List V := [.int .i64 c.m, .int .i64 c.i, .int .i64 c.h, rv, .int .i64 c.seed, .int .i64 c.total, .int .i64 c.interval, .int .i64 c.cutn, .bool c.pert]
def cfgMay (c : Cfg) : Bool := within c.m 2 8 && lossMay c.i c.h c.rows && within c.seed 0 65535 && within c.total 1 32 && within c.interval 1 8 && within c.cutn 1 (IntKind.i64.wrap (c.m.tdiv 2))

theorem confMay_ (H : Heap) (c : Cfg) (rv : V) (hr : Rows H rv c.rows) (hl : c.rows.length ≤ 2 ^ 47) (hxl : ∀ r ∈ c.rows, r.1.length ≤ 2 ^ 47) : Call Tryz.prog 40 [.agg (cfgC c rv)] H (.bool (cfgMay c)) H := by
  refine call_plain fit mixed Tryz.func40 rfl rfl rfl (by kernel_rfl) rfl ?_
  obtain ⟨H1, hH1⟩ : ∃ H1, H ++ [.row (cfgC c rv) true] = H1 := ⟨_, rfl⟩
  have p1 : H <+: H1 := by rw [← hH1]; exact List.prefix_append _ _
  have hg : H1[H.length]? = some (.row (cfgC c rv) true) := by rw [← hH1]; simp
  have l0 := ld_cell (q := 0) T3 rfl hg rfl
  have l3 := ld_cell (q := 3) T24 rfl hg rfl
  have l4 := ld_cell (q := 4) T3 rfl hg rfl
  have l5 := ld_cell (q := 5) T3 rfl hg rfl
  have l6 := ld_cell (q := 6) T3 rfl hg rfl
  have l7 := ld_cell (q := 7) T3 rfl hg rfl
  have l1 : loadV T 23 H1 H.length 1 = some (.agg [.int .i64 c.i, .int .i64 c.h]) := by
    refine loadV_agg T23 rfl ?_
    rw [← hH1, loadN_app0]; rfl
  have c1 := confWithin_ H1 c.m 2 8
  have c2 := lossMay_ H1 c.i c.h rv c.rows (hr.mono p1) hl hxl
  have c3 := drawSeed_ H1 c.seed
  have c4 := confWithin_ H1 c.total 1 32
  have c5 := confWithin_ H1 c.interval 1 8
  have c6 := confWithin_ H1 c.cutn 1 (IntKind.i64.wrap (c.m.tdiv 2))
  unfold cfgMay
  obtain ⟨r1, e1⟩ : ∃ r, within c.m 2 8 = r := ⟨_, rfl⟩
  obtain ⟨r2, e2⟩ : ∃ r, lossMay c.i c.h c.rows = r := ⟨_, rfl⟩
  obtain ⟨r3, e3⟩ : ∃ r, within c.seed 0 65535 = r := ⟨_, rfl⟩
  obtain ⟨r4, e4⟩ : ∃ r, within c.total 1 32 = r := ⟨_, rfl⟩
  obtain ⟨r5, e5⟩ : ∃ r, within c.interval 1 8 = r := ⟨_, rfl⟩
  rw [e1] at c1 ⊢
  rw [e2] at c2 ⊢
  rw [e3] at c3 ⊢
  rw [e4] at c4 ⊢
  rw [e5] at c5 ⊢
  clear e1 e2 e3 e4 e5 hr hl hxl hg
  refine goW ?_
  refine l_heap (h' := H1) hH1 ?_
  refine goW ?_
  refine l_callG c1 ?_
  cases r1
  · refine goW ?_
    refine end_ret (by simp only [resRf, resRs, resR]; first | done | rfl) ⟨?_, p1⟩
    simp [put_app, put_none]
  refine goW ?_
  refine l_callG c2 ?_
  cases r2
  · refine goW ?_
    refine end_ret (by simp only [resRf, resRs, resR]; first | done | rfl) ⟨?_, p1⟩
    simp [put_app, put_none]
  refine goW ?_
  refine l_callG c3 ?_
  cases r3
  · refine goW ?_
    refine end_ret (by simp only [resRf, resRs, resR]; first | done | rfl) ⟨?_, p1⟩
    simp [put_app, put_none]
  refine goW ?_
  refine l_callG c4 ?_
  cases r4
  · refine goW ?_
    refine end_ret (by simp only [resRf, resRs, resR]; first | done | rfl) ⟨?_, p1⟩
    simp [put_app, put_none]
  refine goW ?_
  refine l_callG c5 ?_
  cases r5
  · refine goW ?_
    refine end_ret (by simp only [resRf, resRs, resR]; first | done | rfl) ⟨?_, p1⟩
    simp [put_app, put_none]
  refine goW ?_
  refine l_callG c6 ?_
  refine goW ?_
  refine end_ret (by simp only [resRf, resRs, resR]; first | done | rfl) ⟨?_, p1⟩
  simp [put_app, put_none]
end Go.Proofs.YtengdmagaeckoaaGreat.VM

/- Layers 14, 19, 20: a member's number; checkpoints that may be and fit: the program's. -/
namespace Go.Proofs.YtengdmagaeckoaaGreat.VM
open Go
set_option linter.unusedVariables false
set_option linter.unusedSimpArgs false
attribute [local irreducible] wq wqL wqD wqE wqO Th Bk EndR
set_option maxHeartbeats 8000000

theorem confId_ (H : Heap) (b : Nat) (m id : Int) (hb : H.loadN b 0 1 = some [.int .i64 m]) : Call Tryz.prog 42 [.ptr b 0, .int .i64 id] H (.bool (within id 0 (IntKind.i64.wrap (m - 1)))) H := by
  refine call_plain fit mixed Tryz.func42 rfl rfl rfl (by kernel_rfl) rfl ?_
  have l0 := loadV_one T3 rfl hb
  refine goW ?_
  refine l_callG (confWithin_ _ _ _ _) ?_
  refine goW ?_
  refine end_finG ?_; simp [put_app, put_none, *]

theorem fill_two {u v : V} (h1 : u.cells = [u] ∧ u.isTup = false) (h2 : v.cells = [v] ∧ v.isTup = false) (z : V) : fillV (rowPlace 1 2) (zeros [z] 2) [(0, u), (1, v)] = some [u, v] := by
  simp [fillV, rowPlace, zeros, h1.1, h1.2, h2.1, h2.2, setL]
theorem one_cells : ∀ us : List V, Cells 1 oneC us us
  | [] => Cells.nil
  | u :: us => Cells.cons (cs := [u]) rfl rfl (one_cells us)

def chkMay (ws vs : List Int) (r m t : Int) : Bool := (((alike ws.length [ws, vs] && decide (ws.length > 0)) && hyperMay r m) && decide (t ≥ 0)) && decide (t ≤ 32)
abbrev chkC (w v : V) (r m t : Int) : List V := [w, v, .int .i64 r, .int .i64 m, .int .i64 t]

theorem chkMay_ (H : Heap) (w v : V) (ws vs : List Int) (r m t : Int) (hw : Sl 1 intC H w ws) (hv : Sl 1 intC H v vs) (lw : ws.length ≤ 2 ^ 47) (lv : vs.length ≤ 2 ^ 47) : Call Tryz.prog 105 [.agg (chkC w v r m t)] H (.bool (chkMay ws vs r m t)) H := by
  refine call_plain fit mixed Tryz.func105 rfl rfl rfl (by kernel_rfl) rfl ?_
  obtain ⟨H1, hH1⟩ : ∃ H1, H ++ [.row (chkC w v r m t) true] = H1 := ⟨_, rfl⟩
  have p1 : H <+: H1 := by rw [← hH1]; exact List.prefix_append _ _
  obtain ⟨H2, hH2⟩ : ∃ H2, H1 ++ [.row [w, v] true] = H2 := ⟨_, rfl⟩
  have p2 : H1 <+: H2 := by rw [← hH2]; exact List.prefix_append _ _
  have hg1 : H1[H.length]? = some (.row (chkC w v r m t) true) := by rw [← hH1]; simp
  have hg : H2[H.length]? = some (.row (chkC w v r m t) true) := pre_get p2 hg1
  have k0 := ld_cell (q := 0) T30 rfl hg1 rfl
  have k1 := ld_cell (q := 1) T30 rfl hg1 rfl
  have l0 := ld_cell (q := 0) T30 rfl hg rfl
  have l4 := ld_cell (q := 4) T3 rfl hg rfl
  have l2 : loadV T 32 H2 H.length 2 = some (.agg [.int .i64 r, .int .i64 m]) := by
    refine loadV_agg T32 rfl (loadN_pre p2 ?_)
    rw [← hH1, loadN_app0]; rfl
  have hfill := fill_two hw.cells hv.cells .nils
  have hlen := hw.len T30 rfl
  have hal : Sl 1 oneC H2 (.slc H1.length 0 2 2 true 1) [w, v] := by rw [← hH2]; exact (own_make H1 (one_cells [w, v])).sl
  have c1 := alike_ H2 _ [w, v] [ws, vs] ws.length hal rfl (by simp) (fun k u xs hu hx => by
    match k, hu, hx with
    | 0, hu, hx => simp at hu hx; subst hu; subst hx; exact ⟨hw.mono (p1.trans p2), lw⟩
    | 1, hu, hx => simp at hu hx; subst hu; subst hx; exact ⟨hv.mono (p1.trans p2), lv⟩
    | k + 2, hu, hx => simp at hu) (fun xs hx => by simp at hx; rw [hx])
  have c2 := hyperMayP H2 r m
  have pend := p1.trans p2
  unfold chkMay
  obtain ⟨r1, e1⟩ : ∃ q, alike ws.length [ws, vs] = q := ⟨_, rfl⟩
  obtain ⟨r2, e2⟩ : ∃ q, hyperMay r m = q := ⟨_, rfl⟩
  rw [e1] at c1 ⊢
  rw [e2] at c2 ⊢
  have hd : decide ((ws.length : Int) > 0) = decide (ws.length > 0) := by apply Bool.eq_iff_iff.2; simp
  obtain ⟨r3, e3⟩ : ∃ q, decide (ws.length > 0) = q := ⟨_, rfl⟩
  obtain ⟨r4, e4⟩ : ∃ q, decide (t ≥ 0) = q := ⟨_, rfl⟩
  obtain ⟨r5, e5⟩ : ∃ q, decide (t ≤ 32) = q := ⟨_, rfl⟩
  rw [e3] at hd ⊢
  rw [e4, e5]
  clear e1 e2 e3 hw hv lw lv hg hg1 hal p1 p2
  refine goW ?_
  refine l_heap (h' := H1) hH1 ?_
  refine goW ?_
  refine l_step (s_buildSlice (ie := (T 30).get!) T195 rfl T30 eLk (by decide) hfill) ?_
  refine l_heap (h' := H2) hH2 ?_
  refine l_callG c1 ?_
  cases r1
  · refine goW ?_
    refine end_ret (by simp only [resRf, resRs, resR]; first | done | rfl) ⟨?_, pend⟩
    simp [put_app, put_none]
  cases r3
  · refine goW ?_
    refine end_ret (by simp only [resRf, resRs, resR]; first | done | rfl) ⟨?_, pend⟩
    simp [put_app, put_none]
  refine goW ?_
  refine l_callG c2 ?_
  cases r2
  · refine goW ?_
    refine end_ret (by simp only [resRf, resRs, resR]; first | done | rfl) ⟨?_, pend⟩
    simp [put_app, put_none]
  cases r4
  · refine goW ?_
    refine end_ret (by simp only [resRf, resRs, resR]; first | done | rfl) ⟨?_, pend⟩
    simp [put_app, put_none]
  refine goW ?_
  refine end_ret (by simp only [resRf, resRs, resR]; first | done | rfl) ⟨?_, pend⟩
  simp [put_app, put_none]

/-- a checkpoint that may be and fits -/
def memFits (i h : Int) (ws vs : List Int) (r m t : Int) : Bool := chkMay ws vs r m t && fits i h ws

end Go.Proofs.YtengdmagaeckoaaGreat.VM

/- Layer 6: what comes out of a net: the program's. -/
namespace Go.Proofs.YtengdmagaeckoaaGreat.VM
open Go
set_option linter.unusedVariables false
set_option linter.unusedSimpArgs false
attribute [local irreducible] wq wqL wqD wqE wqO Th Bk EndR
set_option maxHeartbeats 8000000

theorem unit_end {i h k : Nat} (hk : k < h) : k * (i + 1) + i < h * (i + 1) := by
  have := Nat.mul_le_mul_right (i + 1) (Nat.succ_le_of_lt hk)
  rw [Nat.succ_mul] at this
  omega
theorem small_size {i h : Nat} (hi : i ≤ 3) (hh : h ≤ 3) : h * (i + 1) ≤ 12 := Nat.le_trans (Nat.mul_le_mul hh (Nat.add_le_add_right hi 1)) (by decide)

theorem getD_some {xs : List Int} {k : Nat} (h : k < xs.length) : xs[k]? = some (xs.getD k 0) := by simp [List.getD_eq_getElem?_getD, h]

theorem unit_ (H : Heap) (b : Nat) (i h k : Nat) (w : V) (ws : List Int) (hn : NetAt H b i h w) (hw : Sl 1 intC H w ws) (hs : ws.length = netSize i h) (hi : i ≤ 3) (hh : h ≤ 3) (hk : k < h) :
    ∃ u, Call Tryz.prog 170 [.ptr b 0, .int .i64 k] H (.tup [u, .int .i64 (ws.getD (k * (i + 1) + i) 0)]) H ∧ Sl 1 intC H u ((ws.drop (k * (i + 1))).take i) := by
  have hsm := small_size hi hh
  have hue := unit_end (i := i) hk
  have hns : netSize i h = h * (i + 1) + h + 1 := rfl
  obtain ⟨a, ha⟩ : ∃ a, k * (i + 1) = a := ⟨_, rfl⟩
  rw [ha] at hue ⊢
  obtain ⟨u, hu, hus⟩ := hw.part (l := a) (k := a + i) (by omega) (by omega)
  rw [List.drop_take, Nat.add_sub_cancel_left] at hus
  refine ⟨u, ?_, hus⟩
  have hget := getD_some (xs := ws) (k := a + i) (by omega)
  obtain ⟨b2, o2, _, hi2, rfl, _, hlo2, _⟩ := hw.get T30 rfl T3 rfl hget
  have ho2 := loadV_one T3 rfl hlo2
  have l0 := loadV_one T3 rfl hn.a0
  have l2 := loadV_one T30 rfl hn.a2
  have w1 : IntKind.i64.wrap ((i : Int) + 1) = ((i + 1 : Nat) : Int) := wrap_succ (by omega)
  have w2 : IntKind.i64.wrap ((k : Int) * ((i + 1 : Nat) : Int)) = (a : Int) := by rw [← Int.natCast_mul, ha]; exact wrap_nat (by omega)
  have w3 : IntKind.i64.wrap ((a : Int) + (i : Int)) = ((a + i : Nat) : Int) := by rw [← Int.natCast_add]; exact wrap_nat (by omega)
  obtain ⟨r, hr⟩ : ∃ r, ws.getD (a + i) 0 = r := ⟨_, rfl⟩
  rw [hr] at ho2 ⊢
  clear hsm hue hns ha hus hget hr hs hi hh hk hlo2 hw hn
  suffices hh : ∃ v H', (v = .tup [u, .int .i64 r] ∧ H' = H) ∧ Call Tryz.prog 170 [.ptr b 0, .int .i64 k] H v H' by
    obtain ⟨v, H', ⟨rfl, rfl⟩, h4⟩ := hh
    exact h4
  refine call_wq fit mixed Tryz.func170 rfl rfl rfl (by kernel_rfl) ?_
  refine goW ?_
  refine end_ret (by simp only [resRf, resRs, resR]; first | done | rfl) ⟨?_, rfl⟩
  simp [put_app, put_none]

theorem last_ (H : Heap) (b : Nat) (i h : Nat) (w : V) (ws : List Int) (hn : NetAt H b i h w) (hw : Sl 1 intC H w ws) (hs : ws.length = netSize i h) (hi : i ≤ 3) (hh : h ≤ 3) :
    ∃ u, Call Tryz.prog 157 [.ptr b 0] H (.tup [u, .int .i64 (ws.getD (h * (i + 1) + h) 0)]) H ∧ Sl 1 intC H u ((ws.drop (h * (i + 1))).take h) := by
  have hsm := small_size hi hh
  have hns : netSize i h = h * (i + 1) + h + 1 := rfl
  obtain ⟨a, ha⟩ : ∃ a, h * (i + 1) = a := ⟨_, rfl⟩
  rw [ha] at hsm hns ⊢
  obtain ⟨u, hu, hus⟩ := hw.part (l := a) (k := a + h) (by omega) (by omega)
  rw [List.drop_take, Nat.add_sub_cancel_left] at hus
  refine ⟨u, ?_, hus⟩
  have hget := getD_some (xs := ws) (k := a + h) (by omega)
  obtain ⟨b2, o2, _, hi2, rfl, _, hlo2, _⟩ := hw.get T30 rfl T3 rfl hget
  have ho2 := loadV_one T3 rfl hlo2
  have l0 := loadV_one T3 rfl hn.a0
  have l1 := loadV_one T3 rfl hn.a1
  have l2 := loadV_one T30 rfl hn.a2
  have w1 : IntKind.i64.wrap ((i : Int) + 1) = ((i + 1 : Nat) : Int) := wrap_succ (by omega)
  have w2 : IntKind.i64.wrap ((h : Int) * ((i + 1 : Nat) : Int)) = (a : Int) := by rw [← Int.natCast_mul, ha]; exact wrap_nat (by omega)
  have w3 : IntKind.i64.wrap ((a : Int) + (h : Int)) = ((a + h : Nat) : Int) := by rw [← Int.natCast_add]; exact wrap_nat (by omega)
  obtain ⟨r, hr⟩ : ∃ r, ws.getD (a + h) 0 = r := ⟨_, rfl⟩
  rw [hr] at ho2 ⊢
  clear hsm hns ha hus hget hr hs hi hh hlo2 hw hn
  suffices hh : ∃ v H', (v = .tup [u, .int .i64 r] ∧ H' = H) ∧ Call Tryz.prog 157 [.ptr b 0] H v H' by
    obtain ⟨v, H', ⟨rfl, rfl⟩, h4⟩ := hh
    exact h4
  refine call_wq fit mixed Tryz.func157 rfl rfl rfl (by kernel_rfl) ?_
  refine goW ?_
  refine end_ret (by simp only [resRf, resRs, resR]; first | done | rfl) ⟨?_, rfl⟩
  simp [put_app, put_none]

/-- a list that is filled from its beginning -/
def fillTo (f : Nat → Int) (n k : Nat) : List Int := (List.range k).map f ++ List.replicate (n - k) 0
theorem fillTo_len {f : Nat → Int} {n k : Nat} (h : k ≤ n) : (fillTo f n k).length = n := by simp [fillTo]; omega
theorem fillTo_set {f : Nat → Int} {n k : Nat} (h : k < n) : (fillTo f n k).set k (f k) = fillTo f n (k + 1) := by
  unfold fillTo
  rw [List.range_succ, List.map_append, List.append_assoc]
  obtain ⟨m, hm⟩ : ∃ m, n - k = m + 1 := ⟨n - k - 1, by omega⟩
  have h2 : n - (k + 1) = m := by omega
  rw [hm, h2, List.replicate_succ, List.set_append_right _ _ (by simp)]
  simp
theorem fillTo_zero (f : Nat → Int) (n : Nat) : fillTo f n 0 = List.replicate n 0 := by simp [fillTo]
theorem fillTo_all (f : Nat → Int) (n : Nat) : fillTo f n n = (List.range n).map f := by simp [fillTo]

theorem int_store {B H : Heap} {v : V} {xs : List Int} (h : Mine 1 intC B H v xs) {k : Nat} (hk : k < xs.length) (y : Int) :
    ∃ b o H', idxV T 30 v (k : Int) = some (.ptr b o) ∧ storeV T 3 H b o (.int .i64 y) = some H' ∧ Mine 1 intC B H' v (xs.set k y) := by
  obtain ⟨b, o, h1, h2⟩ := h.store T30 rfl T3 rfl hk
  obtain ⟨H', h3, h4⟩ := h2 (.int .i64 y) y rfl rfl rfl
  exact ⟨b, o, H', h1, h3, h4⟩
theorem int_make (H : Heap) (n : Nat) : Mine 1 intC H (H ++ [.row (zeros [.int .i64 0] n) true]) (.slc H.length 0 n n true 1) (List.replicate n 0) := by
  have := mine_make (t := true) (List.prefix_refl H) (cells_zeros (z := [.int .i64 0]) (R := intC) (x := 0) rfl rfl n)
  rw [List.length_replicate] at this
  exact this

theorem units_ (H : Heap) (b : Nat) (i h : Nat) (w x : V) (ws xs : List Int) (hn : NetAt H b i h w) (hw : Sl 1 intC H w ws) (hx : Sl 1 intC H x xs) (hs : ws.length = netSize i h) (hi : i ≤ 3) (hh : h ≤ 3) (hxs : xs.length = i) :
    ∃ u H', Call Tryz.prog 154 [.ptr b 0, x] H u H' ∧ Mine 1 intC H H' u (units i h ws xs) := by
  suffices hgoal : ∃ u H', Mine 1 intC H H' u (units i h ws xs) ∧ Call Tryz.prog 154 [.ptr b 0, x] H u H' by
    obtain ⟨u, H', h1, h2⟩ := hgoal
    exact ⟨u, H', h2, h1⟩
  refine call_wq fit mixed Tryz.func154 rfl rfl rfl (by kernel_rfl) ?_
  have l1 := loadV_one T3 rfl hn.a1
  have hm0 := int_make H h
  rw [← fillTo_zero (unit i ws xs)] at hm0
  have hlen := hm0.sl.len T30 rfl
  rw [fillTo_len (Nat.zero_le _)] at hlen
  refine goW ?_
  refine l_makeG T30 rfl T3 ?_
  refine l_heap (h' := H ++ [.row (zeros [.int .i64 0] h) true]) rfl ?_
  refine goW ?_
  refine wq_loop (fun c ρ hp => ∃ k, k ≤ h ∧ c = h - k ∧ Mine 1 intC H hp (.slc H.length 0 h h true 1) (fillTo (unit i ws xs) h k) ∧ ρ 0 = .ptr b 0 ∧ ρ 1 = x ∧ ρ 5 = .slc H.length 0 h h true 1 ∧ ρ 16 = .int .i64 h ∧ ρ 17 = .int .i64 (k : Nat)) ⟨0, Nat.zero_le _, rfl, hm0, rfl, rfl, rfl, rfl, rfl⟩ ?_
  rintro _ ρ hp ⟨k, hk, rfl, hm, h0, h1, h5, h16, h17⟩
  have hpre := hm.1
  refine goW ?_
  refine cond_go (fun hb => ?_) (fun hb => ?_)
  · have hk' : k < h := by simpa using hb
    clear hb
    obtain ⟨uu, c1, hu⟩ := unit_ hp b i h k w ws (hn.mono hpre) (hw.mono hpre) hs hi hh hk'
    have hul : ((ws.drop (k * (i + 1))).take i).length ≤ i := by simp; omega
    have c2 := vecSum_ hp uu x _ xs hu (hx.mono hpre) (by omega) (by omega)
    have c3 := fixAnd_ hp (ws.getD (k * (i + 1) + i) 0) (dot ((ws.drop (k * (i + 1))).take i) xs)
    obtain ⟨b2, o2, hq, hi2, hst, hm2⟩ := int_store hm (k := k) (by rw [fillTo_len hk]; exact hk') (unit i ws xs k)
    rw [fillTo_set hk'] at hm2
    have c4 : Call Tryz.prog 155 _ hp (.int .i64 (unit i ws xs k)) hp := c3
    have hw := wrap_succ (n := k) (by omega)
    clear c3 hul hpre hn hu hx l1
    refine goW ?_
    refine l_callG c1 ?_
    refine goW ?_
    refine l_callG c2 ?_
    refine goW ?_
    refine l_callG c4 ?_
    refine goW ?_
    refine ⟨h - (k + 1), by omega, k + 1, hk', rfl, hm2, ?_⟩
    simp [put_app, put_none, *]
  · have hk' : k = h := by have : ¬ k < h := by simpa using hb
                           omega
    subst hk'
    rw [fillTo_all] at hm
    clear hb
    refine goW ?_
    refine end_ret (by simp only [resRf, resRs, resR]; first | done | rfl) ?_
    simp only [put_app, put_none]
    simp only [Nat.reduceEqDiff, reduceIte, Option.some.injEq, reduceCtorEq, h5]
    exact hm

theorem acts_ (H : Heap) (x : V) (hs : List Int) (hx : Sl 1 intC H x hs) (hl : hs.length ≤ 2 ^ 40) :
    ∃ u H', Call Tryz.prog 160 [x] H u H' ∧ Mine 1 intC H H' u (acts hs) := by
  suffices hgoal : ∃ u H', Mine 1 intC H H' u (acts hs) ∧ Call Tryz.prog 160 [x] H u H' by
    obtain ⟨u, H', h1, h2⟩ := hgoal
    exact ⟨u, H', h2, h1⟩
  refine call_wq fit mixed Tryz.func160 rfl rfl rfl (by kernel_rfl) ?_
  obtain ⟨n, hn⟩ : ∃ n, hs.length = n := ⟨_, rfl⟩
  have hlen := hx.len T30 rfl
  rw [hn] at hlen
  obtain ⟨f, hf⟩ : ∃ f : Nat → Int, f = fun j => hard (hs.getD j 0) := ⟨_, rfl⟩
  have hall : (List.range n).map f = acts hs := by
    subst hf
    apply List.ext_getElem
    · simp [acts, hn]
    · intro j h1 h2
      simp [acts] at h2 ⊢
      simp [List.getD_eq_getElem?_getD, h2]
  have hm0 := int_make H n
  rw [← fillTo_zero f] at hm0
  refine goW ?_
  refine l_makeG T30 rfl T3 ?_
  refine l_heap (h' := H ++ [.row (zeros [.int .i64 0] n) true]) rfl ?_
  refine goW ?_
  refine wq_loop (fun c ρ hp => ∃ k, k ≤ n ∧ c = n - k ∧ Mine 1 intC H hp (.slc H.length 0 n n true 1) (fillTo f n k) ∧ ρ 3 = .slc H.length 0 n n true 1 ∧ ρ 9 = x ∧ ρ 10 = .int .i64 n ∧ ρ 11 = .int .i64 (k : Nat)) ⟨0, Nat.zero_le _, rfl, hm0, rfl, rfl, rfl, rfl⟩ ?_
  rintro _ ρ hp ⟨k, hk, rfl, hm, h3, h9, h10, h11⟩
  refine goW ?_
  refine cond_go (fun hb => ?_) (fun hb => ?_)
  · have hk' : k < n := by simpa using hb
    clear hb
    have hget := getD_some (xs := hs) (k := k) (by omega)
    obtain ⟨b, o, _, hi, rfl, _, hlo, _⟩ := (hx.mono hm.1).get T30 rfl T3 rfl hget
    have ho := loadV_one T3 rfl hlo
    obtain ⟨b2, o2, hq, hi2, hst, hm2⟩ := int_store hm (k := k) (by rw [fillTo_len hk]; exact hk') (f k)
    rw [fillTo_set hk'] at hm2
    have c1 := actHard_ hp (hs.getD k 0)
    have hfk : hard (hs.getD k 0) = f k := by rw [hf]
    rw [hfk] at c1
    have hw := wrap_succ (n := k) (by omega)
    clear hfk hf hall hx hget hlo hm0 hlen
    refine goW ?_
    refine l_callG c1 ?_
    refine goW ?_
    refine ⟨n - (k + 1), by omega, k + 1, hk', rfl, hm2, ?_⟩
    simp [put_app, put_none, *]
  · have hk' : k = n := by have : ¬ k < n := by simpa using hb
                           omega
    subst hk'
    rw [fillTo_all, hall] at hm
    clear hb hf
    refine goW ?_
    refine end_ret (by simp only [resRf, resRs, resR]; first | done | rfl) ?_
    simp only [put_app, put_none]
    simp only [Nat.reduceEqDiff, reduceIte, Option.some.injEq, reduceCtorEq, h3]
    exact hm

theorem tells_ (H : Heap) (b : Nat) (i h : Nat) (w x : V) (ws hs : List Int) (hn : NetAt H b i h w) (hw : Sl 1 intC H w ws) (hx : Sl 1 intC H x hs) (hsz : ws.length = netSize i h) (hi : i ≤ 3) (hh : h ≤ 3) (hxs : hs.length = h) :
    Call Tryz.prog 156 [.ptr b 0, x] H (.int .i64 (tells i h ws hs)) H := by
  refine call_plain fit mixed Tryz.func156 rfl rfl rfl (by kernel_rfl) rfl ?_
  obtain ⟨u, c1, hu⟩ := last_ H b i h w ws hn hw hsz hi hh
  obtain ⟨a, H1, c2, hm⟩ := acts_ H x hs hx (by omega)
  have c3 := vecSum_ H1 u a _ _ (hu.mono hm.1) hm.sl (by simp [acts]; omega) (by simp; omega)
  have c4 := fixAnd_ H1 (ws.getD (h * (i + 1) + h) 0) (dot ((ws.drop (h * (i + 1))).take h) (acts hs))
  have c5 : Call Tryz.prog 155 _ H1 (.int .i64 (tells i h ws hs)) H1 := c4
  have hp := hm.1
  clear c4 hm hn hw hx hsz hi hh hxs hu
  refine goW ?_
  refine l_callG c1 ?_
  refine goW ?_
  refine l_callG c2 ?_
  refine goW ?_
  refine l_callG c3 ?_
  refine goW ?_
  refine l_callG c5 ?_
  refine goW ?_
  refine end_ret (by simp only [resRf, resRs, resR]; first | done | rfl) ⟨?_, hp⟩
  simp [put_app, put_none]
end Go.Proofs.YtengdmagaeckoaaGreat.VM

/- Layer 6: what comes out of a net: the document's. -/
namespace Go.Proofs.YtengdmagaeckoaaGreat.VM
open Go
set_option linter.unusedVariables false
set_option linter.unusedSimpArgs false
attribute [local irreducible] wq wqL wqD wqE wqO Th Bk EndR
set_option maxHeartbeats 8000000

theorem vecMay_part {ws : List Int} (h : vecMay ws = true) (a n : Nat) : vecMay ((ws.drop a).take n) = true := by
  simp only [vecMay, Bool.and_eq_true, decide_eq_true_eq, List.all_eq_true] at h ⊢
  refine ⟨by simp; omega, fun x hx => h.2 x ?_⟩
  exact List.mem_of_mem_drop (List.mem_of_mem_take hx)
theorem vecMay_len {ws : List Int} (h : vecMay ws = true) : ws.length ≤ 16 := by
  simp only [vecMay, Bool.and_eq_true, decide_eq_true_eq] at h; exact h.1
theorem hard_may (x : Int) : fixMay (hard x) = true := by
  have := clip_mem x (a := -65536) (b := 65536) (by decide)
  unfold hard
  exact within_iff.2 ⟨by omega, by omega⟩
theorem vecMay_acts {hs : List Int} (h : hs.length ≤ 16) : vecMay (acts hs) = true := by
  simp only [vecMay, Bool.and_eq_true, decide_eq_true_eq, List.all_eq_true]
  refine ⟨by simpa [acts] using h, fun x hx => ?_⟩
  obtain ⟨y, _, rfl⟩ := List.mem_map.1 hx
  exact hard_may y
theorem fits_split {i h : Int} {ws : List Int} (hf : fits i h ws = true) : shapeMay i h = true ∧ vecMay ws = true ∧ ∃ i' h' : Nat, i = i' ∧ h = h' ∧ 1 ≤ i' ∧ i' ≤ 3 ∧ 1 ≤ h' ∧ h' ≤ 3 ∧ ws.length = netSize i' h' := by
  simp only [fits, Bool.and_eq_true, decide_eq_true_eq] at hf
  obtain ⟨⟨h1, h2⟩, h3⟩ := hf
  obtain ⟨i', h', rfl, rfl, a, b, c, d⟩ := shape_nat h1
  refine ⟨h1, h2, i', h', rfl, rfl, a, b, c, d, ?_⟩
  rw [← size_cast] at h3
  exact Int.ofNat_inj.1 h3
theorem feeds_split {i : Int} {xs : List Int} (hf : feeds i xs = true) : (xs.length : Int) = i ∧ vecMay xs = true := by
  simpa only [feeds, Bool.and_eq_true, decide_eq_true_eq] using hf

theorem refAct_ (H : Heap) (x : Int) (hx : fixMay x = true) : Call Tryz.prog 162 [.int .i64 x] H (.tup [.int .i64 (hard x), .int .i64 0]) H := by
  refine call_plain fit mixed Tryz.func162 rfl rfl rfl (by kernel_rfl) rfl ?_
  have c1 := refFixMay_ H x
  rw [hx] at c1
  have c2 := refWithin_ H x (-65536) 65536 (by decide)
  have c3 : Call Tryz.prog 163 _ H (.int .i64 (hard x)) H := c2
  clear hx c2
  refine goW ?_
  refine l_callG c1 ?_
  refine goW ?_
  refine cond_go (fun hb => ?_) (fun hb => ?_)
  · cases hb
  refine goW ?_
  refine l_callG c3 ?_
  refine goW ?_
  refine end_finG ?_; simp [put_app, put_none, *]

theorem int_append {B H : Heap} {v : V} {xs : List Int} (h : Mine 1 intC B H v xs) (y : Int) (hl : xs.length ≤ 2 ^ 40) :
    ∃ v' H', newsOf T (T 3).get! 30 (.slc H.length 0 1 1 true 1) (H ++ [.row [.int .i64 y] true]) = some (1, [.int .i64 y]) ∧ appendV (T 3).get! v 1 [.int .i64 y] (H ++ [.row [.int .i64 y] true]) = some (v', H') ∧ Mine 1 intC B H' v' (xs ++ [y]) := by
  obtain ⟨v', H', h1, h2⟩ := (h.pre (List.prefix_append H [.row [.int .i64 y] true])).append (ie := (T 3).get!) rfl (Cells.one (R := intC) (cs := [.int .i64 y]) (x := y) rfl rfl) ⟨by show (xs.length + 1) * 8 ≤ _; omega, by simp; omega⟩
  exact ⟨v', H', news_row T30 rfl (by decide) rfl, h1, h2⟩
theorem range_snoc (f : Nat → Int) (k : Nat) : (List.range k).map f ++ [f k] = (List.range (k + 1)).map f := by rw [List.range_succ, List.map_append]; rfl

theorem refActs_ (H : Heap) (x : V) (hs : List Int) (hx : Sl 1 intC H x hs) (hl : hs.length ≤ 2 ^ 40) (hmay : ∀ y ∈ hs, fixMay y = true) :
    ∃ u H', Call Tryz.prog 135 [x] H u H' ∧ Mine 1 intC H H' u (acts hs) := by
  suffices hgoal : ∃ u H', Mine 1 intC H H' u (acts hs) ∧ Call Tryz.prog 135 [x] H u H' by
    obtain ⟨u, H', h1, h2⟩ := hgoal
    exact ⟨u, H', h2, h1⟩
  refine call_wq fit mixed Tryz.func135 rfl rfl rfl (by kernel_rfl) ?_
  obtain ⟨n, hn⟩ : ∃ n, hs.length = n := ⟨_, rfl⟩
  have hlen := hx.len T30 rfl
  rw [hn] at hlen
  refine goW ?_
  refine wq_loop (fun c ρ hp => ∃ k u, k ≤ n ∧ c = n - k ∧ Mine 1 intC H hp u (acts (hs.take k)) ∧ ρ 0 = x ∧ ρ 3 = u ∧ ρ 4 = .int .i64 (k : Nat)) ⟨0, .nils, Nat.zero_le _, rfl, Mine.nil (List.prefix_refl _), rfl, rfl, rfl⟩ ?_
  rintro _ ρ hp ⟨k, u, hk, rfl, hm, h0, h3, h4⟩
  refine goW ?_
  refine cond_go (fun hb => ?_) (fun hb => ?_)
  · have hk' : k < n := by simpa using hb
    clear hb
    have hget := getD_some (xs := hs) (k := k) (by omega)
    obtain ⟨b, o, _, hi, rfl, _, hlo, _⟩ := (hx.mono hm.1).get T30 rfl T3 rfl hget
    have ho := loadV_one T3 rfl hlo
    have c1 := refAct_ hp (hs.getD k 0) (hmay _ (List.mem_iff_getElem?.2 ⟨k, hget⟩))
    obtain ⟨v', H', n1, a1, m1⟩ := int_append hm (hard (hs.getD k 0)) (by simp [acts]; omega)
    have hnext : acts (hs.take k) ++ [hard (hs.getD k 0)] = acts (hs.take (k + 1)) := by rw [List.take_add_one, hget]; simp [acts]
    rw [hnext] at m1
    have hw := wrap_succ (n := k) (by omega)
    clear hnext hx hget hlo hlen hm
    refine goW ?_
    refine l_callG c1 ?_
    refine goW ?_
    refine l_appendG n1 a1 ?_
    refine goW ?_
    refine ⟨n - (k + 1), by omega, k + 1, v', hk', rfl, m1, ?_⟩
    simp [put_app, put_none, *]
  · have hk' : k = n := by have : ¬ k < n := by simpa using hb
                           omega
    subst hk'
    rw [List.take_of_length_le (by omega)] at hm
    clear hb
    refine goW ?_
    refine end_ret (by simp only [resRf, resRs, resR]; first | done | rfl) ?_
    simp only [put_app, put_none]
    simp only [Nat.reduceEqDiff, reduceIte, Option.some.injEq, reduceCtorEq, h3]
    exact hm

theorem refRowMay_ (H : Heap) (i h y : Int) (x : V) (xs : List Int) (hx : Sl 1 intC H x xs) (hl : xs.length ≤ 2 ^ 47) : Call Tryz.prog 114 [.agg [.int .i64 i, .int .i64 h], .agg [x, .int .i64 y]] H (.bool (shapeMay i h && feeds i xs && fixMay y)) H := by
  refine call_plain fit mixed Tryz.func114 rfl rfl rfl (by kernel_rfl) rfl ?_
  have p1 : H <+: H ++ [.row [.int .i64 i, .int .i64 h] true] ++ [.row [x, .int .i64 y] true] := by rw [List.append_assoc]; exact List.prefix_append _ _
  obtain ⟨H1, hH1⟩ : ∃ H1, H ++ [.row [.int .i64 i, .int .i64 h] true] ++ [.row [x, .int .i64 y] true] = H1 := ⟨_, rfl⟩
  have l0 : loadV T 23 H1 H.length 0 = some (.agg [.int .i64 i, .int .i64 h]) := by
    refine loadV_agg T23 rfl ?_
    rw [← hH1, List.append_assoc, loadN_app0]; rfl
  have l1 : loadV T 30 H1 (H ++ [.row [.int .i64 i, .int .i64 h] true] : Heap).length 0 = some x := by
    refine loadV_one T30 rfl ?_
    rw [← hH1, loadN_app0]; rfl
  have l2 : loadV T 3 H1 (H ++ [.row [.int .i64 i, .int .i64 h] true] : Heap).length 1 = some (.int .i64 y) := by
    refine loadV_one T3 rfl ?_
    rw [← hH1, loadN_app0]; rfl
  rw [hH1] at p1
  have c1 := refShapeMay_ H1 i h
  have c2 := refFeeds_ H1 i h x xs (hx.mono p1) hl
  have c3 := refFixMay_ H1 y
  obtain ⟨r1, e1⟩ : ∃ r, shapeMay i h = r := ⟨_, rfl⟩
  obtain ⟨r2, e2⟩ : ∃ r, feeds i xs = r := ⟨_, rfl⟩
  rw [e1] at c1 ⊢
  rw [e2] at c2 ⊢
  clear e1 e2 hx
  refine goW ?_
  refine l_heap (h' := H1) hH1 ?_
  refine goW ?_
  refine l_callG c1 ?_
  cases r1
  · refine goW ?_
    refine end_finG ?_; simp [put_app, put_none, *]
  · refine goW ?_
    refine l_callG c2 ?_
    cases r2
    · refine goW ?_
      refine end_finG ?_; simp [put_app, put_none, *]
    · refine goW ?_
      refine l_callG c3 ?_
      refine goW ?_
      refine end_finG ?_; simp [put_app, put_none, *]
end Go.Proofs.YtengdmagaeckoaaGreat.VM

/- Layer 8: the program's Step, of what may be. -/
namespace Go.Proofs.YtengdmagaeckoaaGreat.VM
open Go
set_option linter.unusedVariables false
set_option linter.unusedSimpArgs false
attribute [local irreducible] wq wqL wqD wqE wqO Th Bk EndR
set_option maxHeartbeats 8000000

end Go.Proofs.YtengdmagaeckoaaGreat.VM

/- Layer 6: the document's Hidden and Out. -/
namespace Go.Proofs.YtengdmagaeckoaaGreat.VM
open Go
set_option linter.unusedVariables false
set_option linter.unusedSimpArgs false
attribute [local irreducible] wq wqL wqD wqE wqO Th Bk EndR
set_option maxHeartbeats 8000000

theorem refHidden_ (H : Heap) (i h : Nat) (w x : V) (ws xs : List Int) (hw : Sl 1 intC H w ws) (hx : Sl 1 intC H x xs) (hf : fits i h ws = true) (hfeed : feeds i xs = true) :
    ∃ u H', Call Tryz.prog 134 [.agg [.int .i64 i, .int .i64 h], w, x] H (.tup [u, .int .i64 0]) H' ∧ Mine 1 intC H H' u (units i h ws xs) := by
  suffices hgoal : ∃ v H', (∃ u, v = .tup [u, .int .i64 0] ∧ Mine 1 intC H H' u (units i h ws xs)) ∧ Call Tryz.prog 134 [.agg [.int .i64 i, .int .i64 h], w, x] H v H' by
    obtain ⟨_, H', ⟨u, rfl, h1⟩, h2⟩ := hgoal
    exact ⟨u, H', h2, h1⟩
  refine call_wq fit mixed Tryz.func134 rfl rfl rfl (by kernel_rfl) ?_
  obtain ⟨hsm, hvw, i', h', hi', hh', hi1, hi2, hh1, hh2, hs⟩ := fits_split hf
  obtain rfl : i = i' := Int.ofNat_inj.1 hi'
  obtain rfl : h = h' := Int.ofNat_inj.1 hh'
  obtain ⟨hxl, hvx⟩ := feeds_split hfeed
  have hxl' : xs.length = i := Int.ofNat_inj.1 hxl
  have hwl := vecMay_len hvw
  obtain ⟨H1, hH1⟩ : ∃ H1, H ++ [.row [.int .i64 i, .int .i64 h] true] = H1 := ⟨_, rfl⟩
  have p1 : H <+: H1 := by rw [← hH1]; exact List.prefix_append _ _
  have q0 : ∀ H2, H1 <+: H2 → loadV T 3 H2 H.length 0 = some (.int .i64 i) := fun H2 hp => by
    refine loadV_one T3 rfl (loadN_pre hp ?_)
    rw [← hH1, loadN_app0]; rfl
  have q1 : ∀ H2, H1 <+: H2 → loadV T 3 H2 H.length 1 = some (.int .i64 h) := fun H2 hp => by
    refine loadV_one T3 rfl (loadN_pre hp ?_)
    rw [← hH1, loadN_app0]; rfl
  have l0 : loadV T 23 H1 H.length 0 = some (.agg [.int .i64 i, .int .i64 h]) := by
    refine loadV_agg T23 rfl ?_
    rw [← hH1, loadN_app0]; rfl
  have c1 := refFits_ H1 i h w ws (hw.mono p1) (by omega)
  have c2 := refFeeds_ H1 i h x xs (hx.mono p1) (by omega)
  rw [hf] at c1
  rw [hfeed] at c2
  clear hf hfeed hi' hh'
  have hsmall := small_size hi2 hh2
  have w1 : IntKind.i64.wrap ((i : Int) + 1) = ((i + 1 : Nat) : Int) := wrap_succ (by omega)
  refine goW ?_
  refine l_heap (h' := H1) hH1 ?_
  refine goW ?_
  refine l_callG c1 ?_
  refine goW ?_
  refine l_callG c2 ?_
  refine goW ?_
  refine cond_go (fun hb => ?_) (fun hb => ?_)
  · cases hb
  clear hb c1 c2 l0
  refine goW ?_
  refine wq_loop (fun c ρ hp => ∃ k u, k ≤ h ∧ c = h - k ∧ Mine 1 intC H1 hp u ((List.range k).map (unit i ws xs)) ∧ ρ 1 = w ∧ ρ 2 = x ∧ ρ 3 = .ptr H.length 0 ∧ ρ 8 = u ∧ ρ 9 = .int .i64 (k : Nat)) ⟨0, .nils, Nat.zero_le _, rfl, Mine.nil (List.prefix_refl _), rfl, rfl, rfl, rfl, rfl⟩ ?_
  rintro _ ρ hp ⟨k, u, hk, rfl, hm, h1, h2, h3, h8, h9⟩
  have l0 := q0 hp hm.1
  have l1 := q1 hp hm.1
  refine goW ?_
  refine cond_go (fun hb => ?_) (fun hb => ?_)
  · have hk' : k < h := by simpa using hb
    clear hb
    have hue := unit_end (i := i) hk'
    have hns : netSize i h = h * (i + 1) + h + 1 := rfl
    obtain ⟨a, ha⟩ : ∃ a, k * (i + 1) = a := ⟨_, rfl⟩
    have hf : unit i ws xs k = plus (ws.getD (k * (i + 1) + i) 0) (dot ((ws.drop (k * (i + 1))).take i) xs) := rfl
    rw [ha] at hue hf
    have hw2 := hw.mono (p1.trans hm.1)
    obtain ⟨pt, hpt, hps⟩ := hw2.part (l := a) (k := a + i) (by omega) (by omega)
    rw [List.drop_take, Nat.add_sub_cancel_left] at hps
    have hget := getD_some (xs := ws) (k := a + i) (by omega)
    obtain ⟨b2, o2, _, hi2', rfl, _, hlo2, _⟩ := hw2.get T30 rfl T3 rfl hget
    have ho2 := loadV_one T3 rfl hlo2
    have w2 : IntKind.i64.wrap ((k : Int) * ((i + 1 : Nat) : Int)) = (a : Int) := by rw [← Int.natCast_mul, ha]; exact wrap_nat (by omega)
    have w3 : IntKind.i64.wrap ((a : Int) + (i : Int)) = ((a + i : Nat) : Int) := by rw [← Int.natCast_add]; exact wrap_nat (by omega)
    have w4 := wrap_succ (n := k) (by omega)
    have c1 := refDot_ hp pt x _ xs hps (hx.mono (p1.trans hm.1)) (by simp; omega) (vecMay_part hvw _ _) hvx
    have c2 := refPlus_ hp (ws.getD (a + i) 0) (dot ((ws.drop a).take i) xs)
    rw [← hf] at c2
    obtain ⟨v', H', n1, a1, m1⟩ := int_append hm (unit i ws xs k) (by simp; omega)
    rw [range_snoc] at m1
    clear hf hue hns ha hps hget hlo2 hw2 hsmall hs hwl hxl hxl' hi1 hi2 hh1 hh2 hvw hvx hsm hm
    refine goW ?_
    refine l_callG c1 ?_
    refine goW ?_
    refine l_callG c2 ?_
    refine goW ?_
    refine l_appendG n1 a1 ?_
    refine goW ?_
    refine ⟨h - (k + 1), by omega, k + 1, v', hk', rfl, m1, ?_⟩
    simp [put_app, put_none, *]
  · have hk' : k = h := by have : ¬ k < h := by simpa using hb
                           omega
    subst hk'
    have hm2 := hm.low p1
    clear hb
    refine goW ?_
    refine end_ret (by simp only [resRf, resRs, resR]; first | done | rfl) ⟨u, ?_, hm2⟩
    simp [put_app, put_none, *]

theorem refOut_ (H : Heap) (i h : Nat) (w x : V) (ws xs : List Int) (hw : Sl 1 intC H w ws) (hx : Sl 1 intC H x xs) (hf : fits i h ws = true) (hfeed : feeds i xs = true) :
    Call Tryz.prog 133 [.agg [.int .i64 i, .int .i64 h], w, x] H (.tup [.int .i64 (outOf i h ws xs), .int .i64 0]) H := by
  refine call_plain fit mixed Tryz.func133 rfl rfl rfl (by kernel_rfl) rfl ?_
  obtain ⟨hsm, hvw, i', h', hi', hh', hi1, hi2, hh1, hh2, hs⟩ := fits_split hf
  obtain rfl : i = i' := Int.ofNat_inj.1 hi'
  obtain rfl : h = h' := Int.ofNat_inj.1 hh'
  obtain ⟨H1, hH1⟩ : ∃ H1, H ++ [.row [.int .i64 i, .int .i64 h] true] = H1 := ⟨_, rfl⟩
  have p1 : H <+: H1 := by rw [← hH1]; exact List.prefix_append _ _
  have q0 : ∀ H2, H1 <+: H2 → loadV T 3 H2 H.length 0 = some (.int .i64 i) := fun H2 hp => by
    refine loadV_one T3 rfl (loadN_pre hp ?_)
    rw [← hH1, loadN_app0]; rfl
  have q1 : ∀ H2, H1 <+: H2 → loadV T 3 H2 H.length 1 = some (.int .i64 h) := fun H2 hp => by
    refine loadV_one T3 rfl (loadN_pre hp ?_)
    rw [← hH1, loadN_app0]; rfl
  have l0 : loadV T 23 H1 H.length 0 = some (.agg [.int .i64 i, .int .i64 h]) := by
    refine loadV_agg T23 rfl ?_
    rw [← hH1, loadN_app0]; rfl
  obtain ⟨u, H2, c1, hm⟩ := refHidden_ H1 i h w x ws xs (hw.mono p1) (hx.mono p1) hf hfeed
  have r0 := q0 H2 hm.1
  have r1 := q1 H2 hm.1
  have hul : (units i h ws xs).length = h := by simp [units]
  obtain ⟨ac, H3, c2, hm2⟩ := refActs_ H2 u _ hm.sl (by rw [hul]; omega) (fun y hy => by obtain ⟨k, _, rfl⟩ := List.mem_map.1 hy; exact plus_may _ _)
  have r1' := q1 H3 (hm.1.trans hm2.1)
  have hns : netSize i h = h * (i + 1) + h + 1 := rfl
  have hsmall := small_size hi2 hh2
  obtain ⟨a, ha⟩ : ∃ a, h * (i + 1) = a := ⟨_, rfl⟩
  rw [ha] at hns hsmall
  have hw2 := hw.mono (p1.trans (hm.1.trans hm2.1))
  obtain ⟨pt, hpt, hps⟩ := hw2.part (l := a) (k := a + h) (by omega) (by omega)
  rw [List.drop_take, Nat.add_sub_cancel_left] at hps
  have hget := getD_some (xs := ws) (k := a + h) (by omega)
  obtain ⟨b2, o2, _, hi2', rfl, _, hlo2, _⟩ := hw2.get T30 rfl T3 rfl hget
  have ho2 := loadV_one T3 rfl hlo2
  have w1 : IntKind.i64.wrap ((i : Int) + 1) = ((i + 1 : Nat) : Int) := wrap_succ (by omega)
  have w2 : IntKind.i64.wrap ((h : Int) * ((i + 1 : Nat) : Int)) = (a : Int) := by rw [← Int.natCast_mul, ha]; exact wrap_nat (by omega)
  have w3 : IntKind.i64.wrap ((a : Int) + (h : Int)) = ((a + h : Nat) : Int) := by rw [← Int.natCast_add]; exact wrap_nat (by omega)
  have c3 := refDot_ H3 pt ac _ _ hps hm2.sl (by simp [acts, hul]; omega) (vecMay_part hvw _ _) (vecMay_acts (by rw [hul]; omega))
  have c4 := refPlus_ H3 (ws.getD (a + h) 0) (dot ((ws.drop a).take h) (acts (units i h ws xs)))
  have hf4 : outOf i h ws xs = plus (ws.getD (h * (i + 1) + h) 0) (dot ((ws.drop (h * (i + 1))).take h) (acts (units i h ws xs))) := rfl
  rw [ha] at hf4
  rw [← hf4] at c4
  have p3 : H2 <+: H3 := hm2.1
  have pend : H <+: H3 := p1.trans (hm.1.trans hm2.1)
  clear hf4 hns hsmall ha hps hget hlo2 hw2 hs hi1 hi2 hh1 hh2 hvw hsm hm hm2 hul hi' hh' hf hfeed q0 q1 hw hx p1
  refine goW ?_
  refine l_heap (h' := H1) hH1 ?_
  refine goW ?_
  refine l_callG c1 ?_
  refine goW ?_
  refine cond_go (fun hb => ?_) (fun hb => ?_)
  · cases hb
  clear hb c1
  refine goW ?_
  refine d_callG c2 (.inl p3) ?_
  refine goW ?_
  refine d_call0G c3 ?_
  refine goW ?_
  refine l_callG c4 ?_
  refine goW ?_
  refine end_ret (by simp only [resRf, resRs, resR]; first | done | rfl) ⟨?_, pend⟩
  simp [put_app, put_none]
end Go.Proofs.YtengdmagaeckoaaGreat.VM

/- Layer 7: the program's Grad. -/
namespace Go.Proofs.YtengdmagaeckoaaGreat.VM
open Go
set_option linter.unusedVariables false
set_option linter.unusedSimpArgs false
attribute [local irreducible] wq wqL wqD wqE wqO Th Bk EndR
set_option maxHeartbeats 8000000

end Go.Proofs.YtengdmagaeckoaaGreat.VM

/- Layer 7: the program's Grad where all fits. -/
namespace Go.Proofs.YtengdmagaeckoaaGreat.VM
open Go
set_option linter.unusedVariables false
set_option linter.unusedSimpArgs false
attribute [local irreducible] wq wqL wqD wqE wqO Th Bk EndR
set_option maxHeartbeats 8000000

end Go.Proofs.YtengdmagaeckoaaGreat.VM

/- Layer 7: the document's Grad. -/
namespace Go.Proofs.YtengdmagaeckoaaGreat.VM
open Go
set_option linter.unusedVariables false
set_option linter.unusedSimpArgs false
attribute [local irreducible] wq wqL wqD wqE wqO Th Bk EndR
set_option maxHeartbeats 8000000

/-- out is G where D holds -/
def Fill (G : List Int) (D : Nat → Prop) (out : List Int) : Prop := out.length = G.length ∧ ∀ p, D p → out[p]? = G[p]?
theorem Fill.put {G out : List Int} {D D' : Nat → Prop} {q : Nat} {v : Int} (h : Fill G D out) (hv : G[q]? = some v) (hd : ∀ p, D' p → D p ∨ p = q) : Fill G D' (out.set q v) := by
  refine ⟨by rw [List.length_set]; exact h.1, fun p hp => ?_⟩
  by_cases hq : q = p
  · subst hq
    have : q < G.length := (List.getElem?_eq_some_iff.1 hv).1
    rw [List.getElem?_set_self (by rw [h.1]; exact this), hv]
  · rw [List.getElem?_set_ne hq]
    rcases hd p hp with h1 | h1
    · exact h.2 p h1
    · exact absurd h1.symm hq
theorem Fill.all {G out : List Int} {D : Nat → Prop} (h : Fill G D out) (hd : ∀ p, p < G.length → D p) : out = G := by
  apply List.ext_getElem?
  intro p
  by_cases hp : p < G.length
  · exact h.2 p (hd p hp)
  · rw [List.getElem?_eq_none (by rw [h.1]; omega), List.getElem?_eq_none (by omega)]
end Go.Proofs.YtengdmagaeckoaaGreat.VM

/- Chapter 7: gradients of any input; what every program answers that is one. -/
namespace Go.Proofs.YtengdmagaeckoaaGreat.VM
open Go
set_option linter.unusedVariables false
set_option linter.unusedSimpArgs false
attribute [local irreducible] wq wqL wqD wqE wqO Th Bk EndR
set_option maxHeartbeats 8000000

end Go.Proofs.YtengdmagaeckoaaGreat.VM

/- Chapter 7: the statement Backs. -/
namespace Go.Proofs.YtengdmagaeckoaaGreat.VM
open Go
set_option linter.unusedVariables false
set_option linter.unusedSimpArgs false
attribute [local irreducible] wq wqL wqD wqE wqO Th Bk EndR
set_option maxHeartbeats 8000000

theorem Rows.at {H : Heap} {v : V} {rs : List (List Int × Int)} (h : Rows H v rs) {k : Nat} {xs : List Int} {y : Int} (hk : rs[k]? = some (xs, y)) : ∃ b o x, idxV T 24 v (k : Int) = some (.ptr b o) ∧ loadV T 113 H b o = some (.agg [x, .int .i64 y]) ∧ loadV T 30 H b o = some x ∧ loadV T 3 H b (o + 1) = some (.int .i64 y) ∧ Sl 1 intC H x xs := by
  obtain ⟨rv, h1, h2, h3⟩ := h
  have hkl : k < rv.length := by rw [h2]; exact (List.getElem?_eq_some_iff.1 hk).1
  obtain ⟨⟨x, z⟩, hp⟩ : ∃ p, rv[k]? = some p := ⟨rv[k], by simp [hkl]⟩
  obtain ⟨hs, hz⟩ := h3 k _ _ hp hk
  obtain rfl : z = y := hz
  obtain ⟨b, o, _, hi, rfl, _, hlo, hlc⟩ := h1.get T24 rfl T113 rfl hp
  exact ⟨b, o, x, hi, loadV_agg T113 rfl hlo, loadV_one T30 rfl (hlc 0 _ rfl), loadV_one T3 rfl (hlc 1 _ rfl), hs⟩

end Go.Proofs.YtengdmagaeckoaaGreat.VM

/- Layer 21: the program's One, where all may be. -/
namespace Go.Proofs.YtengdmagaeckoaaGreat.VM
open Go
set_option linter.unusedVariables false
set_option linter.unusedSimpArgs false
attribute [local irreducible] wq wqL wqD wqE wqO Th Bk EndR
set_option maxHeartbeats 8000000

theorem pickN_lt {s k b : Nat} (hb : 1 ≤ b) : pickN s k b < b := by
  unfold pickN
  have h := drawN_lt s k
  have : drawN s k * b ≤ 65535 * b := Nat.mul_le_mul_right _ (by omega)
  omega

/-- all of a checkpoint is written -/
theorem agg_store {t b : Nat} {i : TI} {H : Heap} {cs cells : List V} (hT : T t = some i) (hb : H[b]? = some (.row cs true)) (hl : cells.length = i.size) (hc : cs.length = i.size) : storeV T t H b 0 (.agg cells) = some (H.set b (.row cells true)) := by
  have e : storeV T t H b 0 (.agg cells) = if cells.length = i.size then H.storeN b 0 cells else none := by simp only [storeV, hT, V.cells]; rfl
  rw [e, if_pos hl]
  unfold Heap.storeN
  rw [hb]
  simp only
  rw [if_pos (by omega), setL_tail (by omega)]
  have h1 : cs.drop (0 + cells.length) = [] := List.drop_eq_nil_of_le (by omega)
  rw [h1]
  simp

abbrev zeroChk : List V := [.nils, .nils, .int .i64 0, .int .i64 0, .int .i64 0]
theorem cfgMay_split {c : Cfg} (h : cfgMay c = true) : (2 ≤ c.m ∧ c.m ≤ 8) ∧ lossMay c.i c.h c.rows = true ∧ (0 ≤ c.seed ∧ c.seed ≤ 65535) ∧ (1 ≤ c.total ∧ c.total ≤ 32) ∧ (1 ≤ c.interval ∧ c.interval ≤ 8) := by
  simp only [cfgMay, Bool.and_eq_true, within_iff] at h
  exact ⟨h.1.1.1.1.1, h.1.1.1.1.2, h.1.1.1.2, h.1.1.2, h.1.2⟩
theorem lossMay_split {i h : Int} {rs : List (List Int × Int)} (hh : lossMay i h rs = true) : shapeMay i h = true ∧ 1 ≤ rs.length ∧ rs.length ≤ 8 ∧ ∀ r ∈ rs, rowOk i r = true := by
  simp only [lossMay, Bool.and_eq_true, decide_eq_true_eq, List.all_eq_true] at hh
  exact ⟨hh.1.1, hh.1.2.1, hh.1.2.2, hh.2⟩
theorem chkMay_split {ws vs : List Int} {r m t : Int} (h : chkMay ws vs r m t = true) : vecMay ws = true ∧ vecMay vs = true ∧ vs.length = ws.length ∧ 1 ≤ ws.length ∧ hyperMay r m = true ∧ 0 ≤ t ∧ t ≤ 32 := by
  simp only [chkMay, alike, List.all_cons, List.all_nil, Bool.and_true, Bool.and_eq_true, decide_eq_true_eq] at h
  obtain ⟨⟨⟨⟨⟨⟨a, _⟩, b, c⟩, d⟩, e⟩, f⟩, g⟩ := h
  exact ⟨a, b, c, by omega, e, by omega, g⟩

end Go.Proofs.YtengdmagaeckoaaGreat.VM
