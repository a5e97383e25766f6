/- Joined texts: TrainB, RefA, OptB, TrainC, TrainD, HelpA, RowC, HelpB, LowP, LowA, LowB, InitP. -/
import Derived.Test.YtengdmagaeckoaaGreatJL5
/- Layer 21: the program's One, where something may not be. -/
namespace Go.Proofs.YtengdmagaeckoaaGreat.VM
open Go
set_option linter.unusedVariables false
set_option linter.unusedSimpArgs false
attribute [local irreducible] wq wqL wqD wqE wqO Th Bk EndR
set_option maxHeartbeats 8000000

end Go.Proofs.YtengdmagaeckoaaGreat.VM

/- Layers 8, 10, 14, 19: what may be, by the document. -/
namespace Go.Proofs.YtengdmagaeckoaaGreat.VM
open Go
set_option linter.unusedVariables false
set_option linter.unusedSimpArgs false
attribute [local irreducible] wq wqL wqD wqE wqO Th Bk EndR
set_option maxHeartbeats 8000000

theorem upTo12_ (H : Heap) (x a b : Int) : Call Tryz.prog 52 [.int .i64 x, .int .i64 a, .int .i64 b] H (.bool (within x a b)) H := by
  refine call_plain fit mixed Tryz.func52 rfl rfl rfl (by kernel_rfl) rfl ?_
  repeat' (first | (refine l_pl ?_; refine l_go ?_) | (refine d_pl ?_; refine d_go ?_) | (refine l_gd ?_; first | refine l_onG ?_ | refine l_offG ?_) | (refine d_gd ?_; first | refine d_onG ?_ | refine d_offG ?_) | refine wq_seq ?_ | refine wq_line ?_ | refine wq_draw (by decide +kernel) ?_ | refine wq_block ?_ | refine l_nil ?_ | refine d_nil ?_ | refine wq_skip ?_ | refine wq_ret ?_ | refine wq_exit ?_ | refine th_normal ?_ | refine th_ret ?_ | refine th_exit ?_ | refine bk_normal ?_ | refine bk_ret ?_ | refine bk_exit ?_ | refine bk_other rfl ?_ | first | refine l_partG (fun hb => ?_) (fun hb => ?_) | refine d_partG (fun hb => ?_) (fun hb => ?_))
  all_goals refine end_finG ?_; simp [put_app, put_none, *]
  all_goals simp_all [within]
  all_goals (first | done | omega)
theorem refHyperMay_ (H : Heap) (r m : Int) : Call Tryz.prog 56 [.agg [.int .i64 r, .int .i64 m]] H (.bool (hyperMay r m)) H := by
  refine call_plain fit mixed Tryz.func56 rfl rfl rfl (by kernel_rfl) rfl ?_
  refine goW ?_
  refine l_callG (upTo1_ ..) ?_
  refine goW ?_
  first | refine l_partG (fun hb => ?_) (fun hb => ?_) | refine d_partG (fun hb => ?_) (fun hb => ?_)
  · refine goW ?_
    refine l_callG (upTo1_ ..) ?_
    refine goW ?_
    refine end_finG ?_; simp [put_app, put_none, *]
    simp_all [hyperMay]
  · refine goW ?_
    refine end_finG ?_; simp [put_app, put_none, *]
    simp_all [hyperMay]

theorem lossMay_row {i h : Int} {rs : List (List Int × Int)} {xs : List Int} {y : Int} {k : Nat} (hk : rs[k]? = some (xs, y)) (hbad : (shapeMay i h && feeds i xs && fixMay y) = false) : lossMay i h rs = false := by
  cases hl : lossMay i h rs with
  | false => rfl
  | true =>
    obtain ⟨h1, _, _, h4⟩ := (by
      simp only [lossMay, Bool.and_eq_true, decide_eq_true_eq, List.all_eq_true] at hl
      exact ⟨hl.1.1, hl.1.2.1, hl.1.2.2, hl.2⟩ : shapeMay i h = true ∧ 1 ≤ rs.length ∧ rs.length ≤ 8 ∧ ∀ r ∈ rs, rowOk i r = true)
    have := h4 _ (List.mem_iff_getElem?.2 ⟨k, hk⟩)
    simp only [rowOk, Bool.and_eq_true] at this
    rw [h1, this.1, this.2] at hbad
    cases hbad

theorem refRowsMay_ (H : Heap) (i h : Int) (v : V) (rs : List (List Int × Int)) (hr : Rows H v rs) (hl : rs.length ≤ 2 ^ 47) (hxl : ∀ r ∈ rs, r.1.length ≤ 2 ^ 47) : Call Tryz.prog 77 [.agg [.int .i64 i, .int .i64 h], v] H (.bool (lossMay i h rs)) H := by
  refine call_plain fit mixed Tryz.func77 rfl rfl rfl (by kernel_rfl) rfl ?_
  obtain ⟨H1, hH1⟩ : ∃ H1, H ++ [.row [.int .i64 i, .int .i64 h] true] = H1 := ⟨_, rfl⟩
  have p1 : H <+: H1 := by rw [← hH1]; exact List.prefix_append _ _
  have hs : H1.loadN H.length 0 2 = some [.int .i64 i, .int .i64 h] := by rw [← hH1, loadN_app0]; rfl
  have l0 : loadV T 23 H1 H.length 0 = some (.agg [.int .i64 i, .int .i64 h]) := loadV_agg T23 rfl hs
  obtain ⟨rv, hrv, hrl, hrr⟩ := hr.mono p1
  have hlen := hrv.len T24 rfl
  rw [hrl] at hlen
  have c1 := refShapeMay_ H1 i h
  have c2 := upTo1_ H1 rs.length 1 8
  clear hs hr
  refine goW ?_
  refine wq_heap (h' := H1) hH1 ?_
  refine wq_loop (fun c ρ hp => ∃ k, k ≤ rs.length ∧ c = rs.length - k ∧ hp = H1 ∧ (∀ (j : Nat) xs y, j < k → rs[j]? = some (xs, y) → (shapeMay i h && feeds i xs && fixMay y) = true) ∧ ρ 1 = v ∧ ρ 2 = .ptr H.length 0 ∧ ρ 5 = .int .i64 (k : Nat)) ⟨0, Nat.zero_le _, rfl, rfl, by intro j xs y hj; omega, rfl, rfl, rfl⟩ ?_
  rintro _ ρ hp ⟨k, hk, rfl, hpe, hgood, h1, h2, h5⟩
  subst hpe
  refine goW ?_
  refine cond_go (fun hb => ?_) (fun hb => ?_)
  · have hk' : k < rs.length := by simpa using hb
    clear hb c1 c2
    obtain ⟨⟨x, y⟩, hpk⟩ : ∃ p, rv[k]? = some p := ⟨rv[k]'(by omega), by simp⟩
    obtain ⟨⟨xs, y'⟩, hxk⟩ : ∃ x, rs[k]? = some x := ⟨rs[k], by simp [hk']⟩
    obtain ⟨s1, e1⟩ := hrr k _ _ hpk hxk
    obtain rfl : y = y' := e1
    obtain ⟨b2, o, _, hi, rfl, _, hlo, _⟩ := hrv.get T24 rfl T113 rfl hpk
    have ho : loadV T 113 hp b2 o = some (.agg [x, .int .i64 y]) := loadV_agg T113 rfl hlo
    have hw := wrap_succ (n := k) (by omega)
    have c3 := refRowMay_ hp i h y x xs s1 (hxl _ (List.mem_iff_getElem?.2 ⟨k, hxk⟩))
    obtain ⟨q, hq⟩ : ∃ q, (shapeMay i h && feeds i xs && fixMay y) = q := ⟨_, rfl⟩
    rw [hq] at c3
    cases q
    · have hfin := lossMay_row hxk hq
      clear hgood hxk hpk hlo s1 hrr hq hxl hH1
      refine goW ?_
      refine d_call0G c3 ?_
      refine goW ?_
      refine cond_go (fun hb => ?_) (fun hb => ?_)
      · refine goW ?_
        refine end_ret (by simp only [resRf, resRs, resR]; first | done | rfl) ⟨?_, p1⟩
        rw [hfin]
        simp [put_app, put_none]
      · cases hb
    · have hall : ∀ (j : Nat) ys z, j < k + 1 → rs[j]? = some (ys, z) → (shapeMay i h && feeds i ys && fixMay z) = true := fun j ys z hj hy => by
        by_cases hjk : j = k
        · subst hjk; rw [hxk] at hy; cases hy; exact hq
        · exact hgood j ys z (by omega) hy
      clear hgood hxk hpk hlo s1 hrr hq hxl hH1
      refine goW ?_
      refine d_call0G c3 ?_
      refine goW ?_
      refine cond_go (fun hb => ?_) (fun hb => ?_)
      · cases hb
      · refine goW ?_
        refine ⟨rs.length - (k + 1), by omega, k + 1, hk', rfl, rfl, hall, ?_⟩
        simp [put_app, put_none, *]
  · have hk' : k = rs.length := by have : ¬ k < rs.length := by simpa using hb
                                   omega
    have hw8 : within (rs.length : Int) 1 8 = (decide (1 ≤ rs.length) && decide (rs.length ≤ 8)) := by
      apply Bool.eq_iff_iff.2; simp [within]; omega
    have hfin : lossMay i h rs = (shapeMay i h && (decide (1 ≤ rs.length) && decide (rs.length ≤ 8))) := by
      unfold lossMay
      cases hsm : shapeMay i h with
      | false => simp
      | true =>
        have hall : rs.all (rowOk i) = true := List.all_eq_true.2 fun r hr => by
          obtain ⟨j, hj⟩ := List.mem_iff_getElem?.1 hr
          have := hgood j r.1 r.2 (by have := (List.getElem?_eq_some_iff.1 hj).1; omega) hj
          rw [hsm] at this
          simpa [rowOk] using this
        rw [hall]; simp
    rw [hw8] at c2
    rw [hfin]
    obtain ⟨q, hq⟩ : ∃ q, (decide (1 ≤ rs.length) && decide (rs.length ≤ 8)) = q := ⟨_, rfl⟩
    obtain ⟨r1, e1⟩ : ∃ q, shapeMay i h = q := ⟨_, rfl⟩
    rw [hq] at c2 ⊢
    rw [e1] at c1 ⊢
    clear hb hgood hrr hfin hw8 hq e1 hk' hxl hH1
    refine goW ?_
    refine l_callG c1 ?_
    cases r1
    · refine goW ?_
      refine end_ret (by simp only [resRf, resRs, resR]; first | done | rfl) ⟨?_, p1⟩
      simp [put_app, put_none]
    · refine goW ?_
      refine l_callG c2 ?_
      refine goW ?_
      refine end_ret (by simp only [resRf, resRs, resR]; first | done | rfl) ⟨?_, p1⟩
      simp [put_app, put_none]

theorem refConfMay_ (H : Heap) (c : Cfg) (rv : V) (hr : Rows H rv c.rows) (hl : c.rows.length ≤ 2 ^ 47) (hxl : ∀ r ∈ c.rows, r.1.length ≤ 2 ^ 47) : Call Tryz.prog 36 [.agg (cfgC c rv)] H (.bool (cfgMay c)) H := by
  refine call_plain fit mixed Tryz.func36 rfl rfl rfl (by kernel_rfl) rfl ?_
  obtain ⟨H1, hH1⟩ : ∃ H1, H ++ [.row (cfgC c rv) true] = H1 := ⟨_, rfl⟩
  have p1 : H <+: H1 := by rw [← hH1]; exact List.prefix_append _ _
  have hg : H1[H.length]? = some (.row (cfgC c rv) true) := by rw [← hH1]; simp
  have l0 := ld_cell (q := 0) T3 rfl hg rfl
  have l3 := ld_cell (q := 3) T24 rfl hg rfl
  have l4 := ld_cell (q := 4) T3 rfl hg rfl
  have l5 := ld_cell (q := 5) T3 rfl hg rfl
  have l6 := ld_cell (q := 6) T3 rfl hg rfl
  have l7 := ld_cell (q := 7) T3 rfl hg rfl
  have l1 : loadV T 23 H1 H.length 1 = some (.agg [.int .i64 c.i, .int .i64 c.h]) := by
    refine loadV_agg T23 rfl ?_
    rw [← hH1, loadN_app0]; rfl
  have c1 := upTo12_ H1 c.m 2 8
  have c2 := refRowsMay_ H1 c.i c.h rv c.rows (hr.mono p1) hl hxl
  have c3 := upTo12_ H1 c.seed 0 65535
  have c4 := upTo12_ H1 c.total 1 32
  have c5 := upTo12_ H1 c.interval 1 8
  have c6 := upTo12_ H1 c.cutn 1 (IntKind.i64.wrap (c.m.tdiv 2))
  unfold cfgMay
  obtain ⟨r1, e1⟩ : ∃ r, within c.m 2 8 = r := ⟨_, rfl⟩
  obtain ⟨r2, e2⟩ : ∃ r, lossMay c.i c.h c.rows = r := ⟨_, rfl⟩
  obtain ⟨r3, e3⟩ : ∃ r, within c.seed 0 65535 = r := ⟨_, rfl⟩
  obtain ⟨r4, e4⟩ : ∃ r, within c.total 1 32 = r := ⟨_, rfl⟩
  obtain ⟨r5, e5⟩ : ∃ r, within c.interval 1 8 = r := ⟨_, rfl⟩
  rw [e1] at c1 ⊢
  rw [e2] at c2 ⊢
  rw [e3] at c3 ⊢
  rw [e4] at c4 ⊢
  rw [e5] at c5 ⊢
  clear e1 e2 e3 e4 e5 hr hl hxl hg
  refine goW ?_
  refine l_heap (h' := H1) hH1 ?_
  refine goW ?_
  refine l_callG c1 ?_
  cases r1
  · refine goW ?_
    refine end_ret (by simp only [resRf, resRs, resR]; first | done | rfl) ⟨?_, p1⟩
    simp [put_app, put_none]
  refine goW ?_
  refine l_callG c2 ?_
  cases r2
  · refine goW ?_
    refine end_ret (by simp only [resRf, resRs, resR]; first | done | rfl) ⟨?_, p1⟩
    simp [put_app, put_none]
  refine goW ?_
  refine l_callG c3 ?_
  cases r3
  · refine goW ?_
    refine end_ret (by simp only [resRf, resRs, resR]; first | done | rfl) ⟨?_, p1⟩
    simp [put_app, put_none]
  refine goW ?_
  refine l_callG c4 ?_
  cases r4
  · refine goW ?_
    refine end_ret (by simp only [resRf, resRs, resR]; first | done | rfl) ⟨?_, p1⟩
    simp [put_app, put_none]
  refine goW ?_
  refine l_callG c5 ?_
  cases r5
  · refine goW ?_
    refine end_ret (by simp only [resRf, resRs, resR]; first | done | rfl) ⟨?_, p1⟩
    simp [put_app, put_none]
  refine goW ?_
  refine l_callG c6 ?_
  refine goW ?_
  refine end_ret (by simp only [resRf, resRs, resR]; first | done | rfl) ⟨?_, p1⟩
  simp [put_app, put_none]

theorem refChkMay_ (H : Heap) (w v : V) (ws vs : List Int) (r m t : Int) (hw : Sl 1 intC H w ws) (hv : Sl 1 intC H v vs) (lw : ws.length ≤ 2 ^ 47) (lv : vs.length ≤ 2 ^ 47) : Call Tryz.prog 88 [.agg (chkC w v r m t)] H (.bool (chkMay ws vs r m t)) H := by
  refine call_plain fit mixed Tryz.func88 rfl rfl rfl (by kernel_rfl) rfl ?_
  obtain ⟨H1, hH1⟩ : ∃ H1, H ++ [.row (chkC w v r m t) true] = H1 := ⟨_, rfl⟩
  have p1 : H <+: H1 := by rw [← hH1]; exact List.prefix_append _ _
  have hg1 : H1[H.length]? = some (.row (chkC w v r m t) true) := by rw [← hH1]; simp
  have k0 := ld_cell (q := 0) T30 rfl hg1 rfl
  have k1 := ld_cell (q := 1) T30 rfl hg1 rfl
  have l4 := ld_cell (q := 4) T3 rfl hg1 rfl
  have l2 : loadV T 32 H1 H.length 2 = some (.agg [.int .i64 r, .int .i64 m]) := by
    refine loadV_agg T32 rfl ?_
    rw [← hH1, loadN_app0]; rfl
  have hlen := hw.len T30 rfl
  have hlen2 := hv.len T30 rfl
  have c1 := refVecMay_ H1 w ws (hw.mono p1) lw
  have c2 := refVecMay_ H1 v vs (hv.mono p1) lv
  have c3 := refHyperMay_ H1 r m
  have c4 := upTo12_ H1 t 0 32
  have hfin : chkMay ws vs r m t = (vecMay ws && (vecMay vs && (decide (vs.length = ws.length) && (decide (ws.length > 0) && (hyperMay r m && within t 0 32))))) := by
    unfold chkMay alike within
    simp only [List.all_cons, List.all_nil, decide_true, Bool.and_true]
    cases vecMay ws <;> cases vecMay vs <;> cases decide (vs.length = ws.length) <;> cases decide (ws.length > 0) <;> cases hyperMay r m <;> cases decide (t ≥ 0) <;> simp
  have d1 : ((ws.length : Int) == (vs.length : Int)) = decide (vs.length = ws.length) := by apply Bool.eq_iff_iff.2; simp; omega
  have d2 : decide ((ws.length : Int) > 0) = decide (ws.length > 0) := by apply Bool.eq_iff_iff.2; simp
  rw [hfin]
  obtain ⟨r1, e1⟩ : ∃ q, vecMay ws = q := ⟨_, rfl⟩
  obtain ⟨r2, e2⟩ : ∃ q, vecMay vs = q := ⟨_, rfl⟩
  obtain ⟨r3, e3⟩ : ∃ q, decide (vs.length = ws.length) = q := ⟨_, rfl⟩
  obtain ⟨r4, e4⟩ : ∃ q, decide (ws.length > 0) = q := ⟨_, rfl⟩
  obtain ⟨r5, e5⟩ : ∃ q, hyperMay r m = q := ⟨_, rfl⟩
  rw [e1] at c1 ⊢
  rw [e2] at c2 ⊢
  rw [e3] at d1 ⊢
  rw [e4] at d2 ⊢
  rw [e5] at c3 ⊢
  clear e1 e2 e3 e4 e5 hfin hw hv lw lv hg1
  refine goW ?_
  refine l_heap (h' := H1) hH1 ?_
  refine goW ?_
  refine l_callG c1 ?_
  cases r1
  · refine goW ?_
    refine end_ret (by simp only [resRf, resRs, resR]; first | done | rfl) ⟨?_, p1⟩
    simp [put_app, put_none]
  refine goW ?_
  refine l_callG c2 ?_
  cases r2
  · refine goW ?_
    refine end_ret (by simp only [resRf, resRs, resR]; first | done | rfl) ⟨?_, p1⟩
    simp [put_app, put_none]
  cases r3
  · refine goW ?_
    refine end_ret (by simp only [resRf, resRs, resR]; first | done | rfl) ⟨?_, p1⟩
    simp [put_app, put_none]
  cases r4
  · refine goW ?_
    refine end_ret (by simp only [resRf, resRs, resR]; first | done | rfl) ⟨?_, p1⟩
    simp [put_app, put_none]
  refine goW ?_
  refine l_callG c3 ?_
  cases r5
  · refine goW ?_
    refine end_ret (by simp only [resRf, resRs, resR]; first | done | rfl) ⟨?_, p1⟩
    simp [put_app, put_none]
  refine goW ?_
  refine l_callG c4 ?_
  refine goW ?_
  refine end_ret (by simp only [resRf, resRs, resR]; first | done | rfl) ⟨?_, p1⟩
  simp [put_app, put_none]
end Go.Proofs.YtengdmagaeckoaaGreat.VM

/- Layer 8: the document's Step, of what may be. -/
namespace Go.Proofs.YtengdmagaeckoaaGreat.VM
open Go
set_option linter.unusedVariables false
set_option linter.unusedSimpArgs false
attribute [local irreducible] wq wqL wqD wqE wqO Th Bk EndR
set_option maxHeartbeats 8000000

theorem Mine.keep {α : Type} {sz : Nat} {R : List V → α → Prop} {B H H' : Heap} {u v : V} {xs : List α} (h : Mine sz R B H v xs) (hk : Keep u H H') (hb : B <+: H') (ha : Apart u v) : Mine sz R B H' v xs := by
  refine ⟨hb, h.2.imp id ?_⟩
  rintro ⟨b, h1, h2⟩
  have hvb := h2.blk
  obtain ⟨cap, t, cs, h3, h4, h5, h6⟩ := h2
  exact ⟨b, h1, cap, t, cs, h3, h4, by rw [hk.2 b (List.getElem?_eq_some_iff.1 h5).1 fun e => ha b b e hvb rfl]; exact h5, h6⟩
theorem Apart.symm {u v : V} (h : Apart u v) : Apart v u := fun b c hb hc e => h c b hc hb e.symm

theorem int_app {B H : Heap} {v : V} {xs : List Int} (h : Mine 1 intC B H v xs) (y : Int) (hl : xs.length ≤ 2 ^ 40) :
    ∃ v' H', newsOf T (T 3).get! 30 (.slc H.length 0 1 1 true 1) (H ++ [.row [.int .i64 y] true]) = some (1, [.int .i64 y]) ∧ appendV (T 3).get! v 1 [.int .i64 y] (H ++ [.row [.int .i64 y] true]) = some (v', H') ∧ Mine 1 intC B H' v' (xs ++ [y]) ∧ Keep v (H ++ [.row [.int .i64 y] true]) H' ∧ Moved v (H ++ [.row [.int .i64 y] true]) v' := by
  obtain ⟨v', H', h1, h2, h3, h4⟩ := (h.pre (List.prefix_append H [.row [.int .i64 y] true])).app (ie := (T 3).get!) rfl (Cells.one (R := intC) (cs := [.int .i64 y]) (x := y) rfl rfl) ⟨by show (xs.length + 1) * 8 ≤ _; omega, by simp; omega⟩
  exact ⟨v', H', news_row T30 rfl (by decide) rfl, h1, h2, h3, h4⟩

end Go.Proofs.YtengdmagaeckoaaGreat.VM

/- Layer 21: the document's Train, where all may be. -/
namespace Go.Proofs.YtengdmagaeckoaaGreat.VM
open Go
set_option linter.unusedVariables false
set_option linter.unusedSimpArgs false
attribute [local irreducible] wq wqL wqD wqE wqO Th Bk EndR
set_option maxHeartbeats 8000000

theorem Mine.set {α : Type} {sz : Nat} {R : List V → α → Prop} {B H K : Heap} {v : V} {xs : List α} {c : Nat} {k : Blk} (h : Mine sz R B H v xs) (hk : K <+: H.set c k) (hl : K.length ≤ B.length) (hc : c < B.length) : Mine sz R K (H.set c k) v xs := by
  refine ⟨hk, h.2.imp id ?_⟩
  rintro ⟨b, h1, cap, t, cs, h3, h4, h5, h6⟩
  exact ⟨b, by omega, cap, t, cs, h3, h4, by rw [List.getElem?_set_ne (by omega)]; exact h5, h6⟩

end Go.Proofs.YtengdmagaeckoaaGreat.VM

/- Layer 21: the document's Train, where something may not be. -/
namespace Go.Proofs.YtengdmagaeckoaaGreat.VM
open Go
set_option linter.unusedVariables false
set_option linter.unusedSimpArgs false
attribute [local irreducible] wq wqL wqD wqE wqO Th Bk EndR
set_option maxHeartbeats 8000000

end Go.Proofs.YtengdmagaeckoaaGreat.VM

/- The statements' helpers: checkpoints that are copied, compared, written over. -/
namespace Go.Proofs.YtengdmagaeckoaaGreat.VM
open Go
set_option linter.unusedVariables false
set_option linter.unusedSimpArgs false
attribute [local irreducible] wq wqL wqD wqE wqO Th Bk EndR
set_option maxHeartbeats 8000000

end Go.Proofs.YtengdmagaeckoaaGreat.VM

/- The statements' helpers: rows of data that are copied: all of the copy is new. -/
namespace Go.Proofs.YtengdmagaeckoaaGreat.VM
open Go
set_option linter.unusedVariables false
set_option linter.unusedSimpArgs false
attribute [local irreducible] wq wqL wqD wqE wqO Th Bk EndR
set_option maxHeartbeats 8000000

/-- rows of data that lie in blocks of their own behind B -/
def RowsM (B H : Heap) (v : V) (rs : List (List Int × Int)) : Prop := ∃ rv, Mine 2 rowC B H v rv ∧ RowsAt H rv rs ∧ ∀ p ∈ rv, ∀ c, p.1.blk = some c → B.length ≤ c
theorem RowsM.rows {B H : Heap} {v : V} {rs : List (List Int × Int)} (h : RowsM B H v rs) : Rows H v rs := by
  obtain ⟨rv, h1, h2, _⟩ := h
  exact ⟨rv, h1.sl, h2⟩
theorem RowsM.pre {B H : Heap} {v : V} {rs : List (List Int × Int)} (h : RowsM B H v rs) : B <+: H := by
  obtain ⟨rv, h1, _⟩ := h
  exact h1.1
/-- one block that lay before is written -/
theorem RowsM.set {B H : Heap} {v : V} {rs : List (List Int × Int)} (h : RowsM B H v rs) {c : Nat} {k : Blk} (hc : c < B.length) : Rows (H.set c k) v rs := by
  obtain ⟨rv, h1, h2, h3⟩ := h
  refine ⟨rv, h1.sl.fr fun b hb e => ?_, h2.1, fun j p r hj hr => ⟨(h2.2 j p r hj hr).1.fr fun b hb e => ?_, (h2.2 j p r hj hr).2⟩⟩
  · have := (h1.blk e).1
    rw [List.getElem?_set_ne (by omega)]
  · have := h3 p (List.mem_iff_getElem?.2 ⟨j, hj⟩) b e
    rw [List.getElem?_set_ne (by omega)]

end Go.Proofs.YtengdmagaeckoaaGreat.VM

/- The statements' helpers: checkpoints and configs that are copied, compared, written over. -/
namespace Go.Proofs.YtengdmagaeckoaaGreat.VM
open Go
set_option linter.unusedVariables false
set_option linter.unusedSimpArgs false
attribute [local irreducible] wq wqL wqD wqE wqO Th Bk EndR
set_option maxHeartbeats 8000000

theorem Keep.refl (v : V) (H : Heap) : Keep v H H := ⟨Nat.le_refl _, fun _ _ _ => rfl⟩
theorem Keep.trans {v : V} {A B C : Heap} (h : Keep v A B) (k : Keep v B C) : Keep v A C := ⟨Nat.le_trans h.1 k.1, fun c hc hne => by rw [k.2 c (Nat.lt_of_lt_of_le hc h.1) hne, h.2 c hc hne]⟩

abbrev zeroCfg : List V := [.int .i64 0, .int .i64 0, .int .i64 0, .nils, .int .i64 0, .int .i64 0, .int .i64 0, .int .i64 0, .bool false]
end Go.Proofs.YtengdmagaeckoaaGreat.VM

/- Layer 14, the plain law: bytes as strings, the bytes of a number, of a checkpoint. -/
namespace Go.Proofs.YtengdmagaeckoaaGreat.VM
open Go
set_option linter.unusedVariables false
set_option linter.unusedSimpArgs false
attribute [local irreducible] wq wqL wqD wqE wqO Th Bk EndR
set_option maxHeartbeats 8000000

def byteC (cs : List V) (n : Int) : Prop := cs = [.int .u8 n]
def strOf (bs : List Int) : ByteArray := ⟨(bs.map fun n => UInt8.ofNat n.toNat).toArray⟩
theorem strOf_size (bs : List Int) : (strOf bs).size = bs.length := by simp [strOf, ByteArray.size]
theorem strOf_app (a b : List Int) : strOf a ++ strOf b = strOf (a ++ b) := by
  apply ByteArray.ext
  simp [strOf, ByteArray.data_append]
theorem toBytes_of : ∀ (cs : List V) (bs : List Int), Cells 1 byteC cs bs → V.toBytes cs = some (bs.map fun n => UInt8.ofNat n.toNat)
  | [], [], _ => rfl
  | [], b :: bs, h => by have := h.1; simp at this
  | c :: cs, [], h => by have := h.1; simp at this
  | c :: cs, b :: bs, h => by
    have h0 := h.2 0 b rfl
    simp [byteC] at h0
    subst h0
    have ht := toBytes_of cs bs ⟨by have := h.1; simpa using this, fun k x hk => by
      have := h.2 (k + 1) x (by simpa using hk)
      simpa [Nat.succ_mul] using this⟩
    simp [V.toBytes, ht]

theorem s_toStr {ρ : Rho} {H : Heap} {x : Operand} {v : V} {bs : List Int} (hx : ρ.ev x = some v) (h : Sl 1 byteC H v bs) : Does T ρ H (.convert 83 9 x) (.str (strOf bs)) H := by
  refine does_mem rfl ?_ ?_
  · rcases h with ⟨rfl, _⟩ | ⟨b, off, cap, t, cs, wr, rfl, _⟩ <;> simp only [pureOp, T83, T9, hx]
  · rcases h with ⟨rfl, rfl⟩ | ⟨b, off, cap, t, cs, wr, rfl, h1, h2, h3, h4⟩
    · simp only [memOp, T83, T9, T5, hx]; rfl
    · simp only [memOp, T83, T9, T5, hx]
      by_cases h0 : bs.length = 0
      · obtain rfl : bs = [] := List.length_eq_zero_iff.1 h0
        simp; rfl
      · rw [if_neg h0]
        have hl : H.loadN b off bs.length = some ((cs.drop off).take bs.length) := by
          unfold Heap.loadN
          rw [h2]
          simp only
          rw [if_pos (by omega)]
        have hc : Cells 1 byteC ((cs.drop off).take bs.length) bs := ⟨by simp; omega, fun k x hk => by
          have hk' := (List.getElem?_eq_some_iff.1 hk).1
          have := h4 k x hk
          rw [List.drop_take, List.drop_drop, List.take_take, Nat.min_eq_left (by omega)]
          exact this⟩
        rw [hl]
        simp only [toBytes_of _ _ hc]
        rfl

def lowK (x : Int) (j : Nat) : Int := IntKind.u8.wrap (x.fdiv (2 ^ min (8 * j) IntKind.i64.bits))
def lowL (x : Int) (k : Nat) : List Int := (List.range k).map (lowK x)

theorem str_add {a b : List Int} (h : a.length + b.length ≤ 2 ^ 40) : vbin T .add 9 (.str (strOf a)) (.str (strOf b)) = some (.str (strOf (a ++ b))) := by
  simp only [vbin, strBin, strOf_size, strOf_app]
  rw [if_neg (by simp only [IntKind.max, IntKind.signed, IntKind.bits]; omega)]
theorem lowL_len (x : Int) (k : Nat) : (lowL x k).length = k := by simp [lowL]
def lowsL (xs : List Int) : List Int := xs.flatMap fun x => lowL x 4
theorem lowsL_len (xs : List Int) : (lowsL xs).length = 4 * xs.length := by
  induction xs with
  | nil => rfl
  | cons x xs ih =>
    have : lowsL (x :: xs) = lowL x 4 ++ lowsL xs := rfl
    rw [this, List.length_append, ih, lowL_len, List.length_cons]; omega
theorem lowsL_snoc {xs : List Int} {k : Nat} {x : Int} (h : xs[k]? = some x) : lowsL (xs.take (k + 1)) = lowsL (xs.take k) ++ lowL x 4 := by
  rw [List.take_add_one, h]
  simp [lowsL]
def putL (ws vs : List Int) (r m t : Int) : List Int := (((lowL ws.length 1 ++ lowsL ws) ++ lowsL vs) ++ lowL r 4 ++ lowL m 4) ++ lowL t 1
end Go.Proofs.YtengdmagaeckoaaGreat.VM

/- Layer 14: the document's bytes of a number, of a checkpoint. -/
namespace Go.Proofs.YtengdmagaeckoaaGreat.VM
open Go
set_option linter.unusedVariables false
set_option linter.unusedSimpArgs false
attribute [local irreducible] wq wqL wqD wqE wqO Th Bk EndR
set_option maxHeartbeats 8000000

theorem low_ (H : Heap) (x : Int) (k : Nat) (hk : k ≤ 8) : Call Tryz.prog 97 [.int .i64 x, .int .i64 k] H (.str (strOf (lowL x k))) H := by
  refine call_plain fit mixed Tryz.func97 rfl rfl rfl (by kernel_rfl) rfl ?_
  obtain ⟨H1, hH1⟩ : ∃ H1, H ++ [.row (zeros [.int .u8 0] k) true] = H1 := ⟨_, rfl⟩
  have p1 : H <+: H1 := by rw [← hH1]; exact List.prefix_append _ _
  obtain ⟨v, hv⟩ : ∃ v, V.slc H.length 0 k k true 1 = v := ⟨_, rfl⟩
  have hm : Mine 1 byteC H H1 v (List.replicate k 0) := by
    have h := mine_make (R := byteC) (t := true) (List.prefix_refl H) (cells_zeros (sz := 1) (z := [V.int .u8 0]) (x := (0 : Int)) rfl rfl k)
    rw [List.length_replicate, hH1, hv] at h
    exact h
  refine goW ?_
  refine l_makeG T83 rfl T5 ?_
  refine l_heap (h' := H1) hH1 ?_
  refine goW ?_
  refine wq_loop (fun c ρ hp => ∃ j ys, j ≤ k ∧ c = k - j ∧ ys.length = k ∧ (∀ i, i < j → ys[i]? = some (lowK x i)) ∧ Mine 1 byteC H hp v ys ∧ ρ 0 = .int .i64 x ∧ ρ 1 = .int .i64 (k : Nat) ∧ ρ 5 = v ∧ ρ 6 = .int .i64 (j : Nat)) ⟨0, _, Nat.zero_le _, rfl, by simp, by intro i hi; omega, hm, rfl, rfl, hv, rfl⟩ ?_
  clear hm hv hH1 p1
  rintro _ ρ hp ⟨j, ys, hj, rfl, hyl, hys, hm, h0, h1, h5, h6⟩
  refine goW ?_
  refine cond_go (fun hb => ?_) (fun hb => ?_)
  · have hj' : j < k := by simpa using hb
    clear hb
    obtain ⟨b, o, hi, hst0⟩ := hm.store T83 rfl T5 rfl (k := j) (by omega)
    obtain ⟨H', hst, hm2⟩ := hst0 (.int .u8 (lowK x j)) (lowK x j) rfl rfl rfl
    have w8 : IntKind.i64.wrap (8 * (j : Int)) = ((8 * j : Nat) : Int) := by rw [show 8 * (j : Int) = ((8 * j : Nat) : Int) by omega]; exact wrap_nat (by omega)
    have hw := wrap_succ (n := j) (by omega)
    have hall : ∀ i, i < j + 1 → (ys.set j (lowK x j))[i]? = some (lowK x i) := fun i hi2 => by
      by_cases hij : i = j
      · subst hij; rw [List.getElem?_set_self (by omega)]
      · rw [List.getElem?_set_ne (by omega)]; exact hys i (by omega)
    clear hm hys hst0
    have hsh : vbin T .shr 3 (.int .i64 x) (.int .i64 ((8 * j : Nat) : Int)) = some (.int .i64 (x.fdiv (2 ^ min (8 * j) IntKind.i64.bits))) := by
      simp only [vbin, shiftBin]
      rw [if_neg (by omega), Int.toNat_natCast]
    have hlk : IntKind.u8.wrap (x.fdiv (2 ^ min (8 * j) IntKind.i64.bits)) = lowK x j := rfl
    repeat (first | refine wq_seq ?_ | refine wq_line ?_ | refine wq_draw (by decide +kernel) ?_ | refine wq_block ?_ | refine l_nil ?_ | refine d_nil ?_ | refine wq_skip ?_ | refine wq_ret ?_ | refine wq_exit ?_ | refine th_normal ?_ | refine th_ret ?_ | refine th_exit ?_ | refine bk_normal ?_ | refine bk_ret ?_ | refine bk_exit ?_ | refine bk_other rfl ?_ | refine l_step (s_bin eLk eLk hsh) ?_ | refine l_go ?_)
    refine ⟨k - (j + 1), by omega, j + 1, _, hj', rfl, by simpa using hyl, hall, hm2, ?_⟩
    simp [put_app, put_none, *]
  · have hj' : j = k := by have : ¬ j < k := by simpa using hb
                           omega
    subst hj'
    clear hb
    have hyy : ys = lowL x j := by
      apply List.ext_getElem?
      intro i
      by_cases hi : i < j
      · rw [hys i hi]; simp [lowL, hi]
      · rw [List.getElem?_eq_none (by omega), List.getElem?_eq_none (by simp [lowL]; omega)]
    subst hyy
    have hsl := hm.sl
    have hpr := hm.1
    clear hm hys
    refine goW ?_
    refine l_step (s_toStr eLk hsl) ?_
    refine goW ?_
    refine end_ret (by simp only [resRf, resRs, resR]; first | done | rfl) ⟨?_, hpr⟩
    simp [put_app, put_none]
end Go.Proofs.YtengdmagaeckoaaGreat.VM

/- Layer 14: the document's PutCheck. -/
namespace Go.Proofs.YtengdmagaeckoaaGreat.VM
open Go
set_option linter.unusedVariables false
set_option linter.unusedSimpArgs false
attribute [local irreducible] wq wqL wqD wqE wqO Th Bk EndR
set_option maxHeartbeats 8000000

theorem refPut_good (H : Heap) (w v : V) (ws vs : List Int) (r m t : Int) (hw : Sl 1 intC H w ws) (hv : Sl 1 intC H v vs) (hm : chkMay ws vs r m t = true) : Call Tryz.prog 55 [.agg (chkC w v r m t)] H (.tup [.str (strOf (putL ws vs r m t)), .int .i64 0]) H := by
  refine call_plain fit mixed Tryz.func55 rfl rfl rfl (by kernel_rfl) rfl ?_
  obtain ⟨hvw, hvv, hlv, hlw1, _, _, _⟩ := chkMay_split hm
  have hlw := vecMay_len hvw
  obtain ⟨n, hn⟩ : ∃ n, ws.length = n := ⟨_, rfl⟩
  obtain ⟨H1, hH1⟩ : ∃ H1, H ++ [.row (chkC w v r m t) true] = H1 := ⟨_, rfl⟩
  have p1 : H <+: H1 := by rw [← hH1]; exact List.prefix_append _ _
  have g1 : H1[H.length]? = some (.row (chkC w v r m t) true) := by rw [← hH1]; simp
  have hw1 := hw.mono p1
  have hv1 := hv.mono p1
  have c0 := refChkMay_ H1 w v ws vs r m t hw1 hv1 (by omega) (by omega)
  rw [hm] at c0
  have la := ld_agg T34 rfl g1 rfl
  have l0 := ld_cell (q := 0) T30 rfl g1 rfl
  have l1 := ld_cell (q := 1) T30 rfl g1 rfl
  have l2 := ld_cell (q := 2) T3 rfl g1 rfl
  have l3 := ld_cell (q := 3) T3 rfl g1 rfl
  have l4 := ld_cell (q := 4) T3 rfl g1 rfl
  have hlen := hw1.len T30 rfl
  have hlen2 := hv1.len T30 rfl
  rw [hn] at hlen hlv hlw hlw1
  rw [hlv] at hlen2
  have k1 := low_ H1 n 1 (by decide)
  have k2 := low_ H1 r 4 (by decide)
  have k3 := low_ H1 m 4 (by decide)
  have k4 := low_ H1 t 1 (by decide)
  obtain ⟨pre, hpre⟩ : ∃ x, lowL ws.length 1 ++ lowsL ws = x := ⟨_, rfl⟩
  have hprel : pre.length = 1 + 4 * n := by rw [← hpre]; simp only [List.length_append, lowL_len, lowsL_len]; omega
  obtain ⟨out, hout⟩ : ∃ x, putL ws vs r m t = x := ⟨_, rfl⟩
  rw [hout]
  clear hm hvw hvv hw hv
  refine goW ?_
  refine l_heap (h' := H1) hH1 ?_
  refine goW ?_
  refine l_callG c0 ?_
  refine goW ?_
  refine cond_go (fun hb => ?_) (fun hb => ?_)
  · cases hb
  clear hb c0 la
  refine goW ?_
  refine l_callG k1 ?_
  refine goW ?_
  refine wq_loop (fun c ρ hp => ∃ k, k ≤ n ∧ c = n - k ∧ hp = H1 ∧ ρ 1 = .ptr H.length 0 ∧ ρ 4 = .str (strOf (lowL n 1 ++ lowsL (ws.take k))) ∧ ρ 5 = .int .i64 (k : Nat)) ⟨0, Nat.zero_le _, rfl, rfl, rfl, by simp [lowsL]; rfl, rfl⟩ ?_
  rintro _ ρ hp ⟨k, hk, rfl, hpe, h1, h4, h5⟩
  subst hpe
  clear k1
  refine goW ?_
  refine cond_go (fun hb => ?_) (fun hb => ?_)
  · have hk' : k < n := by simpa using hb
    clear hb
    have hwk := getD_some (xs := ws) (k := k) (by omega)
    obtain ⟨b, o, _, hi, rfl, _, hlo, _⟩ := hw1.get T30 rfl T3 rfl hwk
    have ho := loadV_one T3 rfl hlo
    have c1 := low_ hp (ws.getD k 0) 4 (by decide)
    have hsn := lowsL_snoc hwk
    have hadd := str_add (a := lowL n 1 ++ lowsL (ws.take k)) (b := lowL (ws.getD k 0) 4) (by simp only [List.length_append, lowL_len, lowsL_len, List.length_take]; omega)
    rw [List.append_assoc, ← hsn] at hadd
    have hw2 := wrap_succ (n := k) (by omega)
    clear hlo hwk hsn k2 k3 k4 hlen2 l1 l2 l3 l4
    refine goW ?_
    refine l_callG c1 ?_
    refine l_step (s_bin eLk eLk hadd) ?_
    refine goW ?_
    refine ⟨n - (k + 1), by omega, k + 1, hk', rfl, rfl, ?_⟩
    simp [put_app, put_none, *]
  have hk' : k = n := by have : ¬ k < n := by simpa using hb
                         omega
  subst hk'
  rw [List.take_of_length_le (by omega), ← hn, hpre] at h4
  clear hb hlen l0
  refine wq_cut (fun ρ => ρ 1 = .ptr H.length 0 ∧ ρ 4 = .str (strOf pre)) ⟨h1, h4⟩ ?_
  clear h1 h4 h5
  clear ρ
  rintro ρ ⟨h1, h4⟩
  refine goW ?_
  refine wq_loop (fun c ρ hp' => ∃ j, j ≤ k ∧ c = k - j ∧ hp' = hp ∧ ρ 1 = .ptr H.length 0 ∧ ρ 4 = .str (strOf (pre ++ lowsL (vs.take j))) ∧ ρ 6 = .int .i64 (j : Nat)) ⟨0, Nat.zero_le _, rfl, rfl, by simp [put_app, put_none, h1], by simp [put_app, put_none, h4, lowsL], rfl⟩ ?_
  clear h1 h4
  clear ρ
  rintro _ ρ hp2 ⟨j, hj, rfl, hpe, h1, h4, h6⟩
  subst hpe
  refine goW ?_
  refine cond_go (fun hb => ?_) (fun hb => ?_)
  · have hj' : j < k := by simpa using hb
    clear hb
    have hwk := getD_some (xs := vs) (k := j) (by omega)
    obtain ⟨b, o, _, hi, rfl, _, hlo, _⟩ := hv1.get T30 rfl T3 rfl hwk
    have ho := loadV_one T3 rfl hlo
    have c1 := low_ hp2 (vs.getD j 0) 4 (by decide)
    have hsn := lowsL_snoc hwk
    have hadd := str_add (a := pre ++ lowsL (vs.take j)) (b := lowL (vs.getD j 0) 4) (by simp only [List.length_append, lowL_len, lowsL_len, List.length_take]; omega)
    rw [List.append_assoc, ← hsn] at hadd
    have hw2 := wrap_succ (n := j) (by omega)
    clear hlo hwk hsn k2 k3 k4 l2 l3 l4
    refine goW ?_
    refine l_callG c1 ?_
    refine l_step (s_bin eLk eLk hadd) ?_
    refine goW ?_
    refine ⟨k - (j + 1), by omega, j + 1, hj', rfl, rfl, ?_⟩
    simp [put_app, put_none, *]
  have hj' : j = k := by have : ¬ j < k := by simpa using hb
                         omega
  subst hj'
  rw [List.take_of_length_le (by omega)] at h4
  clear hb hlen2 l1
  have hfin : out = pre ++ lowsL vs ++ lowL r 4 ++ lowL m 4 ++ lowL t 1 := by rw [← hout, ← hpre]; rfl
  have a1 := str_add (a := pre ++ lowsL vs) (b := lowL r 4) (by simp only [List.length_append, lowL_len, lowsL_len]; omega)
  have a2 := str_add (a := pre ++ lowsL vs ++ lowL r 4) (b := lowL m 4) (by simp only [List.length_append, lowL_len, lowsL_len]; omega)
  have a3 := str_add (a := pre ++ lowsL vs ++ lowL r 4 ++ lowL m 4) (b := lowL t 1) (by simp only [List.length_append, lowL_len, lowsL_len]; omega)
  rw [← hfin] at a3
  clear hout hfin hpre
  refine goW ?_
  refine d_call0G k2 ?_
  refine d_step (s_bin eLk eLk a1) ?_
  refine goW ?_
  refine d_call0G k3 ?_
  refine d_step (s_bin eLk eLk a2) ?_
  refine goW ?_
  refine d_call0G k4 ?_
  refine d_step (s_bin eLk eLk a3) ?_
  refine goW ?_
  refine end_ret (by simp only [resRf, resRs, resR]; first | done | rfl) ⟨?_, p1⟩
  simp [put_app, put_none]
end Go.Proofs.YtengdmagaeckoaaGreat.VM

/- Layers 5, 11, 20, the plain law: first weights, first hypers, a member as it begins. -/
namespace Go.Proofs.YtengdmagaeckoaaGreat.VM
open Go
set_option linter.unusedVariables false
set_option linter.unusedSimpArgs false
attribute [local irreducible] wq wqL wqD wqE wqO Th Bk EndR
set_option maxHeartbeats 8000000

def initK (s f k : Nat) : Int := (drawN s (f + k) : Int) - 32768
def initL (i h s f : Nat) : List Int := (List.range (netSize i h)).map (initK s f)
theorem initK_may (s f k : Nat) : fixMay (initK s f k) = true := by
  have := drawN_lt s (f + k)
  unfold fixMay initK
  rw [within_iff]; omega
theorem initL_len (i h s f : Nat) : (initL i h s f).length = netSize i h := by simp [initL]
theorem initL_vec {i h s f : Nat} (hs : netSize i h ≤ 16) : vecMay (initL i h s f) = true := by
  simp only [vecMay, Bool.and_eq_true, decide_eq_true_eq, List.all_eq_true]
  refine ⟨by rw [initL_len]; exact hs, fun b hb => ?_⟩
  obtain ⟨k, _, rfl⟩ := List.mem_map.1 hb
  exact initK_may s f k

def rateN (s k : Nat) : Nat := 64 + pickN s k 16321
def momN (s k : Nat) : Nat := pickN s (k + 1) 58983
theorem hyper_re (s k : Nat) : hyperMay (rateN s k) (momN s k) = true := by
  have h1 := pickN_lt (s := s) (k := k) (b := 16321) (by decide)
  have h2 := pickN_lt (s := s) (k := k + 1) (b := 58983) (by decide)
  unfold rateN momN
  simp only [hyperMay, Bool.and_eq_true, within_iff]; omega

abbrev memC (w v : V) (r m t h : Int) : List V := [w, v, .int .i64 r, .int .i64 m, .int .i64 t, .int .i64 h]
abbrev zeroMem : List V := [.nils, .nils, .int .i64 0, .int .i64 0, .int .i64 0, .int .i64 0]
def firstW (c : Cfg) (id : Int) : List Int := initL c.i.toNat c.h.toNat c.seed.toNat (50000 + 16 * id.toNat)
def firstV (c : Cfg) : List Int := List.replicate (netSize c.i.toNat c.h.toNat) 0
def firstR (c : Cfg) (id : Int) : Int := rateN c.seed.toNat (40000 + 2 * id.toNat)
def firstM (c : Cfg) (id : Int) : Int := momN c.seed.toNat (40000 + 2 * id.toNat)
def firstS (c : Cfg) (id : Int) : List Int := putL (firstW c id) (firstV c) (firstR c id) (firstM c id) 0

theorem shape_ab {i h : Int} (hs : shapeMay i h = true) : ∃ a b : Nat, i = a ∧ h = b ∧ 1 ≤ a ∧ a ≤ 3 ∧ 1 ≤ b ∧ b ≤ 3 := by
  simp only [shapeMay, Bool.and_eq_true, within_iff] at hs
  exact ⟨i.toNat, h.toNat, by omega, by omega, by omega, by omega, by omega, by omega⟩
theorem size16 {a b : Nat} (ha : a ≤ 3) (hb : b ≤ 3) : netSize a b ≤ 16 := by have := small_size ha hb; unfold netSize; omega
theorem zeros_vec {n : Nat} (hn : n ≤ 16) : vecMay (List.replicate n 0) = true := by
  simp only [vecMay, Bool.and_eq_true, decide_eq_true_eq, List.all_eq_true]
  refine ⟨by simpa using hn, fun b hb => ?_⟩
  have := (List.mem_replicate.1 hb).2
  subst this; rfl

/-- a first checkpoint may be and fits -/
theorem first_fits {c : Cfg} (hc : cfgMay c = true) (id : Int) : memFits c.i c.h (firstW c id) (firstV c) (firstR c id) (firstM c id) 0 = true := by
  obtain ⟨_, hloss, _⟩ := cfgMay_split hc
  obtain ⟨hs, _⟩ := lossMay_split hloss
  obtain ⟨a, b, ha, hb, ha1, ha3, hb1, hb3⟩ := shape_ab hs
  have h16 := size16 ha3 hb3
  have hv := initL_vec (s := c.seed.toNat) (f := 50000 + 16 * id.toNat) h16
  have hl := initL_len a b c.seed.toNat (50000 + 16 * id.toNat)
  have hz := zeros_vec h16
  have hhy := hyper_re c.seed.toNat (40000 + 2 * id.toNat)
  have hpos : 0 < netSize a b := by unfold netSize; omega
  have hcast := size_cast a b
  have hs' : shapeMay (a : Int) (b : Int) = true := by rw [← ha, ← hb]; exact hs
  unfold memFits chkMay firstW firstV firstR firstM
  rw [ha, hb] at *
  simp only [Int.toNat_natCast]
  simp only [alike, List.all_cons, List.all_nil, hv, hl, hz, hhy, hs', fits, List.length_replicate, hpos]
  simp only [hcast, beq_self_eq_true]
  simp
end Go.Proofs.YtengdmagaeckoaaGreat.VM
