/- Joined texts: HelpA, RowC, HelpB, LowA, LowB, InitA, InitB, TrainE, HelpC, TrainF, MembE, MembF. -/
import Derived.Test.YtekifjeckbndiaaJM6
/- The statements' helpers: checkpoints that are copied, compared, written over. -/
namespace Go.Proofs.Ytekifjeckbndiaa.VM
open Go
set_option linter.unusedVariables false
set_option linter.unusedSimpArgs false
attribute [local irreducible] wq wqL wqD wqE wqO Th Bk EndR
set_option maxHeartbeats 8000000

def eqHyper (r m r' m' : Int) : Bool := decide (r = r') && decide (m = m')
theorem eq_hyper (r m r' m' : Int) : vbin T .eql 29 (.agg [.int .i64 r, .int .i64 m]) (.agg [.int .i64 r', .int .i64 m']) = some (.bool (eqHyper r m r' m')) := by
  have h : vbin T .eql 29 (.agg [.int .i64 r, .int .i64 m]) (.agg [.int .i64 r', .int .i64 m']) = some (.bool (r == r' && (m == m' && true))) := by
    simp only [vbin, T29]; rfl
  rw [h]
  unfold eqHyper
  congr 2
  apply Bool.eq_iff_iff.2; simp
def eqChk (ws vs : List Int) (r m t : Int) (ws' vs' : List Int) (r' m' t' : Int) : Bool := decide (ws = ws') && (decide (vs = vs') && (eqHyper r m r' m' && decide (t = t')))

theorem sameCheck_ (H : Heap) (w v w' v' : V) (ws vs ws' vs' : List Int) (r m t r' m' t' : Int) (hw : Sl 1 intC H w ws) (hv : Sl 1 intC H v vs) (hw' : Sl 1 intC H w' ws') (hv' : Sl 1 intC H v' vs') (lw : ws.length ≤ 2 ^ 47) (lv : vs.length ≤ 2 ^ 47) :
    Call Try.prog 20 [.agg (chkC w v r m t), .agg (chkC w' v' r' m' t')] H (.bool (eqChk ws vs r m t ws' vs' r' m' t')) H := by
  refine call_plain fit mixed Try.func20 rfl rfl rfl (by kernel_rfl) rfl ?_
  obtain ⟨H1, hH1⟩ : ∃ H1, H ++ [.row (chkC w v r m t) true] = H1 := ⟨_, rfl⟩
  obtain ⟨H2, hH2⟩ : ∃ H2, H1 ++ [.row (chkC w' v' r' m' t') true] = H2 := ⟨_, rfl⟩
  have p1 : H <+: H1 := by rw [← hH1]; exact List.prefix_append _ _
  have p2 : H1 <+: H2 := by rw [← hH2]; exact List.prefix_append _ _
  have pend := p1.trans p2
  have g1 : H2[H.length]? = some (.row (chkC w v r m t) true) := pre_get p2 (by rw [← hH1]; simp)
  have g2 : H2[H1.length]? = some (.row (chkC w' v' r' m' t') true) := by rw [← hH2]; simp
  have a0 := ld_cell (q := 0) T27 rfl g1 rfl
  have a1 := ld_cell (q := 1) T27 rfl g1 rfl
  have a4 := ld_cell (q := 4) T3 rfl g1 rfl
  have b0 := ld_cell (q := 0) T27 rfl g2 rfl
  have b1 := ld_cell (q := 1) T27 rfl g2 rfl
  have b4 := ld_cell (q := 4) T3 rfl g2 rfl
  have a2 : loadV T 29 H2 H.length 2 = some (.agg [.int .i64 r, .int .i64 m]) := by
    refine loadV_agg T29 rfl ?_
    unfold Heap.loadN
    rw [g1]; rfl
  have b2 : loadV T 29 H2 H1.length 2 = some (.agg [.int .i64 r', .int .i64 m']) := by
    refine loadV_agg T29 rfl ?_
    unfold Heap.loadN
    rw [g2]; rfl
  have hq := eq_hyper r m r' m'
  have c1 := sameInts_ H2 w w' ws ws' (hw.mono pend) (hw'.mono pend) lw
  have c2 := sameInts_ H2 v v' vs vs' (hv.mono pend) (hv'.mono pend) lv
  unfold eqChk
  obtain ⟨r1, e1⟩ : ∃ q, decide (ws = ws') = q := ⟨_, rfl⟩
  obtain ⟨r2, e2⟩ : ∃ q, decide (vs = vs') = q := ⟨_, rfl⟩
  obtain ⟨r3, e3⟩ : ∃ q, eqHyper r m r' m' = q := ⟨_, rfl⟩
  rw [e1] at c1 ⊢
  rw [e2] at c2 ⊢
  rw [e3] at hq ⊢
  have hd : (t == t') = decide (t = t') := by apply Bool.eq_iff_iff.2; simp
  clear e1 e2 e3 hw hv hw' hv' g1 g2 p1 p2
  refine goW ?_
  refine l_heap (h' := H2) (by rw [← hH2, ← hH1]) ?_
  rw [hH1]
  refine goW ?_
  refine l_callG c1 ?_
  cases r1
  · refine goW ?_
    refine end_ret (by simp only [resRf, resRs, resR]; first | done | rfl) ⟨?_, pend⟩
    simp [put_app, put_none]
  refine goW ?_
  refine l_callG c2 ?_
  cases r2
  · refine goW ?_
    refine end_ret (by simp only [resRf, resRs, resR]; first | done | rfl) ⟨?_, pend⟩
    simp [put_app, put_none]
  refine l_go ?_
  repeat (first | refine l_onG ?_ | refine l_offG ?_ | refine l_go ?_ (by first | exact s_field eLk (by rfl) | exact s_load eLk eLkV | exact s_move eLk | exact s_assign eLk | exact s_pick1 eLkB eLk eLk))
  refine l_step (s_bin eLk eLk hq) ?_
  cases r3
  · refine goW ?_
    refine end_ret (by simp only [resRf, resRs, resR]; first | done | rfl) ⟨?_, pend⟩
    simp [put_app, put_none]
  refine goW ?_
  refine end_ret (by simp only [resRf, resRs, resR]; first | done | rfl) ⟨?_, pend⟩
  simp [put_app, put_none, hd]
end Go.Proofs.Ytekifjeckbndiaa.VM

/- The statements' helpers: rows of data that are copied: all of the copy is new. -/
namespace Go.Proofs.Ytekifjeckbndiaa.VM
open Go
set_option linter.unusedVariables false
set_option linter.unusedSimpArgs false
attribute [local irreducible] wq wqL wqD wqE wqO Th Bk EndR
set_option maxHeartbeats 8000000

/-- rows of data that lie in blocks of their own behind B -/
def RowsM (B H : Heap) (v : V) (rs : List (List Int × Int)) : Prop := ∃ rv, Mine 2 rowC B H v rv ∧ RowsAt H rv rs ∧ ∀ p ∈ rv, ∀ c, p.1.blk = some c → B.length ≤ c
theorem RowsM.rows {B H : Heap} {v : V} {rs : List (List Int × Int)} (h : RowsM B H v rs) : Rows H v rs := by
  obtain ⟨rv, h1, h2, _⟩ := h
  exact ⟨rv, h1.sl, h2⟩
theorem RowsM.pre {B H : Heap} {v : V} {rs : List (List Int × Int)} (h : RowsM B H v rs) : B <+: H := by
  obtain ⟨rv, h1, _⟩ := h
  exact h1.1
/-- one block that lay before is written -/
theorem RowsM.set {B H : Heap} {v : V} {rs : List (List Int × Int)} (h : RowsM B H v rs) {c : Nat} {k : Blk} (hc : c < B.length) : Rows (H.set c k) v rs := by
  obtain ⟨rv, h1, h2, h3⟩ := h
  refine ⟨rv, h1.sl.fr fun b hb e => ?_, h2.1, fun j p r hj hr => ⟨(h2.2 j p r hj hr).1.fr fun b hb e => ?_, (h2.2 j p r hj hr).2⟩⟩
  · have := (h1.blk e).1
    rw [List.getElem?_set_ne (by omega)]
  · have := h3 p (List.mem_iff_getElem?.2 ⟨j, hj⟩) b e
    rw [List.getElem?_set_ne (by omega)]

theorem copyRowsM_ (H : Heap) (v : V) (rs : List (List Int × Int)) (hv : Rows H v rs) (hl : rs.length < 2 ^ 42) (hx : ∀ r ∈ rs, r.1.length * 8 ≤ 2 ^ 47) : ∃ u H', Call Try.prog 47 [v] H u H' ∧ RowsM H H' u rs := by
  suffices h : ∃ u H', (RowsM H H' u rs) ∧ Call Try.prog 47 [v] H u H' by
    obtain ⟨u, H', h1, h2⟩ := h
    exact ⟨u, H', h2, h1⟩
  refine call_wq fit mixed Try.func47 rfl rfl rfl (by kernel_rfl) ?_
  obtain ⟨rv, hrv, hrl, hrr⟩ := hv
  obtain ⟨n, hn⟩ : ∃ n, rv.length = n := ⟨_, rfl⟩
  have hlen := hrv.len T24 rfl
  rw [hn] at hlen hrl
  replace hrl := hrl.symm
  refine goW ?_
  refine wq_loop (fun c ρ hp => ∃ k u out, k ≤ n ∧ c = n - k ∧ Mine 2 rowC H hp u out ∧ out.length = k ∧ (∀ (j : Nat) p r, out[j]? = some p → rs[j]? = some r → RowAt hp p r ∧ Apart u p.1 ∧ ∀ c, p.1.blk = some c → H.length ≤ c) ∧ ρ 0 = v ∧ ρ 3 = u ∧ ρ 4 = .int .i64 (k : Nat)) ⟨0, .nils, [], Nat.zero_le _, rfl, Mine.nil (List.prefix_refl _), rfl, by simp, rfl, rfl, rfl⟩ ?_
  rintro _ ρ hp ⟨k, u, out, hk, rfl, hm, hol, hout, h0, h3, h4⟩
  refine goW ?_
  refine cond_go (fun hb => ?_) (fun hb => ?_)
  · have hk' : k < n := by simpa using hb
    clear hb
    obtain ⟨⟨px, y⟩, hpk⟩ : ∃ p, rv[k]? = some p := ⟨rv[k]'(by omega), by simp⟩
    obtain ⟨⟨xs, y'⟩, hrk⟩ : ∃ r, rs[k]? = some r := ⟨rs[k]'(by omega), by simp⟩
    obtain ⟨hxs, hy⟩ := hrr k _ _ hpk hrk
    obtain rfl : y = y' := hy
    have hxl := hx _ (List.mem_iff_getElem?.2 ⟨k, hrk⟩)
    obtain ⟨b, o, _, hi, rfl, _, hlo, _⟩ := (hrv.mono hm.1).get T24 rfl T64 rfl hpk
    have ho : loadV T 64 hp b o = some (.agg [px, .int .i64 y]) := loadV_agg T64 rfl hlo
    -- the row's own place
    obtain ⟨hp1, hhp1⟩ : ∃ hp1, hp ++ [.row [px, .int .i64 y] true] = hp1 := ⟨_, rfl⟩
    have q1 : hp <+: hp1 := by rw [← hhp1]; exact List.prefix_append _ _
    have hx1 : Sl 1 intC hp1 px xs := hxs.mono (hm.1.trans q1)
    obtain ⟨news, x', hp2, n1, a1, hm2, b', hb', hbl⟩ := int_copy hp1 px xs hx1 hxl
    have l1 : loadV T 27 (hp1 ++ [.row [] true]) hp.length 0 = some px := loadV_one T27 rfl (loadN_pre (List.prefix_append _ _) (by rw [← hhp1, loadN_app0]; rfl))
    have hg1 : hp1[hp.length]? = some (.row [px, .int .i64 y] true) := by rw [← hhp1]; simp
    have hg2 : hp2[hp.length]? = some (.row [px, .int .i64 y] true) := pre_get hm2.1 hg1
    obtain ⟨hc1, hc2⟩ := hm2.sl.cells
    have hst := cell_store (off := 0) T27 rfl hg2 (by simp) hc1 hc2
    obtain ⟨hp3, hhp3⟩ : ∃ hp3, hp2.set hp.length (.row ([px, .int .i64 y].set 0 x') true) = hp3 := ⟨_, rfl⟩
    rw [hhp3] at hst
    have q3 : hp <+: hp3 := by rw [← hhp3]; exact pre_set (q1.trans hm2.1) (Nat.le_refl _)
    have hlt : hp.length < hp2.length := (List.getElem?_eq_some_iff.1 hg2).1
    have hg3 : hp3[hp.length]? = some (.row [x', .int .i64 y] true) := by rw [← hhp3, List.getElem?_set_self hlt]; rfl
    have hll : hp1.length = hp.length + 1 := by rw [← hhp1]; simp
    have hl3 : hp3.length = hp2.length := by rw [← hhp3]; simp
    have hx3 : Sl 1 intC hp3 x' xs := hm2.sl.fr fun c hc hcb => by
      rw [hb'] at hcb
      cases hcb
      rw [← hhp3, List.getElem?_set_ne (by omega)]
    have l3 : loadV T 64 hp3 hp.length 0 = some (.agg [x', .int .i64 y]) := by
      refine loadV_agg T64 rfl ?_
      unfold Heap.loadN
      rw [hg3]; rfl
    obtain ⟨u', hp4, n2, a2, hm4, kp, mv⟩ := row_append (hm.pre q3) x' y (by omega)
    have hb2 : b' < hp2.length := hm2.sl.lt hb'
    have q4 := List.prefix_append hp3 [Blk.row [x', .int .i64 y] true]
    have hnew : RowAt hp4 (x', y) (xs, y) ∧ Apart u' x' ∧ ∀ c, x'.blk = some c → H.length ≤ c := by
      have hl0 := hm.1.length_le
      have hap : Apart u x' := fun c1 c2 e1 e2 => by
        have := (hm.blk e1).2
        rw [hb'] at e2; cases e2; omega
      exact ⟨⟨kp.sl (hx3.mono q4) hap, rfl⟩, mv.apart (hx3.mono q4) hap, fun c hc => by rw [hb'] at hc; cases hc; omega⟩
    have hall : ∀ (j : Nat) p r, (out ++ [(x', y)])[j]? = some p → rs[j]? = some r → RowAt hp4 p r ∧ Apart u' p.1 ∧ ∀ c, p.1.blk = some c → H.length ≤ c := fun j p r hj hr => by
      by_cases hjk : j < k
      · rw [List.getElem?_append_left (by omega)] at hj
        obtain ⟨r1, r2, r4⟩ := hout j p r hj hr
        have r3 := r1.mono (q3.trans q4)
        exact ⟨⟨kp.sl r3.1 r2, r3.2⟩, mv.apart r3.1 r2, r4⟩
      · rw [List.getElem?_append_right (by omega)] at hj
        have hjj : j = k := by
          have := (List.getElem?_eq_some_iff.1 hj).1
          simp at this; omega
        subst hjj
        rw [hrk] at hr
        cases hr
        simp [hol] at hj
        subst hj
        exact hnew
    have hw := wrap_succ (n := k) (by omega)
    clear hnew hb2 hx3 hl3 hll hg3 hlt q3 q4 hg1 hg2 hhp3 hx1 q1 hlo hpk hrk hxs hxl hm kp mv hout
    refine goB ?_
    refine l_heap (h' := hp1) hhp1 ?_
    refine goW ?_
    refine l_appendG n1 a1 ?_
    refine l_go ?_
    refine l_step (s_store eLk eLk hst) ?_
    refine goW ?_
    refine l_appendG n2 a2 ?_
    refine goW ?_
    refine ⟨n - (k + 1), by omega, k + 1, u', _, hk', rfl, hm4, by simp [hol], hall, ?_⟩
    simp [put_app, put_none, *]
  · have hk' : k = n := by have : ¬ k < n := by simpa using hb
                           omega
    subst hk'
    clear hb
    have hp' := hm.1
    have hfin : RowsM H hp u rs := ⟨out, hm, ⟨by omega, fun j p r a b => (hout j p r a b).1⟩, fun p hp c hc => by
      obtain ⟨j, hj⟩ := List.mem_iff_getElem?.1 hp
      exact (hout j p _ hj (List.getElem?_eq_getElem (by have := (List.getElem?_eq_some_iff.1 hj).1; omega))).2.2 c hc⟩
    clear hout hm
    refine goW ?_
    refine end_ret (by simp only [resRf, resRs, resR]; first | done | rfl) ?_
    simp only [put_app, put_none]
    simp only [Nat.reduceEqDiff, reduceIte, Option.some.injEq, reduceCtorEq, h3]
    exact hfin
end Go.Proofs.Ytekifjeckbndiaa.VM

/- The statements' helpers: checkpoints and configs that are copied, compared, written over. -/
namespace Go.Proofs.Ytekifjeckbndiaa.VM
open Go
set_option linter.unusedVariables false
set_option linter.unusedSimpArgs false
attribute [local irreducible] wq wqL wqD wqE wqO Th Bk EndR
set_option maxHeartbeats 8000000

theorem Mine.storeK {α : Type} {T : Tab} {sz : Nat} {R : List V → α → Prop} {B H : Heap} {v : V} {xs : List α} (h : Mine sz R B H v xs) {t e : Nat} {i ie : TI} (hT : T t = some i) (hk : i.k = .slice e) (hE : T e = some ie) (hs : ie.size = sz) {k : Nat} (hk' : k < xs.length) :
    ∃ b o, idxV T t v (k : Int) = some (.ptr b o) ∧ ∀ w y, w.isTup = false → w.cells.length = sz → R w.cells y → ∃ H', storeV T e H b o w = some H' ∧ Mine sz R B H' v (xs.set k y) ∧ Keep v H H' := by
  obtain ⟨hp, h⟩ := h
  rcases h with ⟨rfl, rfl⟩ | ⟨b, hb1, ho⟩
  · simp at hk'
  · obtain ⟨h1, h2⟩ := own_store ho hT hk hE hs hk'
    refine ⟨b, k * sz, h1, fun w y a b c => ?_⟩
    obtain ⟨H', e1, e2, e3⟩ := h2 w y a b c
    exact ⟨H', e1, ⟨e3.pre hp hb1, .inr ⟨_, hb1, e2⟩⟩, e3.1, fun c hc hne => e3.2 c hc fun e => hne (by rw [ho.blk, e])⟩
theorem Keep.refl (v : V) (H : Heap) : Keep v H H := ⟨Nat.le_refl _, fun _ _ _ => rfl⟩
theorem Keep.trans {v : V} {A B C : Heap} (h : Keep v A B) (k : Keep v B C) : Keep v A C := ⟨Nat.le_trans h.1 k.1, fun c hc hne => by rw [k.2 c (Nat.lt_of_lt_of_le hc h.1) hne, h.2 c hc hne]⟩

theorem sameConfig_ (H : Heap) (c : Cfg) (u v : V) (hu : Rows H u c.rows) (hv : Rows H v c.rows) (lx : c.rows.length ≤ 2 ^ 47) (l1 : ∀ r ∈ c.rows, r.1.length ≤ 2 ^ 47) : Call Try.prog 23 [.agg (cfgC c u), .agg (cfgC c v)] H (.bool true) H := by
  refine call_plain fit mixed Try.func23 rfl rfl rfl (by kernel_rfl) rfl ?_
  obtain ⟨H1, hH1⟩ : ∃ H1, H ++ [.row (cfgC c u) true] = H1 := ⟨_, rfl⟩
  obtain ⟨H2, hH2⟩ : ∃ H2, H1 ++ [.row (cfgC c v) true] = H2 := ⟨_, rfl⟩
  have p1 : H <+: H1 := by rw [← hH1]; exact List.prefix_append _ _
  have p2 : H1 <+: H2 := by rw [← hH2]; exact List.prefix_append _ _
  have pend := p1.trans p2
  have g1 : H2[H.length]? = some (.row (cfgC c u) true) := pre_get p2 (by rw [← hH1]; simp)
  have g2 : H2[H1.length]? = some (.row (cfgC c v) true) := by rw [← hH2]; simp
  have a0 := ld_cell (q := 0) T3 rfl g1 rfl
  have a3 := ld_cell (q := 3) T24 rfl g1 rfl
  have a4 := ld_cell (q := 4) T3 rfl g1 rfl
  have a5 := ld_cell (q := 5) T3 rfl g1 rfl
  have a6 := ld_cell (q := 6) T3 rfl g1 rfl
  have a7 := ld_cell (q := 7) T3 rfl g1 rfl
  have a8 := ld_cell (q := 8) T4 rfl g1 rfl
  have b0 := ld_cell (q := 0) T3 rfl g2 rfl
  have b3 := ld_cell (q := 3) T24 rfl g2 rfl
  have b4 := ld_cell (q := 4) T3 rfl g2 rfl
  have b5 := ld_cell (q := 5) T3 rfl g2 rfl
  have b6 := ld_cell (q := 6) T3 rfl g2 rfl
  have b7 := ld_cell (q := 7) T3 rfl g2 rfl
  have b8 := ld_cell (q := 8) T4 rfl g2 rfl
  have a1 : loadV T 23 H2 H.length 1 = some (.agg [.int .i64 c.i, .int .i64 c.h]) := by
    refine loadV_agg T23 rfl ?_
    unfold Heap.loadN
    rw [g1]; rfl
  have b1 : loadV T 23 H2 H1.length 1 = some (.agg [.int .i64 c.i, .int .i64 c.h]) := by
    refine loadV_agg T23 rfl ?_
    unfold Heap.loadN
    rw [g2]; rfl
  have hq : vbin T .eql 23 (.agg [.int .i64 c.i, .int .i64 c.h]) (.agg [.int .i64 c.i, .int .i64 c.h]) = some (.bool true) := by
    have h : vbin T .eql 23 (.agg [.int .i64 c.i, .int .i64 c.h]) (.agg [.int .i64 c.i, .int .i64 c.h]) = some (.bool (c.i == c.i && (c.h == c.h && true))) := by
      simp only [vbin, T23]; rfl
    rw [h]; simp
  have hq2 : vbin T .eql 4 (.bool c.pert) (.bool c.pert) = some (.bool true) := by
    have h : vbin T .eql 4 (.bool c.pert) (.bool c.pert) = some (.bool (c.pert == c.pert)) := by
      simp only [vbin, T4]; rfl
    rw [h]; simp
  have c1 := sameRows_ H2 u v c.rows c.rows (hu.mono pend) (hv.mono pend) lx l1
  rw [decide_eq_true rfl] at c1
  clear hu hv g1 g2 p1 p2
  refine goW ?_
  refine l_heap (h' := H2) (by rw [← hH2, ← hH1]) ?_
  rw [hH1]
  repeat (first | refine wq_seq ?_ | refine wq_line ?_ | refine wq_draw (by decide +kernel) ?_ | refine wq_block ?_ | refine l_nil ?_ | refine d_nil ?_ | refine wq_skip ?_ | refine wq_ret ?_ | refine wq_exit ?_ | refine th_normal ?_ | refine th_ret ?_ | refine th_exit ?_ | refine bk_normal ?_ | refine bk_ret ?_ | refine bk_exit ?_ | refine bk_other rfl ?_ | refine l_onG ?_ | refine l_offG ?_ | refine l_step (s_bin eLk eLk hq) ?_ | refine l_step (s_bin eLk eLk hq2) ?_ | refine l_callG c1 ?_ | refine l_go ?_)
  refine end_ret (by simp only [resRf, resRs, resR]; first | done | rfl) ⟨?_, pend⟩
  simp [put_app, put_none]

abbrev zeroCfg : List V := [.int .i64 0, .int .i64 0, .int .i64 0, .nils, .int .i64 0, .int .i64 0, .int .i64 0, .int .i64 0, .bool false]
end Go.Proofs.Ytekifjeckbndiaa.VM

/- Layer 14: the document's bytes of a number, of a checkpoint. -/
namespace Go.Proofs.Ytekifjeckbndiaa.VM
open Go
set_option linter.unusedVariables false
set_option linter.unusedSimpArgs false
attribute [local irreducible] wq wqL wqD wqE wqO Th Bk EndR
set_option maxHeartbeats 8000000

theorem low_ (H : Heap) (x : Int) (k : Nat) (hk : k ≤ 8) : Call Try.prog 92 [.int .i64 x, .int .i64 k] H (.str (strOf (lowL x k))) H := by
  refine call_plain fit mixed Try.func92 rfl rfl rfl (by kernel_rfl) rfl ?_
  obtain ⟨H1, hH1⟩ : ∃ H1, H ++ [.row (zeros [.int .u8 0] k) true] = H1 := ⟨_, rfl⟩
  have p1 : H <+: H1 := by rw [← hH1]; exact List.prefix_append _ _
  obtain ⟨v, hv⟩ : ∃ v, V.slc H.length 0 k k true 1 = v := ⟨_, rfl⟩
  have hm : Mine 1 byteC H H1 v (List.replicate k 0) := by
    have h := mine_make (R := byteC) (t := true) (List.prefix_refl H) (cells_zeros (sz := 1) (z := [V.int .u8 0]) (x := (0 : Int)) rfl rfl k)
    rw [List.length_replicate, hH1, hv] at h
    exact h
  refine goW ?_
  refine l_makeG T84 rfl T5 ?_
  refine l_heap (h' := H1) hH1 ?_
  refine goW ?_
  refine wq_loop (fun c ρ hp => ∃ j ys, j ≤ k ∧ c = k - j ∧ ys.length = k ∧ (∀ i, i < j → ys[i]? = some (lowK x i)) ∧ Mine 1 byteC H hp v ys ∧ ρ 0 = .int .i64 x ∧ ρ 1 = .int .i64 (k : Nat) ∧ ρ 5 = v ∧ ρ 6 = .int .i64 (j : Nat)) ⟨0, _, Nat.zero_le _, rfl, by simp, by intro i hi; omega, hm, rfl, rfl, hv, rfl⟩ ?_
  clear hm hv hH1 p1
  rintro _ ρ hp ⟨j, ys, hj, rfl, hyl, hys, hm, h0, h1, h5, h6⟩
  refine goW ?_
  refine cond_go (fun hb => ?_) (fun hb => ?_)
  · have hj' : j < k := by simpa using hb
    clear hb
    obtain ⟨b, o, hi, hst0⟩ := hm.store T84 rfl T5 rfl (k := j) (by omega)
    obtain ⟨H', hst, hm2⟩ := hst0 (.int .u8 (lowK x j)) (lowK x j) rfl rfl rfl
    have w8 : IntKind.i64.wrap (8 * (j : Int)) = ((8 * j : Nat) : Int) := by rw [show 8 * (j : Int) = ((8 * j : Nat) : Int) by omega]; exact wrap_nat (by omega)
    have hw := wrap_succ (n := j) (by omega)
    have hall : ∀ i, i < j + 1 → (ys.set j (lowK x j))[i]? = some (lowK x i) := fun i hi2 => by
      by_cases hij : i = j
      · subst hij; rw [List.getElem?_set_self (by omega)]
      · rw [List.getElem?_set_ne (by omega)]; exact hys i (by omega)
    clear hm hys hst0
    have hsh : vbin T .shr 3 (.int .i64 x) (.int .i64 ((8 * j : Nat) : Int)) = some (.int .i64 (x.fdiv (2 ^ min (8 * j) IntKind.i64.bits))) := by
      simp only [vbin, shiftBin]
      rw [if_neg (by omega), Int.toNat_natCast]
    have hlk : IntKind.u8.wrap (x.fdiv (2 ^ min (8 * j) IntKind.i64.bits)) = lowK x j := rfl
    repeat (first | refine wq_seq ?_ | refine wq_line ?_ | refine wq_draw (by decide +kernel) ?_ | refine wq_block ?_ | refine l_nil ?_ | refine d_nil ?_ | refine wq_skip ?_ | refine wq_ret ?_ | refine wq_exit ?_ | refine th_normal ?_ | refine th_ret ?_ | refine th_exit ?_ | refine bk_normal ?_ | refine bk_ret ?_ | refine bk_exit ?_ | refine bk_other rfl ?_ | refine l_step (s_bin eLk eLk hsh) ?_ | refine l_go ?_)
    refine ⟨k - (j + 1), by omega, j + 1, _, hj', rfl, by simpa using hyl, hall, hm2, ?_⟩
    simp [put_app, put_none, *]
  · have hj' : j = k := by have : ¬ j < k := by simpa using hb
                           omega
    subst hj'
    clear hb
    have hyy : ys = lowL x j := by
      apply List.ext_getElem?
      intro i
      by_cases hi : i < j
      · rw [hys i hi]; simp [lowL, hi]
      · rw [List.getElem?_eq_none (by omega), List.getElem?_eq_none (by simp [lowL]; omega)]
    subst hyy
    have hsl := hm.sl
    have hpr := hm.1
    clear hm hys
    refine goW ?_
    refine l_step (s_toStr eLk hsl) ?_
    refine goW ?_
    refine end_ret (by simp only [resRf, resRs, resR]; first | done | rfl) ⟨?_, hpr⟩
    simp [put_app, put_none]
end Go.Proofs.Ytekifjeckbndiaa.VM

/- Layer 14: the document's PutCheck. -/
namespace Go.Proofs.Ytekifjeckbndiaa.VM
open Go
set_option linter.unusedVariables false
set_option linter.unusedSimpArgs false
attribute [local irreducible] wq wqL wqD wqE wqO Th Bk EndR
set_option maxHeartbeats 8000000

theorem refPut_good (H : Heap) (w v : V) (ws vs : List Int) (r m t : Int) (hw : Sl 1 intC H w ws) (hv : Sl 1 intC H v vs) (hm : chkMay ws vs r m t = true) : Call Try.prog 56 [.agg (chkC w v r m t)] H (.tup [.str (strOf (putL ws vs r m t)), .int .i64 0]) H := by
  refine call_plain fit mixed Try.func56 rfl rfl rfl (by kernel_rfl) rfl ?_
  obtain ⟨hvw, hvv, hlv, hlw1, _, _, _⟩ := chkMay_split hm
  have hlw := vecMay_len hvw
  obtain ⟨n, hn⟩ : ∃ n, ws.length = n := ⟨_, rfl⟩
  obtain ⟨H1, hH1⟩ : ∃ H1, H ++ [.row (chkC w v r m t) true] = H1 := ⟨_, rfl⟩
  have p1 : H <+: H1 := by rw [← hH1]; exact List.prefix_append _ _
  have g1 : H1[H.length]? = some (.row (chkC w v r m t) true) := by rw [← hH1]; simp
  have hw1 := hw.mono p1
  have hv1 := hv.mono p1
  have c0 := refChkMay_ H1 w v ws vs r m t hw1 hv1 (by omega) (by omega)
  rw [hm] at c0
  have la := ld_agg T31 rfl g1 rfl
  have l0 := ld_cell (q := 0) T27 rfl g1 rfl
  have l1 := ld_cell (q := 1) T27 rfl g1 rfl
  have l2 := ld_cell (q := 2) T3 rfl g1 rfl
  have l3 := ld_cell (q := 3) T3 rfl g1 rfl
  have l4 := ld_cell (q := 4) T3 rfl g1 rfl
  have hlen := hw1.len T27 rfl
  have hlen2 := hv1.len T27 rfl
  rw [hn] at hlen hlv hlw hlw1
  rw [hlv] at hlen2
  have k1 := low_ H1 n 1 (by decide)
  have k2 := low_ H1 r 4 (by decide)
  have k3 := low_ H1 m 4 (by decide)
  have k4 := low_ H1 t 1 (by decide)
  obtain ⟨pre, hpre⟩ : ∃ x, lowL ws.length 1 ++ lowsL ws = x := ⟨_, rfl⟩
  have hprel : pre.length = 1 + 4 * n := by rw [← hpre]; simp only [List.length_append, lowL_len, lowsL_len]; omega
  obtain ⟨out, hout⟩ : ∃ x, putL ws vs r m t = x := ⟨_, rfl⟩
  rw [hout]
  clear hm hvw hvv hw hv
  refine goW ?_
  refine l_heap (h' := H1) hH1 ?_
  refine goW ?_
  refine l_callG c0 ?_
  refine goW ?_
  refine cond_go (fun hb => ?_) (fun hb => ?_)
  · cases hb
  clear hb c0 la
  refine goW ?_
  refine l_callG k1 ?_
  refine goW ?_
  refine wq_loop (fun c ρ hp => ∃ k, k ≤ n ∧ c = n - k ∧ hp = H1 ∧ ρ 1 = .ptr H.length 0 ∧ ρ 4 = .str (strOf (lowL n 1 ++ lowsL (ws.take k))) ∧ ρ 5 = .int .i64 (k : Nat)) ⟨0, Nat.zero_le _, rfl, rfl, rfl, by simp [lowsL]; rfl, rfl⟩ ?_
  rintro _ ρ hp ⟨k, hk, rfl, hpe, h1, h4, h5⟩
  subst hpe
  clear k1
  refine goW ?_
  refine cond_go (fun hb => ?_) (fun hb => ?_)
  · have hk' : k < n := by simpa using hb
    clear hb
    have hwk := getD_some (xs := ws) (k := k) (by omega)
    obtain ⟨b, o, _, hi, rfl, _, hlo, _⟩ := hw1.get T27 rfl T3 rfl hwk
    have ho := loadV_one T3 rfl hlo
    have c1 := low_ hp (ws.getD k 0) 4 (by decide)
    have hsn := lowsL_snoc hwk
    have hadd := str_add (a := lowL n 1 ++ lowsL (ws.take k)) (b := lowL (ws.getD k 0) 4) (by simp only [List.length_append, lowL_len, lowsL_len, List.length_take]; omega)
    rw [List.append_assoc, ← hsn] at hadd
    have hw2 := wrap_succ (n := k) (by omega)
    clear hlo hwk hsn k2 k3 k4 hlen2 l1 l2 l3 l4
    refine goW ?_
    refine l_callG c1 ?_
    refine l_step (s_bin eLk eLk hadd) ?_
    refine goW ?_
    refine ⟨n - (k + 1), by omega, k + 1, hk', rfl, rfl, ?_⟩
    simp [put_app, put_none, *]
  have hk' : k = n := by have : ¬ k < n := by simpa using hb
                         omega
  subst hk'
  rw [List.take_of_length_le (by omega), ← hn, hpre] at h4
  clear hb hlen l0
  refine wq_cut (fun ρ => ρ 1 = .ptr H.length 0 ∧ ρ 4 = .str (strOf pre)) ⟨h1, h4⟩ ?_
  clear h1 h4 h5
  clear ρ
  rintro ρ ⟨h1, h4⟩
  refine goW ?_
  refine wq_loop (fun c ρ hp' => ∃ j, j ≤ k ∧ c = k - j ∧ hp' = hp ∧ ρ 1 = .ptr H.length 0 ∧ ρ 4 = .str (strOf (pre ++ lowsL (vs.take j))) ∧ ρ 6 = .int .i64 (j : Nat)) ⟨0, Nat.zero_le _, rfl, rfl, by simp [put_app, put_none, h1], by simp [put_app, put_none, h4, lowsL], rfl⟩ ?_
  clear h1 h4
  clear ρ
  rintro _ ρ hp2 ⟨j, hj, rfl, hpe, h1, h4, h6⟩
  subst hpe
  refine goW ?_
  refine cond_go (fun hb => ?_) (fun hb => ?_)
  · have hj' : j < k := by simpa using hb
    clear hb
    have hwk := getD_some (xs := vs) (k := j) (by omega)
    obtain ⟨b, o, _, hi, rfl, _, hlo, _⟩ := hv1.get T27 rfl T3 rfl hwk
    have ho := loadV_one T3 rfl hlo
    have c1 := low_ hp2 (vs.getD j 0) 4 (by decide)
    have hsn := lowsL_snoc hwk
    have hadd := str_add (a := pre ++ lowsL (vs.take j)) (b := lowL (vs.getD j 0) 4) (by simp only [List.length_append, lowL_len, lowsL_len, List.length_take]; omega)
    rw [List.append_assoc, ← hsn] at hadd
    have hw2 := wrap_succ (n := j) (by omega)
    clear hlo hwk hsn k2 k3 k4 l2 l3 l4
    refine goW ?_
    refine l_callG c1 ?_
    refine l_step (s_bin eLk eLk hadd) ?_
    refine goW ?_
    refine ⟨k - (j + 1), by omega, j + 1, hj', rfl, rfl, ?_⟩
    simp [put_app, put_none, *]
  have hj' : j = k := by have : ¬ j < k := by simpa using hb
                         omega
  subst hj'
  rw [List.take_of_length_le (by omega)] at h4
  clear hb hlen2 l1
  have hfin : out = pre ++ lowsL vs ++ lowL r 4 ++ lowL m 4 ++ lowL t 1 := by rw [← hout, ← hpre]; rfl
  have a1 := str_add (a := pre ++ lowsL vs) (b := lowL r 4) (by simp only [List.length_append, lowL_len, lowsL_len]; omega)
  have a2 := str_add (a := pre ++ lowsL vs ++ lowL r 4) (b := lowL m 4) (by simp only [List.length_append, lowL_len, lowsL_len]; omega)
  have a3 := str_add (a := pre ++ lowsL vs ++ lowL r 4 ++ lowL m 4) (b := lowL t 1) (by simp only [List.length_append, lowL_len, lowsL_len]; omega)
  rw [← hfin] at a3
  clear hout hfin hpre
  refine goW ?_
  refine d_call0G k2 ?_
  refine d_step (s_bin eLk eLk a1) ?_
  refine goW ?_
  refine d_call0G k3 ?_
  refine d_step (s_bin eLk eLk a2) ?_
  refine goW ?_
  refine d_call0G k4 ?_
  refine d_step (s_bin eLk eLk a3) ?_
  refine goW ?_
  refine end_ret (by simp only [resRf, resRs, resR]; first | done | rfl) ⟨?_, p1⟩
  simp [put_app, put_none]
end Go.Proofs.Ytekifjeckbndiaa.VM

/- Layers 5, 11: the document's first weights and hypers. -/
namespace Go.Proofs.Ytekifjeckbndiaa.VM
open Go
set_option linter.unusedVariables false
set_option linter.unusedSimpArgs false
attribute [local irreducible] wq wqL wqD wqE wqO Th Bk EndR
set_option maxHeartbeats 8000000

theorem refInit_ (H : Heap) (i h s f : Nat) (hi : 1 ≤ i ∧ i ≤ 3) (hh : 1 ≤ h ∧ h ≤ 3) (hs : s ≤ 65535) (hf : f ≤ 1048560) :
    ∃ u H', Call Try.prog 54 [.agg [.int .i64 i, .int .i64 h], .int .i64 s, .int .i64 f] H (.tup [u, .int .i64 0]) H' ∧ Mine 1 intC H H' u (initL i h s f) := by
  suffices hgoal : ∃ w H', (∃ u, w = .tup [u, .int .i64 0] ∧ Mine 1 intC H H' u (initL i h s f)) ∧ Call Try.prog 54 [.agg [.int .i64 i, .int .i64 h], .int .i64 s, .int .i64 f] H w H' by
    obtain ⟨_, H', ⟨u, rfl, h1⟩, h2⟩ := hgoal
    exact ⟨u, H', h2, h1⟩
  refine call_wq fit mixed Try.func54 rfl rfl rfl (by kernel_rfl) ?_
  obtain ⟨H1, hH1⟩ : ∃ H1, H ++ [.row [.int .i64 i, .int .i64 h] true] = H1 := ⟨_, rfl⟩
  have p1 : H <+: H1 := by rw [← hH1]; exact List.prefix_append _ _
  have g1 : H1[H.length]? = some (.row [.int .i64 i, .int .i64 h] true) := by rw [← hH1]; simp
  have la := ld_agg T23 rfl g1 rfl
  have c0 := refShapeMay_ H1 i h
  have hsm : shapeMay (i : Int) (h : Int) = true := by simp only [shapeMay, Bool.and_eq_true, within_iff]; omega
  rw [hsm] at c0
  have c1 := upTo1_ H1 s 0 65535
  have c2 := upTo1_ H1 f 0 1048560
  rw [within_iff.2 ⟨by omega, by omega⟩] at c1 c2
  have hsmall : netSize i h ≤ 16 := by have := small_size hi.2 hh.2; unfold netSize; omega
  obtain ⟨n, hn⟩ : ∃ n, netSize i h = n := ⟨_, rfl⟩
  unfold initL
  rw [hn] at hsmall ⊢
  have hi' := hi.2
  have hh' := hh.2
  clear hsm hi hh
  refine goW ?_
  refine l_heap (h' := H1) hH1 ?_
  refine goW ?_
  refine l_callG c0 ?_
  refine goW ?_
  refine l_callG c1 ?_
  refine goW ?_
  refine l_callG c2 ?_
  refine goW ?_
  refine cond_go (fun hb => ?_) (fun hb => ?_)
  · cases hb
  clear hb c0 c1 c2
  refine goW ?_
  refine wq_loop (fun c ρ hp => ∃ k u, k ≤ n ∧ c = n - k ∧ Mine 1 intC H1 hp u ((List.range k).map (initK s f)) ∧ ρ 1 = .int .i64 s ∧ ρ 2 = .int .i64 f ∧ ρ 3 = .ptr H.length 0 ∧ ρ 8 = u ∧ ρ 9 = .int .i64 (k : Nat)) ⟨0, .nils, Nat.zero_le _, rfl, Mine.nil (List.prefix_refl _), rfl, rfl, rfl, rfl, rfl⟩ ?_
  rintro _ ρ hp ⟨k, u, hk, rfl, hm, h1, h2, h3, h8, h9⟩
  have la2 : loadV T 23 hp H.length 0 = some (.agg [.int .i64 i, .int .i64 h]) := ld_agg T23 rfl (pre_get hm.1 g1) rfl
  have c3 := refsize_ hp i h hi' hh'
  rw [hn] at c3
  clear la
  refine goW ?_
  refine l_callG c3 ?_
  refine goW ?_
  refine cond_go (fun hb => ?_) (fun hb => ?_)
  · have hk' : k < n := by simpa using hb
    clear hb c3 la2
    have w1 : IntKind.i64.wrap ((f : Int) + (k : Int)) = ((f + k : Nat) : Int) := by rw [← Int.natCast_add]; exact wrap_nat (by omega)
    have c4 := refDraw_ hp s (f + k) hs (by omega)
    have w2 : IntKind.i64.wrap (((drawN s (f + k) : Nat) : Int) - 32768) = initK s f k := by
      have := drawN_lt s (f + k)
      unfold initK
      exact wrap_i64 (by omega) (by omega)
    obtain ⟨v', hp', nw, ap, hm2, _, _⟩ := int_app hm (initK s f k) (by simp; omega)
    rw [range_snoc] at hm2
    have hw := wrap_succ (n := k) (by omega)
    clear hm hs hf
    refine goW ?_
    refine l_callG c4 ?_
    refine goW ?_
    refine l_appendG nw ap ?_
    refine goW ?_
    refine ⟨n - (k + 1), by omega, k + 1, v', hk', rfl, hm2, ?_⟩
    simp [put_app, put_none, *]
  · have hk' : k = n := by have : ¬ k < n := by simpa using hb
                           omega
    subst hk'
    have hm2 := hm.low p1
    clear hb hm c3 la2
    refine goW ?_
    refine end_ret (by simp only [resRf, resRs, resR]; first | done | rfl) ⟨u, ?_, hm2⟩
    simp [put_app, put_none, *]

theorem refResample_ (H : Heap) (s k : Nat) (hs : s ≤ 65535) (hk : k ≤ 1048575) : Call Try.prog 91 [.int .i64 s, .int .i64 k] H (.tup [.agg [.int .i64 (rateN s k : Nat), .int .i64 (momN s k : Nat)], .int .i64 0]) H := by
  refine call_plain fit mixed Try.func91 rfl rfl rfl (by kernel_rfl) rfl ?_
  obtain ⟨H1, hH1⟩ : ∃ H1, H ++ [.row [.int .i64 0, .int .i64 0] true] = H1 := ⟨_, rfl⟩
  have p1 : H <+: H1 := by rw [← hH1]; exact List.prefix_append _ _
  have g1 : H1[H.length]? = some (.row [.int .i64 0, .int .i64 0] true) := by rw [← hH1]; simp
  have c1 := upTo1_ H1 s 0 65535
  have c2 := upTo1_ H1 k 0 1048575
  rw [within_iff.2 ⟨by omega, by omega⟩] at c1 c2
  have c3 := refPick_ H1 s k 16321 hs (by omega) (by decide) (by decide)
  have c4 := refPick_ H1 s (k + 1) 58983 hs (by omega) (by decide) (by decide)
  have w0 := wrap_succ (n := k) (by omega)
  have c4' : Call Try.prog 117 [.int .i64 s, .int .i64 ((k : Int) + 1), .int .i64 58983] H1 (.tup [.int .i64 (momN s k : Nat), .int .i64 0]) H1 := c4
  have w1 : IntKind.i64.wrap (64 + ((pickN s k 16321 : Nat) : Int)) = ((rateN s k : Nat) : Int) := by
    have h1 := pickN_lt (s := s) (k := k) (b := 16321) (by decide)
    unfold rateN
    rw [wrap_i64 (by omega) (by omega)]; omega
  have hst := agg_store (cells := [V.int .i64 (rateN s k : Nat), V.int .i64 (momN s k : Nat)]) T29 g1 rfl rfl
  obtain ⟨H2, hH2⟩ : ∃ H2, H1.set H.length (.row [V.int .i64 (rateN s k : Nat), V.int .i64 (momN s k : Nat)] true) = H2 := ⟨_, rfl⟩
  rw [hH2] at hst
  have hlt := (List.getElem?_eq_some_iff.1 g1).1
  have p2 : H <+: H2 := by rw [← hH2]; exact pre_set p1 (Nat.le_refl _)
  have ln2 : Heap.loadN H2 H.length 0 2 = some [V.int .i64 (rateN s k : Nat), V.int .i64 (momN s k : Nat)] := by unfold Heap.loadN; rw [← hH2, List.getElem?_set_self hlt]; rfl
  clear c4 hs hk g1 hlt hH2
  refine goW ?_
  refine l_heap (h' := H1) hH1 ?_
  refine goW ?_
  refine l_callG c1 ?_
  refine goW ?_
  refine l_callG c2 ?_
  refine goW ?_
  refine cond_go (fun hb => ?_) (fun hb => ?_)
  · cases hb
  clear hb
  refine goW ?_
  refine l_callG c3 ?_
  refine goW ?_
  refine l_callG c4' ?_
  refine goW ?_
  refine l_step (s_store eLk eLk hst) ?_
  refine goW ?_
  refine end_ret (v := .tup [.agg [.int .i64 (rateN s k : Nat), .int .i64 (momN s k : Nat)], .int .i64 0]) ?_ ⟨rfl, p2⟩
  simp only [resRf, resRs, resR, put_app, put_none, Nat.reduceEqDiff, reduceIte, Option.some.injEq, reduceCtorEq, T29, ln2]
  rfl

theorem refFirstHyper_ (H : Heap) (s k : Nat) (hs : s ≤ 65535) (hk : k ≤ 7) : Call Try.prog 55 [.int .i64 s, .int .i64 k] H (.tup [.agg [.int .i64 (rateN s (40000 + 2 * k) : Nat), .int .i64 (momN s (40000 + 2 * k) : Nat)], .int .i64 0]) H := by
  refine call_plain fit mixed Try.func55 rfl rfl rfl (by kernel_rfl) rfl ?_
  obtain ⟨H1, hH1⟩ : ∃ H1, H ++ [.row [.int .i64 0, .int .i64 0] true] = H1 := ⟨_, rfl⟩
  have p1 : H <+: H1 := by rw [← hH1]; exact List.prefix_append _ _
  have g1 : H1[H.length]? = some (.row [.int .i64 0, .int .i64 0] true) := by rw [← hH1]; simp
  have c1 := upTo1_ H1 s 0 65535
  have c2 := upTo1_ H1 k 0 7
  rw [within_iff.2 ⟨by omega, by omega⟩] at c1 c2
  obtain ⟨q, hq⟩ : ∃ q, 40000 + 2 * k = q := ⟨_, rfl⟩
  have c3 := refResample_ H1 s q hs (by omega)
  have w0 : IntKind.i64.wrap (2 * (k : Int)) = ((2 * k : Nat) : Int) := by rw [show 2 * (k : Int) = ((2 * k : Nat) : Int) by omega]; exact wrap_nat (by omega)
  have w1 : IntKind.i64.wrap (40000 + ((2 * k : Nat) : Int)) = (q : Int) := by rw [wrap_i64 (by omega) (by omega)]; omega
  rw [hq]
  have hst := agg_store (cells := [V.int .i64 (rateN s q : Nat), V.int .i64 (momN s q : Nat)]) T29 g1 rfl rfl
  obtain ⟨H2, hH2⟩ : ∃ H2, H1.set H.length (.row [V.int .i64 (rateN s q : Nat), V.int .i64 (momN s q : Nat)] true) = H2 := ⟨_, rfl⟩
  rw [hH2] at hst
  have hlt := (List.getElem?_eq_some_iff.1 g1).1
  have p2 : H <+: H2 := by rw [← hH2]; exact pre_set p1 (Nat.le_refl _)
  have ln2 : Heap.loadN H2 H.length 0 2 = some [V.int .i64 (rateN s q : Nat), V.int .i64 (momN s q : Nat)] := by unfold Heap.loadN; rw [← hH2, List.getElem?_set_self hlt]; rfl
  clear hs hk g1 hlt hH2 hq
  refine goW ?_
  refine l_heap (h' := H1) hH1 ?_
  refine goW ?_
  refine l_callG c1 ?_
  refine goW ?_
  refine l_callG c2 ?_
  refine goW ?_
  refine cond_go (fun hb => ?_) (fun hb => ?_)
  · cases hb
  clear hb
  refine goW ?_
  refine l_callG c3 ?_
  repeat (first | refine l_go ?_ (by first | exact s_extract eLk (by rfl)))
  refine l_step (s_store eLk eLk hst) ?_
  refine goW ?_
  refine end_ret (v := .tup [.agg [.int .i64 (rateN s q : Nat), .int .i64 (momN s q : Nat)], .int .i64 0]) ?_ ⟨rfl, p2⟩
  simp only [resRf, resRs, resR, put_app, put_none, Nat.reduceEqDiff, reduceIte, Option.some.injEq, reduceCtorEq, T29, ln2]
  rfl
end Go.Proofs.Ytekifjeckbndiaa.VM

/- Layer 20: the document's FirstMember. -/
namespace Go.Proofs.Ytekifjeckbndiaa.VM
open Go
set_option linter.unusedVariables false
set_option linter.unusedSimpArgs false
attribute [local irreducible] wq wqL wqD wqE wqO Th Bk EndR
set_option maxHeartbeats 8000000

theorem refFirst_good (H : Heap) (c : Cfg) (rv : V) (id : Int) (hr : Rows H rv c.rows) (hc : cfgMay c = true) (hid : 0 ≤ id ∧ id < c.m) :
    ∃ w H', Call Try.prog 17 [.agg (cfgC c rv), .int .i64 id] H w H' ∧ ∃ u1 u2, w = .tup [.agg (memC u1 u2 (firstR c id) (firstM c id) 0 0), .str (strOf (firstS c id)), .int .i64 0] ∧ Mem H H' [.own 1 intC u2 (firstV c), .own 1 intC u1 (firstW c id)] := by
  have hfit := first_fits hc id
  simp only [memFits, Bool.and_eq_true] at hfit
  obtain ⟨hchk, _⟩ := hfit
  obtain ⟨hm2, hloss, hseed, _⟩ := cfgMay_split hc
  obtain ⟨hs, hr1, hr8, hrok⟩ := lossMay_split hloss
  obtain ⟨a, b, ha, hb, ha1, ha3, hb1, hb3⟩ := shape_ab hs
  have h16 := size16 ha3 hb3
  obtain ⟨s, hse⟩ : ∃ s : Nat, c.seed = s := ⟨c.seed.toNat, by omega⟩
  obtain ⟨d, hd⟩ : ∃ d : Nat, id = d := ⟨id.toNat, by omega⟩
  have hWl : (firstW c id).length = netSize a b := by unfold firstW; rw [ha, hb]; simp only [Int.toNat_natCast]; exact initL_len _ _ _ _
  have hZr : firstV c = List.replicate (netSize a b) 0 := by unfold firstV; rw [ha, hb]; simp only [Int.toNat_natCast]
  have hW' : initL a b s (50000 + 16 * d) = firstW c id := by unfold firstW; rw [ha, hb, hse, hd]; simp only [Int.toNat_natCast]
  have hR' : ((rateN s (40000 + 2 * d) : Nat) : Int) = firstR c id := by unfold firstR; rw [hse, hd]; simp only [Int.toNat_natCast]
  have hM' : ((momN s (40000 + 2 * d) : Nat) : Int) = firstM c id := by unfold firstM; rw [hse, hd]; simp only [Int.toNat_natCast]
  have hS' : putL (firstW c id) (firstV c) (firstR c id) (firstM c id) 0 = firstS c id := rfl
  have w0 : IntKind.i64.wrap (c.m - 1) = c.m - 1 := wrap_i64 (by omega) (by omega)
  have w1 : IntKind.i64.wrap (16 * id) = 16 * id := wrap_i64 (by omega) (by omega)
  have w2 : IntKind.i64.wrap (50000 + 16 * id) = ((50000 + 16 * d : Nat) : Int) := by rw [wrap_i64 (by omega) (by omega)]; omega
  have lrow : ∀ r ∈ c.rows, r.1.length ≤ 2 ^ 47 := fun rr hrr => by
    have := hrok rr hrr
    simp only [rowOk, Bool.and_eq_true] at this
    have := vecMay_len (feeds_split this.1).2
    omega
  generalize firstW c id = W at *
  generalize firstV c = Z at *
  generalize firstR c id = r at *
  generalize firstM c id = m at *
  generalize firstS c id = S at *
  refine call_mem fit mixed Try.func17 rfl rfl rfl (by kernel_rfl) fun hM => ?_
  refine wq_seq (wq_line ?_)
  refine l_boxM T26 fun b1 H1 hM => ?_
  refine l_newM (cs := zeroMem) T33 rfl fun b2 H2 hM => ?_
  have c1 := refConfMay_ H2 c rv (hr.mono hM.pre) (by omega) lrow
  rw [hc] at c1
  have c2 := upTo12_ H2 id 0 (c.m - 1)
  rw [within_iff.2 ⟨hid.1, by omega⟩] at c2
  obtain ⟨u1, H3, c3, m3⟩ := refInit_ H2 a b s (50000 + 16 * d) ⟨ha1, ha3⟩ ⟨hb1, hb3⟩ (by omega) (by omega)
  rw [hW'] at m3
  rw [← ha, ← hb, ← hse] at c3
  have c4 := refFirstHyper_ H3 s d (by omega) (by omega)
  rw [hR', hM', ← hse, ← hd] at c4
  have hlen := m3.sl.len T27 rfl
  rw [hWl] at hlen
  have t1 := m3.sl.cells
  have t2 := m3.sl.two
  clear hid hm2 hloss hseed hs hr1 hr8 hrok ha hb ha1 ha3 hb1 hb3 hse hd hW' hR' hM' hWl lrow
  refine goM ?_
  refine l_callG c1 ?_
  refine goM ?_
  refine l_callG c2 ?_
  refine goM ?_
  refine l_callG c3 ?_
  replace hM := hM.call1 m3.mem
  refine goM ?_
  refine l_callG c4 ?_
  refine goM ?_
  refine l_newM (cs := [.int .i64 0, .int .i64 0]) T29 rfl fun b3 H4 hM => ?_
  refine l_putM T29 fun H5 hM => ?_
  refine goM ?_
  refine d_makeM 1 intC T27 rfl T3 (n := netSize a b) (z := 0) rfl rfl rfl rfl rfl ⟨by show (8 : Int) * _ ≤ _; omega, by omega⟩ fun u2 H6 hM => ?_
  rw [← hZr] at hM
  have t3 := (hM.sl .here).cells
  refine goM ?_
  refine d_newM (cs := zeroChk) T31 rfl fun b4 H7 hM => ?_
  refine d_putM T31 fun H8 hM => ?_
  have c5 := refPut_good H8 u1 u2 W Z r m 0 (hM.slG) (hM.slG) hchk
  rw [hS'] at c5
  refine goM ?_
  refine l_callG c5 ?_
  refine goM ?_
  refine l_putM T33 fun H9 hM => ?_
  refine goM ?_
  exact end_3 (by first | exact .inl rfl | exact .inr rfl) ⟨_, _, rfl, hM.subG⟩
end Go.Proofs.Ytekifjeckbndiaa.VM

/- Layer 21: what a step of training answers, whatever comes in: the program's One, the document's Train. -/
namespace Go.Proofs.Ytekifjeckbndiaa.VM
open Go
set_option linter.unusedVariables false
set_option linter.unusedSimpArgs false
attribute [local irreducible] wq wqL wqD wqE wqO Th Bk EndR
set_option maxHeartbeats 8000000

/-- a checkpoint -/
structure Chk where
  ws : List Int
  vs : List Int
  r : Int
  m : Int
  t : Int
abbrev kC (w v : V) (k : Chk) : List V := [w, v, .int .i64 k.r, .int .i64 k.m, .int .i64 k.t]
abbrev noChk : Chk := ⟨[], [], 0, 0, 0⟩
def kMay (k : Chk) : Bool := chkMay k.ws k.vs k.r k.m k.t
def kFits (c : Cfg) (k : Chk) : Bool := memFits c.i c.h k.ws k.vs k.r k.m k.t
def kEq (a b : Chk) : Bool := eqChk a.ws a.vs a.r a.m a.t b.ws b.vs b.r b.m b.t
theorem kEq_self (a : Chk) : kEq a a = true := by simp [kEq, eqChk, eqHyper]
theorem kEq_iff {a b : Chk} : kEq a b = true ↔ a = b := by
  cases a; cases b
  simp [kEq, eqChk, eqHyper, and_assoc]
/-- where a checkpoint's numbers lie -/
structure KAt (H : Heap) (w v : V) (k : Chk) : Prop where
  ws : Sl 1 intC H w k.ws
  vs : Sl 1 intC H v k.vs
theorem KAt.mono {H H' : Heap} {w v : V} {k : Chk} (hp : H <+: H') (h : KAt H w v k) : KAt H' w v k := ⟨h.ws.mono hp, h.vs.mono hp⟩
theorem Mem.k {B H : Heap} {L : List Res} {w v : V} {k : Chk} {f g : Res → List Res} (h : Mem B H L) (h1 : Has L (.own 1 intC w k.ws) f) (h2 : Has L (.own 1 intC v k.vs) g) : KAt H w v k := ⟨h.sl h1, h.sl h2⟩
structure Chk.Fit (k : Chk) : Prop where
  ws : k.ws.length * 8 ≤ 140737488351232
  vs : k.vs.length * 8 ≤ 140737488351232
structure Cfg.Fit (c : Cfg) : Prop where
  rows : c.rows.length * 32 ≤ 140737488351232
  row : ∀ r ∈ c.rows, r.1.length * 8 ≤ 140737488351232

def trainOk (c : Cfg) (id : Int) (k : Chk) : Bool := cfgMay c && within id 0 (IntKind.i64.wrap (c.m - 1)) && kFits c k
def trainK (c : Cfg) (id : Int) (k : Chk) : Chk := ⟨nextL k.r k.m k.ws k.vs (trainG c id k.ws k.t), speedL k.m k.ws k.vs (trainG c id k.ws k.t), k.r, k.m, k.t + 1⟩
def trainR (c : Cfg) (id : Int) (k : Chk) : Chk × Int :=
  if trainOk c id k then if k.t ≥ c.total then (noChk, 2101) else (trainK c id k, 0) else (noChk, 2100)

theorem cells_ints (xs : List Int) : Cells 1 intC (xs.flatMap fun x => [V.int .i64 x]) xs := cells_of (R := intC) (fun x => [V.int .i64 x]) (fun x => ⟨rfl, rfl⟩) xs
theorem cells_rows (xs : List (V × Int)) : Cells 2 rowC (xs.flatMap fun p => [p.1, V.int .i64 p.2]) xs := cells_of (R := rowC) (fun p => [p.1, V.int .i64 p.2]) (fun x => ⟨rfl, rfl⟩) xs

theorem two_mem {H H' : Heap} {b1 b2 : Nat} {u1 u2 : V} {xs ys : List Int} (hp : H <+: H') (h1 : H.length ≤ b1) (h2 : H.length ≤ b2) (hne : b1 ≠ b2) (o1 : Own 1 intC H' b1 u1 xs) (o2 : Own 1 intC H' b2 u2 ys) : Mem H H' [.own 1 intC u1 xs, .own 1 intC u2 ys] := by
  have e1 := o1.blk
  have e2 := o2.blk
  refine ⟨hp, fun r hr => ?_, fun r hr c hc => ?_, ?_⟩
  · simp at hr
    rcases hr with rfl | rfl
    · exact .inr ⟨_, o1⟩
    · exact .inr ⟨_, o2⟩
  · simp at hr
    rcases hr with rfl | rfl
    · have := e1.symm.trans hc; cases this; exact h1
    · have := e2.symm.trans hc; cases this; exact h2
  · simp only [List.pairwise_cons, List.mem_singleton, forall_eq, List.not_mem_nil, false_implies, implies_true, List.Pairwise.nil, and_true]
    intro c hc hc2
    have a := e1.symm.trans hc
    have b := e2.symm.trans hc2
    cases a; cases b; exact hne rfl

theorem two_mine {H H' : Heap} {u1 u2 : V} {xs ys : List Int} (h1 : Mine 1 intC H H' u1 xs) (h2 : Mine 1 intC H H' u2 ys) (ha : Apart u1 u2) : Mem H H' [.own 1 intC u1 xs, .own 1 intC u2 ys] := by
  have m1 := h1.mem
  have m2 := h2.mem
  refine ⟨h1.1, fun r hr => ?_, fun r hr => ?_, ?_⟩
  · simp at hr
    rcases hr with rfl | rfl
    · exact m1.ok _ (by simp)
    · exact m2.ok _ (by simp)
  · simp at hr
    rcases hr with rfl | rfl
    · exact m1.low _ (by simp)
    · exact m2.low _ (by simp)
  · simp only [List.pairwise_cons, List.mem_singleton, forall_eq, List.not_mem_nil, false_implies, implies_true, List.Pairwise.nil, and_true]
    intro c hc hc2
    exact ha c c hc hc2 rfl

theorem wrap_m {m : Int} (h : 2 ≤ m ∧ m ≤ 8) : IntKind.i64.wrap (m - 1) = m - 1 := wrap_i64 (by omega) (by omega)
theorem trainOk_split {c : Cfg} {id : Int} {k : Chk} (h : trainOk c id k = true) : cfgMay c = true ∧ (0 ≤ id ∧ id < c.m) ∧ kFits c k = true := by
  unfold trainOk at h
  rw [Bool.and_eq_true, Bool.and_eq_true] at h
  obtain ⟨⟨h1, h2⟩, h3⟩ := h
  obtain ⟨hm, _⟩ := cfgMay_split h1
  rw [wrap_m hm, within_iff] at h2
  exact ⟨h1, by omega, h3⟩

end Go.Proofs.Ytekifjeckbndiaa.VM

/- The statements' helpers over the memory by parts: checkpoints and configs that are copied, written over. -/
namespace Go.Proofs.Ytekifjeckbndiaa.VM
open Go
set_option linter.unusedVariables false
set_option linter.unusedSimpArgs false
attribute [local irreducible] wq wqL wqD wqE wqO Th Bk EndR
set_option maxHeartbeats 8000000

/-- rows of data that lie there -/
def rowsFact (v : V) (rv : List (V × Int)) (rs : List (List Int × Int)) : Fact where
  S c := v.blk = some c ∨ ∃ q ∈ rv, q.1.blk = some c
  p H := Sl 2 rowC H v rv ∧ RowsAt H rv rs
  st H H' h hf := ⟨h.1.fr fun c _ hc => hf c (.inl hc), h.2.1, fun k q r hq hr => ⟨(h.2.2 k q r hq hr).1.fr fun c _ hc => hf c (.inr ⟨q, List.mem_iff_getElem?.2 ⟨k, hq⟩, hc⟩), (h.2.2 k q r hq hr).2⟩⟩
  lt H c h hc := by
    rcases hc with hc | ⟨q, hq, hc⟩
    · exact h.1.lt hc
    · obtain ⟨k, hk⟩ := List.mem_iff_getElem?.1 hq
      obtain ⟨r, hr⟩ : ∃ r, rs[k]? = some r := ⟨rs[k]'(by have := (List.getElem?_eq_some_iff.1 hk).1; have := h.2.1; omega), by simp⟩
      exact (h.2.2 k q r hk hr).1.lt hc
theorem rows_of {H : Heap} {v : V} {rv : List (V × Int)} {rs : List (List Int × Int)} (h : (rowsFact v rv rs).p H) : Rows H v rs := ⟨rv, h.1, h.2⟩
theorem RowsM.mem {B H : Heap} {v : V} {rs : List (List Int × Int)} (h : RowsM B H v rs) : ∃ rv, Mem B H [.ro (rowsFact v rv rs)] := by
  obtain ⟨rv, h1, h2, h3⟩ := h
  refine ⟨rv, Mem.mkro h1.1 ⟨h1.sl, h2⟩ fun c hc => ?_⟩
  rcases hc with hc | ⟨q, hq, hc⟩
  · exact (h1.blk hc).1
  · exact h3 q hq c hc

theorem spoilIntsM_ (B H : Heap) (L : List Res) (f : Res → List Res) (v : V) (xs : List Int) (hM : Mem B H L) (hh : Has L (.own 1 intC v xs) f) (lx : xs.length ≤ 2 ^ 47) : ∃ w H', Call Try.prog 61 [v] H w H' ∧ w = .tup [] ∧ ∃ ys : List Int, ys.length = xs.length ∧ Mem B H' (f (.own 1 intC v ys)) := by
  refine call_turn fit mixed hM Try.func61 rfl rfl rfl (by kernel_rfl) fun _ => ?_
  obtain ⟨n, hn⟩ : ∃ n, xs.length = n := ⟨_, rfl⟩
  refine goM ?_
  refine wq_loop (fun c ρ hp => ∃ (k : Nat) (ys : List Int) (L' : List Res), k ≤ n ∧ c = n - k ∧ ys.length = n ∧ Mem B hp L' ∧ Has L' (.own 1 intC v ys) f ∧ ρ 0 = v ∧ ρ 2 = .int .i64 (k : Nat)) ⟨0, xs, L, Nat.zero_le _, rfl, hn, hM, hh, rfl, rfl⟩ ?_
  clear hM hh
  rintro _ ρ hp ⟨k, ys, L', hk, rfl, hys, hM, hh, h0, h2⟩
  have hlen := (hM.sl hh).len T27 rfl
  rw [hys] at hlen
  refine goM ?_
  refine cond_go (fun hb => ?_) (fun hb => ?_)
  · have hk' : k < n := by simpa using hb
    clear hb
    obtain ⟨x, hxk⟩ : ∃ e, ys[k]? = some e := ⟨ys[k]'(by omega), by simp⟩
    obtain ⟨b, hi, hput⟩ := hM.elem hh T27 rfl T3 rfl (k := k) (by omega)
    obtain ⟨b', o', _, hi', rfl, _, hlo, _⟩ := (hM.sl hh).get T27 rfl T3 rfl hxk
    rw [hi] at hi'
    cases hi'
    have ho := loadV_one T3 rfl hlo
    obtain ⟨H', hst, hM'⟩ := hput (.int .i64 (IntKind.i64.wrap (-9 - x))) _ rfl rfl rfl
    have hw := wrap_succ (n := k) (by omega)
    clear hxk hlo hput
    refine goM ?_
    refine l_stM hst ?_
    refine goM ?_
    exact ⟨n - (k + 1), by omega, k + 1, _, _, hk', rfl, by simpa using hys, hM', hh.again _, by simp [put_app, put_none, *]⟩
  · clear hb
    refine goM ?_
    refine end_normal (by simp only [resRf, resRs, resR]; first | done | rfl) ⟨rfl, ys, by omega, ?_⟩
    rw [hh.same]; exact hM

theorem spoilCheckM_ (B H : Heap) (L : List Res) (w v : V) (k : Chk) (hM : Mem B H (.own 1 intC w k.ws :: .own 1 intC v k.vs :: L)) (hf : k.Fit) : ∃ u H', Call Try.prog 22 [.agg (kC w v k)] H u H' ∧ u = .tup [] ∧ Mem B H' L := by
  have l1 := hf.ws
  have l2 := hf.vs
  have s1 := (hM.sl .here).cells
  have s2 := (hM.sl (.there .here)).cells
  refine call_turn fit mixed hM Try.func22 rfl rfl rfl (by kernel_rfl) fun _ => ?_
  refine wq_seq (wq_line ?_)
  refine l_boxM T31 fun b1 H1 hM => ?_
  refine goM ?_
  obtain ⟨_, H2, c1, rfl, ys, hys, hM⟩ := spoilIntsM_ B H1 _ _ w k.ws hM (.there .here) (by omega)
  refine l_callG c1 ?_
  refine goM ?_
  obtain ⟨_, H3, c2, rfl, zs, hzs, hM⟩ := spoilIntsM_ B H2 _ _ v k.vs hM (.there (.there .here)) (by omega)
  refine l_callG c2 ?_
  refine goM ?_
  exact end_normal (by simp only [resRf, resRs, resR]; first | done | rfl) ⟨rfl, hM.subG⟩

theorem copyCheckM_ (H : Heap) (w v : V) (k : Chk) (hk : KAt H w v k) (hf : k.Fit) : ∃ u H', Call Try.prog 15 [.agg (kC w v k)] H u H' ∧ ∃ a b, u = .agg (kC a b k) ∧ Mem H H' [.own 1 intC b k.vs, .own 1 intC a k.ws] := by
  have l1 := hf.ws
  have l2 := hf.vs
  have s1 := hk.ws.cells
  have s2 := hk.vs.cells
  refine call_mem fit mixed Try.func15 rfl rfl rfl (by kernel_rfl) fun hM => ?_
  refine wq_seq (wq_line ?_)
  refine l_boxM T31 fun b1 H1 hM => ?_
  refine l_newM (cs := zeroChk) T31 rfl fun b2 H2 hM => ?_
  refine goM ?_
  refine l_sliceM intC [] [] T27 rfl T3 rfl (cells_ints []) (by decide) fun e1 H3 hM => ?_
  refine goM ?_
  refine l_appM (hk.ws.mono hM.pre) fun a H4 hM => ?_
  have s3 := (hM.sl .here).cells
  refine goM ?_
  refine l_putM T27 fun H5 hM => ?_
  refine goM ?_
  refine l_sliceM intC [] [] T27 rfl T3 rfl (cells_ints []) (by decide) fun e2 H6 hM => ?_
  refine goM ?_
  refine l_appM (hk.vs.mono hM.pre) fun b H7 hM => ?_
  have s4 := (hM.sl .here).cells
  refine goM ?_
  refine l_putM T27 fun H8 hM => ?_
  refine goM ?_
  refine l_putM T31 fun H9 hM => ?_
  refine goM ?_
  exact end_1 (by first | exact .inl rfl | exact .inr rfl) ⟨a, b, rfl, hM.subG⟩

theorem copyConfigM_ (H : Heap) (c : Cfg) (v : V) (hv : Rows H v c.rows) (hf : c.Fit) : ∃ w H', Call Try.prog 14 [.agg (cfgC c v)] H w H' ∧ ∃ u rv, w = .agg (cfgC c u) ∧ Mem H H' [.ro (rowsFact u rv c.rows)] := by
  have l1 := hf.rows
  have l2 := hf.row
  have s0 : v.cells = [v] ∧ v.isTup = false := by obtain ⟨_, h, _⟩ := hv; exact h.cells
  refine call_mem fit mixed Try.func14 rfl rfl rfl (by kernel_rfl) fun hM => ?_
  refine wq_seq (wq_line ?_)
  refine l_boxM T26 fun b1 H1 hM => ?_
  refine l_newM (cs := zeroCfg) T26 rfl fun b2 H2 hM => ?_
  refine goM ?_
  obtain ⟨u, H3, c1, m1⟩ := copyRowsM_ H2 v c.rows (hv.mono hM.pre) (by omega) (fun r hr => by have := l2 r hr; omega)
  have s1 : u.cells = [u] ∧ u.isTup = false := by obtain ⟨_, h, _⟩ := m1.rows; exact h.cells
  obtain ⟨rv, m1⟩ := m1.mem
  refine l_callG c1 ?_
  replace hM := hM.call1 m1
  refine goM ?_
  refine l_putM T24 fun H4 hM => ?_
  refine goM ?_
  refine l_putM T26 fun H5 hM => ?_
  refine goM ?_
  exact end_1 (by first | exact .inl rfl | exact .inr rfl) ⟨u, rv, rfl, hM.subG⟩
end Go.Proofs.Ytekifjeckbndiaa.VM

/- Chapter 21: what the statements share: the small config, a first checkpoint, what every program answers. -/
namespace Go.Proofs.Ytekifjeckbndiaa.VM
open Go
set_option linter.unusedVariables false
set_option linter.unusedSimpArgs false
attribute [local irreducible] wq wqL wqD wqE wqO Th Bk EndR
set_option maxHeartbeats 8000000

/-- a fact that is kept from simp -/
def Held (p : Prop) : Prop := p

def smallC : Cfg := ⟨2, 1, 1, [([65536], 32768), ([-65536], 0)], 7, 3, 1, 1, true⟩
theorem small_may : cfgMay smallC = true := by decide +kernel
theorem small_fit : smallC.Fit := ⟨by decide, fun r hr => by
  rcases List.mem_cons.1 hr with rfl | hr
  · simp
  · rcases List.mem_cons.1 hr with rfl | hr
    · simp
    · cases hr⟩
/-- a member's first checkpoint -/
def firstK (c : Cfg) (id : Int) : Chk := ⟨firstW c id, firstV c, firstR c id, firstM c id, 0⟩
/-- a member's cells -/
abbrev mC (w v : V) (k : Chk) (h : Int) : List V := [w, v, .int .i64 k.r, .int .i64 k.m, .int .i64 k.t, .int .i64 h]
theorem refFirstK_ (H : Heap) (c : Cfg) (rv : V) (id : Int) (hr : Rows H rv c.rows) (hc : cfgMay c = true) (hid : 0 ≤ id ∧ id < c.m) :
    ∃ w H', Call Try.prog 17 [.agg (cfgC c rv), .int .i64 id] H w H' ∧ ∃ u1 u2, w = .tup [.agg (mC u1 u2 (firstK c id) 0), .str (strOf (firstS c id)), .int .i64 0] ∧ Mem H H' [.own 1 intC u2 (firstK c id).vs, .own 1 intC u1 (firstK c id).ws] := refFirst_good H c rv id hr hc hid
theorem chkMay_t {ws vs : List Int} {r m t t' : Int} (h : chkMay ws vs r m t = true) (ht : 0 ≤ t' ∧ t' ≤ 32) : chkMay ws vs r m t' = true := by
  unfold chkMay at h ⊢
  simp only [Bool.and_eq_true, decide_eq_true_eq] at h ⊢
  exact ⟨⟨h.1.1, ht.1⟩, ht.2⟩
theorem kFits_t {c : Cfg} {k : Chk} {t : Int} (h : kFits c k = true) (ht : 0 ≤ t ∧ t ≤ 32) : kFits c { k with t := t } = true := by
  unfold kFits memFits at h ⊢
  rw [Bool.and_eq_true] at h ⊢
  exact ⟨chkMay_t h.1 ht, h.2⟩
theorem firstK_fits {c : Cfg} (hc : cfgMay c = true) (id : Int) : kFits c (firstK c id) = true := first_fits hc id
theorem kFits_fit {c : Cfg} {k : Chk} (h : kFits c k = true) : k.Fit := by
  unfold kFits memFits at h
  rw [Bool.and_eq_true] at h
  obtain ⟨a, b, l, _⟩ := chkMay_split h.1
  have := vecMay_len a
  have := vecMay_len b
  exact ⟨by omega, by omega⟩
theorem trainOk_of {c : Cfg} {id : Int} {k : Chk} (hc : cfgMay c = true) (hid : 0 ≤ id ∧ id < c.m) (hk : kFits c k = true) : trainOk c id k = true := by
  obtain ⟨hm, _⟩ := cfgMay_split hc
  unfold trainOk
  rw [hc, hk, wrap_m hm, within_iff.2 ⟨hid.1, by omega⟩]; rfl
theorem trainR_go {c : Cfg} {id : Int} {k : Chk} (hc : cfgMay c = true) (hid : 0 ≤ id ∧ id < c.m) (hk : kFits c k = true) (ht : k.t < c.total) : trainR c id k = (trainK c id k, 0) := by
  unfold trainR
  rw [if_pos (trainOk_of hc hid hk), if_neg (by omega)]
theorem trainR_done {c : Cfg} {id : Int} {k : Chk} (hc : cfgMay c = true) (hid : 0 ≤ id ∧ id < c.m) (hk : kFits c k = true) (ht : c.total ≤ k.t) : trainR c id k = (noChk, 2101) := by
  unfold trainR
  rw [if_pos (trainOk_of hc hid hk), if_pos ht]
theorem trainR_id {c : Cfg} {id : Int} {k : Chk} (hc : cfgMay c = true) (hid : id < 0 ∨ c.m ≤ id) : trainR c id k = (noChk, 2100) := by
  obtain ⟨hm, _⟩ := cfgMay_split hc
  have : within id 0 (c.m - 1) = false := by
    rw [Bool.eq_false_iff]; intro h; rw [within_iff] at h; omega
  unfold trainR trainOk
  rw [wrap_m hm, this, Bool.and_false, Bool.false_and, if_neg (by decide)]

theorem sameK_ (H : Heap) (w v w' v' : V) (k k' : Chk) (h : KAt H w v k) (h' : KAt H w' v' k') (hf : k.Fit) :
    Call Try.prog 20 [.agg (kC w v k), .agg (kC w' v' k')] H (.bool (kEq k k')) H := by
  have l1 := hf.ws
  have l2 := hf.vs
  exact sameCheck_ H w v w' v' k.ws k.vs k'.ws k'.vs k.r k.m k.t k'.r k'.m k'.t h.ws h.vs h'.ws h'.vs (by omega) (by omega)
theorem trainR_fit {c : Cfg} {id : Int} {k : Chk} (hf : k.Fit) : (trainR c id k).1.Fit := by
  have h1 := hf.ws
  unfold trainR
  split
  · split
    · exact ⟨by simp, by simp⟩
    · exact ⟨by simp [trainK, nextL]; omega, by simp [trainK, speedL]; omega⟩
  · exact ⟨by simp, by simp⟩

end Go.Proofs.Ytekifjeckbndiaa.VM

/- Layers 10, 20: the document's Loss, ScoreOf, FirstMember that is refused; both sides' contracts for every input. -/
namespace Go.Proofs.Ytekifjeckbndiaa.VM
open Go
set_option linter.unusedVariables false
set_option linter.unusedSimpArgs false
attribute [local irreducible] wq wqL wqD wqE wqO Th Bk EndR
set_option maxHeartbeats 8000000

theorem refLoss_ (H : Heap) (i h : Nat) (w rv : V) (ws : List Int) (rs : List (List Int × Int)) (hw : Sl 1 intC H w ws) (hr : Rows H rv rs) (hf : fits i h ws = true) (hl : lossMay i h rs = true) :
    Call Try.prog 60 [.agg [.int .i64 i, .int .i64 h], w, rv] H (.tup [.int .i64 (lossN i h ws rs), .int .i64 0]) H := by
  obtain ⟨hs, hr1, hr8, hrok⟩ := lossMay_split hl
  have hlw : ws.length ≤ 2 ^ 47 := by
    have := hf
    simp only [fits, Bool.and_eq_true] at this
    have := vecMay_len this.1.2
    omega
  have lrow : ∀ r ∈ rs, r.1.length ≤ 2 ^ 47 := fun rr hrr => by
    have := hrok rr hrr
    simp only [rowOk, Bool.and_eq_true] at this
    have := vecMay_len (feeds_split this.1).2
    omega
  obtain ⟨n, hn⟩ : ∃ n, rs.length = n := ⟨_, rfl⟩
  refine call_pure fit mixed Try.func60 rfl rfl rfl (by kernel_rfl) rfl fun hM => ?_
  refine wq_seq (wq_line ?_)
  refine l_boxM T23 fun b1 H1 hM => ?_
  have c1 := refFits_ H1 i h w ws (hw.mono hM.pre) hlw
  rw [hf] at c1
  have c2 := refRowsMay_ H1 i h rv rs (hr.mono hM.pre) (by omega) lrow
  rw [hl] at c2
  have hlen : builtinP T .len [24] [rv] = some (.int .i64 (n : Int)) := by
    obtain ⟨qv, hqv, hql, _⟩ := hr
    have := hqv.len T24 rfl
    rw [hql, hn] at this
    exact this
  clear hl hs lrow
  refine goM ?_
  refine l_callG c1 ?_
  refine goM ?_
  refine l_callG c2 ?_
  refine goM ?_
  refine wq_loop (fun c ρ hp => ∃ (k : Nat) (e o : V), k ≤ n ∧ c = n - k ∧ Mem H hp [.box b1 [.int .i64 i, .int .i64 h]] ∧ ρ 1 = w ∧ ρ 2 = rv ∧ ρ 3 = .ptr b1 0 ∧ ρ 8 = .int .i64 (lossN i h ws (rs.take k)) ∧ ρ 9 = .int .i64 (k : Int)) ⟨0, .nilp, .nilp, Nat.zero_le _, rfl, hM, rfl, rfl, rfl, rfl, rfl⟩ ?_
  clear hM c1 c2
  rintro _ ρ hp ⟨k, _, _, hk, rfl, hM, g1, g2, g3, g8, g9⟩
  refine goM ?_
  refine cond_go (fun hb => ?_) (fun hb => ?_)
  · have hk' : k < n := by simpa using hb
    clear hb
    obtain ⟨⟨xs, y⟩, hx⟩ : ∃ x, rs[k]? = some x := ⟨rs[k]'(by omega), by simp⟩
    have hok := hrok _ (List.mem_of_getElem? hx)
    simp only [rowOk, Bool.and_eq_true] at hok
    have hsn := lossN_snoc (i := i) (h := h) (ws := ws) hx
    obtain ⟨b3, o3, x, hi3, _, hlo3, hlo4, hxs⟩ := hr.at hx
    replace hlo3 := loadV_pre hM.pre hlo3
    replace hlo4 := loadV_pre hM.pre hlo4
    have hw1 := wrap_succ (n := k) (by omega)
    have c3 := refOut_ hp i h w x ws xs (hw.mono hM.pre) (hxs.mono hM.pre) hf hok.1
    clear hx hok
    refine goM ?_
    refine d_call0G c3 ?_
    have c5 := refPlus_ hp (outOf i h ws xs) (IntKind.i64.wrap (0 - y))
    have he : plus (outOf i h ws xs) (IntKind.i64.wrap (0 - y)) = errN i h ws (xs, y) := rfl
    rw [he] at c5
    have c6 := refTimes_ hp (errN i h ws (xs, y)) (errN i h ws (xs, y))
    have c7 := refPlus_ hp (lossN i h ws (rs.take k)) (times (errN i h ws (xs, y)) (errN i h ws (xs, y)))
    rw [← hsn] at c7
    clear he hsn c3
    refine goM ?_
    refine l_callG c5 ?_
    refine goM ?_
    refine l_callG c6 ?_
    refine goM ?_
    refine l_callG c7 ?_
    refine goM ?_
    exact ⟨n - (k + 1), by omega, k + 1, .nilp, .nilp, hk', rfl, hM, by simp [put_app, put_none, *]⟩
  · have hk' : k = n := by have : ¬ k < n := by simpa using hb
                           omega
    subst hk'
    clear hb
    rw [List.take_of_length_le (by omega)] at g8
    refine goM ?_
    exact end_2 (by first | exact .inl rfl | exact .inr rfl) ⟨rfl, hM.pre⟩

/-- a member's score, whatever it is -/
def scoreR (c : Cfg) (k : Chk) : Int × Int := if (cfgMay c && kFits c k) = true then (lossN c.i.toNat c.h.toNat k.ws c.rows, 0) else (0, 2000)
/-- a first member, whatever its number is -/
def firstOk (c : Cfg) (id : Int) : Bool := cfgMay c && within id 0 (IntKind.i64.wrap (c.m - 1))
def firstKR (c : Cfg) (id : Int) : Chk := if firstOk c id = true then firstK c id else noChk
def firstSR (c : Cfg) (id : Int) : List Int := if firstOk c id = true then firstS c id else []
def firstER (c : Cfg) (id : Int) : Int := if firstOk c id = true then 0 else 2000
theorem firstOk_split {c : Cfg} {id : Int} (h : firstOk c id = true) : cfgMay c = true ∧ (0 ≤ id ∧ id < c.m) := by
  unfold firstOk at h
  rw [Bool.and_eq_true] at h
  obtain ⟨hm, _⟩ := cfgMay_split h.1
  rw [wrap_m hm, within_iff] at h
  exact ⟨h.1, by omega⟩
theorem firstKR_fit (c : Cfg) (id : Int) : (firstKR c id).Fit := by
  unfold firstKR
  split
  · rename_i h
    exact kFits_fit (firstK_fits (firstOk_split h).1 id)
  · exact ⟨by simp, by simp⟩

theorem member_First (H : Heap) (c : Cfg) (rv : V) (id : Int) (hr : Rows H rv c.rows) (hc : c.Fit) :
    ∃ w H', Call Try.prog 16 [.agg (cfgC c rv), .int .i64 id] H w H' ∧ ∃ a b, w = .tup [.agg (mC a b (firstKR c id) 0), .str (strOf (firstSR c id)), .int .i64 (firstER c id)] ∧ Mem H H' [.own 1 intC b (firstKR c id).vs, .own 1 intC a (firstKR c id).ws] := by
  have l1 := hc.rows
  have l2 := hc.row
  unfold firstKR firstSR firstER
  cases hok : firstOk c id with
  | false => exact ⟨_, H, memberFirst_bad H c rv id hr (by omega) (fun r h => by have := l2 r h; omega) hok, .nils, .nils, rfl, ((Mem.start H).nil 1 intC).nil 1 intC⟩
  | true =>
    obtain ⟨h1, h2⟩ := firstOk_split hok
    exact memberFirst_ H c rv id hr h1 h2

theorem member_Score (H : Heap) (c : Cfg) (rv w v : V) (k : Chk) (h : Int) (hr : Rows H rv c.rows) (hk : KAt H w v k) (hc : c.Fit) (hf : k.Fit) :
    Call Try.prog 18 [.agg (cfgC c rv), .agg (mC w v k h)] H (.tup [.int .i64 (scoreR c k).1, .int .i64 (scoreR c k).2]) H := by
  have l1 := hc.rows
  have l2 := hc.row
  have l3 := hf.ws
  have l4 := hf.vs
  unfold scoreR
  cases hok : (cfgMay c && kFits c k) with
  | false => exact memberScore_bad H c rv w v k.ws k.vs k.r k.m k.t h hr (by omega) (fun r h => by have := l2 r h; omega) hk.ws hk.vs (by omega) (by omega) hok
  | true =>
    rw [Bool.and_eq_true] at hok
    exact memberScore_ H c rv w v k.ws k.vs k.r k.m k.t h hr hk.ws hk.vs hok.1 hok.2

theorem refScoreOf_ (H : Heap) (c : Cfg) (rv w v : V) (k : Chk) (h : Int) (hr : Rows H rv c.rows) (hk : KAt H w v k) (hc : c.Fit) (hf : k.Fit) :
    Call Try.prog 19 [.agg (cfgC c rv), .agg (mC w v k h)] H (.tup [.int .i64 (scoreR c k).1, .int .i64 (scoreR c k).2]) H := by
  have l1 := hc.rows
  have l2 := hc.row
  have l3 := hf.ws
  have l4 := hf.vs
  refine call_pure fit mixed Try.func19 rfl rfl rfl (by kernel_rfl) rfl fun hM => ?_
  refine wq_seq (wq_line ?_)
  refine l_boxM T26 fun b1 H1 hM => ?_
  refine l_boxM T33 fun b2 H2 hM => ?_
  have hr2 := hr.mono hM.pre
  have hk2 := hk.mono hM.pre
  have c1 := refConfMay_ H2 c rv hr2 (by omega) (fun r h => by have := l2 r h; omega)
  have c2 := refChkMay_ H2 w v k.ws k.vs k.r k.m k.t hk2.ws hk2.vs (by omega) (by omega)
  have c3 := refFits_ H2 c.i c.h w k.ws hk2.ws (by omega)
  have s1 := hk.ws.cells
  have s2 := hk.vs.cells
  unfold scoreR kFits memFits
  obtain ⟨q1, e1⟩ : ∃ q, cfgMay c = q := ⟨_, rfl⟩
  obtain ⟨q2, e2⟩ : ∃ q, chkMay k.ws k.vs k.r k.m k.t = q := ⟨_, rfl⟩
  obtain ⟨q3, e3⟩ : ∃ q, fits c.i c.h k.ws = q := ⟨_, rfl⟩
  rw [e1] at c1 ⊢
  rw [e2] at c2 ⊢
  rw [e3] at c3 ⊢
  cases q1 with
  | false =>
    clear e1 e2 e3 c2 c3
    refine goM ?_
    refine l_callG c1 ?_
    refine goM ?_
    exact end_2 (by first | exact .inl rfl | exact .inr rfl) ⟨rfl, hM.pre⟩
  | true =>
    cases q2 with
    | false =>
      clear e1 e2 e3 c3
      refine goM ?_
      refine l_callG c1 ?_
      refine goM ?_
      refine l_callG c2 ?_
      refine goM ?_
      exact end_2 (by first | exact .inl rfl | exact .inr rfl) ⟨rfl, hM.pre⟩
    | true =>
      cases q3 with
      | false =>
        clear e1 e2 e3
        refine goM ?_
        refine l_callG c1 ?_
        refine goM ?_
        refine l_callG c2 ?_
        refine goM ?_
        refine l_callG c3 ?_
        refine goM ?_
        exact end_2 (by first | exact .inl rfl | exact .inr rfl) ⟨rfl, hM.pre⟩
      | true =>
        obtain ⟨hm2, hloss, _⟩ := cfgMay_split e1
        obtain ⟨hs, _⟩ := lossMay_split hloss
        obtain ⟨a, b, ha, hb, ha1, ha3, hb1, hb3⟩ := shape_ab hs
        have c4 := refLoss_ H2 a b w rv k.ws c.rows hk2.ws hr2 (by rw [← ha, ← hb]; exact e3) (by rw [← ha, ← hb]; exact hloss)
        rw [← ha, ← hb] at c4
        have t1 : c.i.toNat = a := by omega
        have t2 : c.h.toNat = b := by omega
        rw [t1, t2]
        clear e1 e2 e3 hm2 hloss hs ha hb t1 t2
        refine goM ?_
        refine l_callG c1 ?_
        refine goM ?_
        refine l_callG c2 ?_
        refine goM ?_
        refine l_callG c3 ?_
        refine goM ?_
        refine l_callG c4 ?_
        refine goM ?_
        exact end_2 (by first | exact .inl rfl | exact .inr rfl) ⟨rfl, hM.pre⟩

theorem refFirst_bad (H : Heap) (c : Cfg) (rv : V) (id : Int) (hr : Rows H rv c.rows) (hc : c.Fit) (hb : firstOk c id = false) :
    Call Try.prog 17 [.agg (cfgC c rv), .int .i64 id] H (.tup [.agg zeroMem, .str (strOf []), .int .i64 2000]) H := by
  have l1 := hc.rows
  have l2 := hc.row
  refine call_pure fit mixed Try.func17 rfl rfl rfl (by kernel_rfl) rfl fun hM => ?_
  refine wq_seq (wq_line ?_)
  refine l_boxM T26 fun b1 H1 hM => ?_
  refine l_newM (cs := zeroMem) T33 rfl fun b2 H2 hM => ?_
  have c1 := refConfMay_ H2 c rv (hr.mono hM.pre) (by omega) (fun r h => by have := l2 r h; omega)
  have c2 := upTo12_ H2 id 0 (IntKind.i64.wrap (c.m - 1))
  unfold firstOk at hb
  obtain ⟨q, hq⟩ : ∃ q, cfgMay c = q := ⟨_, rfl⟩
  rw [hq] at c1 hb
  cases q with
  | false =>
    clear hb hq c2
    refine goM ?_
    refine l_callG c1 ?_
    refine goM ?_
    refine l_putM T33 fun H3 hM => ?_
    refine goM ?_
    exact end_3 (by first | exact .inl rfl | exact .inr rfl) ⟨rfl, hM.pre⟩
  | true =>
    rw [Bool.true_and] at hb
    rw [hb] at c2
    clear hb hq
    refine goM ?_
    refine l_callG c1 ?_
    refine goM ?_
    refine l_callG c2 ?_
    refine goM ?_
    refine l_putM T33 fun H3 hM => ?_
    refine goM ?_
    exact end_3 (by first | exact .inl rfl | exact .inr rfl) ⟨rfl, hM.pre⟩

theorem ref_First (H : Heap) (c : Cfg) (rv : V) (id : Int) (hr : Rows H rv c.rows) (hc : c.Fit) :
    ∃ w H', Call Try.prog 17 [.agg (cfgC c rv), .int .i64 id] H w H' ∧ ∃ a b, w = .tup [.agg (mC a b (firstKR c id) 0), .str (strOf (firstSR c id)), .int .i64 (firstER c id)] ∧ Mem H H' [.own 1 intC b (firstKR c id).vs, .own 1 intC a (firstKR c id).ws] := by
  unfold firstKR firstSR firstER
  cases hok : firstOk c id with
  | false => exact ⟨_, H, refFirst_bad H c rv id hr hc hok, .nils, .nils, rfl, ((Mem.start H).nil 1 intC).nil 1 intC⟩
  | true =>
    obtain ⟨h1, h2⟩ := firstOk_split hok
    exact refFirst_good H c rv id hr h1 h2
end Go.Proofs.Ytekifjeckbndiaa.VM

/- Layer 14: the document's GetCheck of a checkpoint's bytes. -/
namespace Go.Proofs.Ytekifjeckbndiaa.VM
open Go
set_option linter.unusedVariables false
set_option linter.unusedSimpArgs false
attribute [local irreducible] wq wqL wqD wqE wqO Th Bk EndR
set_option maxHeartbeats 8000000

theorem or_byte {a b : Int} (h0 : 0 ≤ a) (h : a < 2 ^ 40) (hb0 : 0 ≤ b) (hb : b < 256) : vbin T .or 3 (.int .i64 (IntKind.i64.wrap (a * 2 ^ (min 8 IntKind.i64.bits)))) (.int .i64 b) = some (.int .i64 (a * 256 + b)) := by
  obtain ⟨m, rfl⟩ : ∃ m : Nat, a = m := ⟨a.toNat, by omega⟩
  obtain ⟨n, rfl⟩ : ∃ n : Nat, b = n := ⟨b.toNat, by omega⟩
  have e8 : (2 : Int) ^ (min 8 IntKind.i64.bits) = 256 := by decide
  rw [e8, wrap_i64 (by omega) (by omega)]
  simp only [vbin, intBin, if_true]
  have e1 : (m : Int) * 256 = ((m * 256 : Nat) : Int) := by omega
  rw [e1, BitVec.ofInt_natCast, BitVec.ofInt_natCast, BitVec.toNat_or, BitVec.toNat_ofNat, BitVec.toNat_ofNat, Nat.mod_eq_of_lt (by show _ < 2 ^ 64; omega), Nat.mod_eq_of_lt (by show _ < 2 ^ 64; omega)]
  have e2 : m * 256 ||| n = m * 256 + n := by
    have := Nat.two_pow_add_eq_or_of_lt (i := 8) (b := n) (by omega) m
    rw [Nat.mul_comm m 256]
    exact this.symm
  rw [e2, wrap_i64 (by omega) (by omega)]
  congr 2
theorem numN_drop {bs : List Int} {k : Nat} {b : Int} (h : bs[k]? = some b) : numN (bs.drop k) = numN (bs.drop (k + 1)) * 256 + b := by
  obtain ⟨hk, rfl⟩ := List.getElem?_eq_some_iff.1 h
  rw [List.drop_eq_getElem_cons hk]; rfl
theorem numN_in : ∀ {bs : List Int}, okB bs → 0 ≤ numN bs ∧ numN bs < 256 ^ bs.length
  | [], _ => by simp [numN]
  | b :: bs, h => by
    have ih := numN_in (bs := bs) fun x hx => h x (List.mem_cons_of_mem _ hx)
    have hb := h b List.mem_cons_self
    simp only [numN, List.length_cons, Int.pow_succ]
    omega

theorem numOf_ (H : Heap) (bs : List Int) (ho : okB bs) (hl : bs.length ≤ 4) : Call Try.prog 65 [.str (strOf bs)] H (.int .i64 (numN bs)) H := by
  obtain ⟨n, hn⟩ : ∃ n, bs.length = n := ⟨_, rfl⟩
  have hlen := str_len bs
  rw [hn] at hlen
  refine call_pure fit mixed Try.func65 rfl rfl rfl (by kernel_rfl) rfl fun hM => ?_
  have hw0 : IntKind.i64.wrap ((n : Int) - 1) = (n : Int) - 1 := wrap_i64 (by omega) (by omega)
  refine goM ?_
  refine wq_loop (fun k ρ hp => ∃ (z : Int), k ≤ n ∧ hp = H ∧ Held (z = (k : Int) - 1) ∧ ρ 0 = .str (strOf bs) ∧ ρ 3 = .int .i64 (numN (bs.drop k)) ∧ ρ 4 = .int .i64 z) ⟨_, Nat.le_refl _, rfl, rfl, rfl, by rw [List.drop_of_length_le (by omega)]; rfl, rfl⟩ ?_
  clear hM hw0
  rintro k ρ hp ⟨z, hk, rfl, hz, g0, g3, g4⟩
  refine goM ?_
  refine cond_go (fun hb => ?_) (fun hb => ?_)
  · have h0 : 0 ≤ z := by simpa using hb
    clear hb
    replace hz : z = (k : Int) - 1 := hz
    obtain ⟨j, rfl⟩ : ∃ j, k = j + 1 := ⟨k - 1, by omega⟩
    have hzj : z = j := by omega
    obtain ⟨b, hbj⟩ : ∃ b, bs[j]? = some b := ⟨bs[j]'(by omega), by simp⟩
    have hb := ho b (List.mem_of_getElem? hbj)
    have hd := numN_drop hbj
    have hin := numN_in (bs := bs.drop (j + 1)) fun x hx => ho x (List.mem_of_mem_drop hx)
    have hp4 : (256 : Int) ^ (bs.drop (j + 1)).length ≤ 16777216 := by
      have : (bs.drop (j + 1)).length ≤ 3 := by rw [List.length_drop]; omega
      have h3 : (256 : Nat) ^ (bs.drop (j + 1)).length ≤ 256 ^ 3 := Nat.pow_le_pow_right (by decide) this
      have h4 : (256 : Int) ^ (bs.drop (j + 1)).length = ((256 ^ (bs.drop (j + 1)).length : Nat) : Int) := by rw [Int.natCast_pow]; rfl
      rw [h4]; omega
    have hor := or_byte (a := numN (bs.drop (j + 1))) (b := b) hin.1 (by omega) hb.1 hb.2
    rw [← hd] at hor
    have hwb : IntKind.i64.wrap b = b := wrap_i64 (by omega) (by omega)
    have hwz : IntKind.i64.wrap (z - 1) = z - 1 := wrap_i64 (by omega) (by omega)
    obtain ⟨a, ha⟩ : ∃ a, numN (bs.drop (j + 1)) = a := ⟨_, rfl⟩
    rw [ha] at g3 hor
    obtain ⟨s, hs⟩ : ∃ s, IntKind.i64.wrap (a * 2 ^ (min 8 IntKind.i64.bits)) = s := ⟨_, rfl⟩
    have hsh : vbin T .shl 3 (.int .i64 a) (.int .u64 8) = some (.int .i64 s) := by
      rw [← hs]
      simp only [vbin, shiftBin]
      rw [if_neg (by decide)]; rfl
    rw [hs] at hor
    have hz1 : Held (z - 1 = (j : Int) - 1) := by show z - 1 = (j : Int) - 1; omega
    clear hd hin hp4 ha hs h0 hz
    replace hzj : Held (z = (j : Int)) := hzj
    repeat (first | refine l_step (s_strIdx j eLk eLk hzj ho hbj) ?_ | (refine l_pl ?_; refine l_step (s_bin eLk eLk hsh) ?_) | (refine l_pl ?_; refine l_step (s_bin eLk eLk hor) ?_) | (refine l_pl ?_; refine l_goM ?_) | (refine d_pl ?_; refine d_goM ?_) | (refine l_gd ?_; first | refine l_onG ?_ | refine l_offG ?_ | refine l_offU ?_) | (refine d_gd ?_; first | refine d_onG ?_ | refine d_offG ?_ | refine d_offU ?_) | (refine cond_pl ?_; first | refine cond_yes ?_ | refine cond_no ?_) | refine wq_seq ?_ | refine wq_line ?_ | refine wq_draw (by decide +kernel) ?_ | refine wq_block ?_ | refine l_nil ?_ | refine d_nil ?_ | refine wq_skip ?_ | refine wq_ret ?_ | refine wq_exit ?_ | refine th_normal ?_ | refine th_ret ?_ | refine th_exit ?_ | refine bk_normal ?_ | refine bk_ret ?_ | refine bk_exit ?_ | refine bk_other rfl ?_)
    exact ⟨j, by omega, z - 1, by omega, rfl, hz1, by simp [put_app, put_none, *]⟩
  · have h0 : ¬ 0 ≤ z := by simpa using hb
    replace hz : z = (k : Int) - 1 := hz
    obtain rfl : k = 0 := by omega
    clear hb h0
    rw [List.drop_zero] at g3
    refine goM ?_
    exact end_1 (by first | exact .inl rfl | exact .inr rfl) ⟨rfl, List.prefix_refl _⟩

theorem refGet_good (H : Heap) (ws vs : List Int) (r m t : Int) (hm : chkMay ws vs r m t = true) :
    ∃ w H', Call Try.prog 28 [.str (strOf (putL ws vs r m t))] H w H' ∧ ∃ a b, w = .tup [.agg (chkC a b r m t), .int .i64 0] ∧ Mem H H' [.own 1 intC b vs, .own 1 intC a ws] := by
  obtain ⟨hvw, hvv, hlv, hlw1, hhm, ht0, ht1⟩ := chkMay_split hm
  have hlw := vecMay_len hvw
  simp only [hyperMay, Bool.and_eq_true, within_iff] at hhm
  obtain ⟨n, hn⟩ : ∃ n, ws.length = n := ⟨_, rfl⟩
  obtain ⟨S, hS⟩ : ∃ S, putL ws vs r m t = S := ⟨_, rfl⟩
  have hok : okB S := hS ▸ okB_put ws vs r m t
  have hSl : S.length = 10 + 8 * n := by rw [← hS, ← hn]; exact putL_len hlv
  have hS0 : S[0]? = some (n : Int) := by
    have := putL_first ws vs r m t
    rw [hS, hn, lowK_plain (by omega) (by omega)] at this
    exact this
  have hS9 : S[9 + 8 * n]? = some t := by
    have := putL_last (ws := ws) (vs := vs) (r := r) (m := m) (t := t) hlv
    rw [hS, hn, lowK_plain (by omega) (by omega)] at this
    exact this
  have hSw : ∀ (k : Nat) x, ws[k]? = some x → (S.drop (1 + 4 * k)).take 4 = lowL x 4 := fun k x hx => by
    rw [← hS]
    exact putL_at (by rw [List.getElem?_append_left (List.getElem?_eq_some_iff.1 hx).1]; exact hx)
  have hSv : ∀ (k : Nat) x, vs[k]? = some x → (S.drop (1 + 4 * n + 4 * k)).take 4 = lowL x 4 := fun k x hx => by
    rw [← hS, show 1 + 4 * n + 4 * k = 1 + 4 * (n + k) by omega]
    refine putL_at ?_
    rw [List.getElem?_append_right (by omega), hn, Nat.add_sub_cancel_left, List.getElem?_append_left (List.getElem?_eq_some_iff.1 hx).1]
    exact hx
  have hSr : (S.drop (1 + 8 * n)).take 4 = lowL r 4 := by
    rw [← hS, show 1 + 8 * n = 1 + 4 * (n + n) by omega]
    refine putL_at ?_
    rw [List.getElem?_append_right (by omega), List.getElem?_append_right (by omega), show n + n - ws.length - vs.length = 0 by omega]; rfl
  have hSm : (S.drop (5 + 8 * n)).take 4 = lowL m 4 := by
    rw [← hS, show 5 + 8 * n = 1 + 4 * (n + n + 1) by omega]
    refine putL_at ?_
    rw [List.getElem?_append_right (by omega), List.getElem?_append_right (by omega), show n + n + 1 - ws.length - vs.length = 1 by omega]; rfl
  have hlen := str_len S
  rw [hSl] at hlen
  have hsame := str_same (strOf S)
  have w8 : IntKind.i64.wrap (8 * (n : Int)) = 8 * (n : Int) := wrap_i64 (by omega) (by omega)
  have w10 : IntKind.i64.wrap (10 + 8 * (n : Int)) = ((10 + 8 * n : Nat) : Int) := by rw [wrap_i64 (by omega) (by omega)]; omega
  have wn : IntKind.i64.wrap (n : Int) = n := wrap_nat (by omega)
  have dlt : decide (((10 + 8 * n : Nat) : Int) < 1) = false := decide_eq_false (by omega)
  refine call_mem fit mixed Try.func28 rfl rfl rfl (by kernel_rfl) fun hM => ?_
  refine wq_seq (wq_line ?_)
  refine l_newM (cs := zeroChk) T31 rfl fun b1 H1 hM => ?_
  rw [hS]
  repeat (first | refine l_step (s_strIdx 0 eLk eLk rfl hok hS0) ?_ | refine l_newM (cs := zeroChk) T31 rfl (fun b2 H2 hM => ?_) | (refine l_pl ?_; refine l_goM ?_) | (refine d_pl ?_; refine d_goM ?_) | (refine l_gd ?_; first | refine l_onG ?_ | refine l_offG ?_ | refine l_offU ?_) | (refine d_gd ?_; first | refine d_onG ?_ | refine d_offG ?_ | refine d_offU ?_) | (refine cond_pl ?_; first | refine cond_yes ?_ | refine cond_no ?_) | refine wq_seq ?_ | refine wq_line ?_ | refine wq_draw (by decide +kernel) ?_ | refine wq_block ?_ | refine l_nil ?_ | refine d_nil ?_ | refine wq_skip ?_ | refine wq_ret ?_ | refine wq_exit ?_ | refine th_normal ?_ | refine th_ret ?_ | refine th_exit ?_ | refine bk_normal ?_ | refine bk_ret ?_ | refine bk_exit ?_ | refine bk_other rfl ?_)
  replace hM := (hM.nil 1 intC).nil 1 intC
  refine wq_loop (fun c ρ hp => ∃ (k : Nat) (a b : V), k ≤ n ∧ c = n - k ∧ Mem H hp [.own 1 intC b (vs.take k), .own 1 intC a (ws.take k), .box b2 [a, b, .int .i64 0, .int .i64 0, .int .i64 0], .box b1 zeroChk] ∧ ρ 0 = .str (strOf S) ∧ ρ 2 = .ptr b1 0 ∧ ρ 4 = .int .i64 (n : Int) ∧ ρ 5 = .ptr b2 0 ∧ ρ 6 = .int .i64 (k : Int)) ⟨0, .nils, .nils, Nat.zero_le _, rfl, hM, rfl, rfl, rfl, rfl, rfl⟩ ?_
  clear hM dlt
  rintro _ ρ hp ⟨k, a, b, hk, rfl, hM, g0, g2, g4, g5, g6⟩
  refine goM ?_
  refine cond_go (fun hb => ?_) (fun hb => ?_)
  · have hk' : k < n := by simpa using hb
    clear hb
    obtain ⟨x, hx⟩ : ∃ x, ws[k]? = some x := ⟨ws[k]'(by omega), by simp⟩
    obtain ⟨y, hy⟩ : ∃ x, vs[k]? = some x := ⟨vs[k]'(by omega), by simp⟩
    have e1 := hSw k x hx
    have e2 := hSv k y hy
    have mx := vecMay_at hvw hx
    have my := vecMay_at hvv hy
    have q1 : IntKind.i64.wrap (4 * (k : Int)) = ((4 * k : Nat) : Int) := by rw [wrap_i64 (by omega) (by omega)]; omega
    have q2 : IntKind.i64.wrap (1 + ((4 * k : Nat) : Int)) = ((1 + 4 * k : Nat) : Int) := by rw [wrap_i64 (by omega) (by omega)]; omega
    have q3 : IntKind.i64.wrap (5 + ((4 * k : Nat) : Int)) = ((5 + 4 * k : Nat) : Int) := by rw [wrap_i64 (by omega) (by omega)]; omega
    have q4 : IntKind.i64.wrap (4 * (n : Int)) = ((4 * n : Nat) : Int) := by rw [wrap_i64 (by omega) (by omega)]; omega
    have q5 : IntKind.i64.wrap (((4 * n : Nat) : Int) + 1) = ((4 * n + 1 : Nat) : Int) := by rw [wrap_i64 (by omega) (by omega)]; omega
    have q5' : IntKind.i64.wrap (1 + ((4 * n : Nat) : Int)) = ((1 + 4 * n : Nat) : Int) := by rw [wrap_i64 (by omega) (by omega)]; omega
    have q6 : IntKind.i64.wrap (5 + ((4 * n : Nat) : Int)) = ((5 + 4 * n : Nat) : Int) := by rw [wrap_i64 (by omega) (by omega)]; omega
    have q7 : IntKind.i64.wrap (((1 + 4 * n : Nat) : Int) + ((4 * k : Nat) : Int)) = ((1 + 4 * n + 4 * k : Nat) : Int) := by rw [wrap_i64 (by omega) (by omega)]; omega
    have q8 : IntKind.i64.wrap (((5 + 4 * n : Nat) : Int) + ((4 * k : Nat) : Int)) = ((5 + 4 * n + 4 * k : Nat) : Int) := by rw [wrap_i64 (by omega) (by omega)]; omega
    have n1 := num_signed mx
    have n2 := num_signed my
    have hs1 : ws.take (k + 1) = ws.take k ++ [x] := by rw [List.take_add_one, hx]; rfl
    have hs2 : vs.take (k + 1) = vs.take k ++ [y] := by rw [List.take_add_one, hy]; rfl
    have hwk := wrap_succ (n := k) (by omega)
    have c1 := fun hp => numOf_ hp (lowL x 4) (okB_low x 4) (by rw [lowL_len]; omega)
    have c2 := fun hp => numOf_ hp (lowL y 4) (okB_low y 4) (by rw [lowL_len]; omega)
    have d1 : (S.drop (1 + 4 * k)).take (5 + 4 * k - (1 + 4 * k)) = lowL x 4 := by rw [show 5 + 4 * k - (1 + 4 * k) = 4 by omega]; exact e1
    have d2 : (S.drop (1 + 4 * n + 4 * k)).take (5 + 4 * n + 4 * k - (1 + 4 * n + 4 * k)) = lowL y 4 := by rw [show 5 + 4 * n + 4 * k - (1 + 4 * n + 4 * k) = 4 by omega]; exact e2
    clear hx hy mx my e1 e2 hSw hSv hSr hSm hS0 hS9
    have sa := (hM.sl (.there .here)).cells
    have sb := (hM.sl .here).cells
    refine goM ?_
    refine d_step (s_strCut (1 + 4 * k) (5 + 4 * k) eLk eLk eLk (bound_at _ rfl (by omega)) (bound_at _ rfl (by rw [hSl]; omega))) ?_
    rw [d1]
    refine goM ?_
    refine d_call0G (c1 _) ?_
    refine goM ?_
    refine d_sliceM intC [x] [.int .i64 x] T27 rfl T3 rfl (Cells.one (sz := 1) rfl rfl) (by decide) fun e1 H2 hM => ?_
    refine goM ?_
    refine d_appM (hM.sl .here) (xs := ws.take k) (hh := .there (.there .here)) (hb := by rw [List.length_take]; simp only [List.length_cons, List.length_nil]; omega) fun a' H3 hM => ?_
    have sa' := (hM.sl (.there (.there .here))).cells
    rw [← hs1] at hM
    refine goM ?_
    refine d_putM T27 fun H4 hM => ?_
    refine goM ?_
    refine d_step (s_strCut (1 + 4 * n + 4 * k) (5 + 4 * n + 4 * k) eLk eLk eLk (bound_at _ rfl (by omega)) (bound_at _ rfl (by rw [hSl]; omega))) ?_
    rw [d2]
    refine goM ?_
    refine d_call0G (c2 _) ?_
    refine goM ?_
    refine d_sliceM intC [y] [.int .i64 y] T27 rfl T3 rfl (Cells.one (sz := 1) rfl rfl) (by decide) fun e2 H5 hM => ?_
    refine goM ?_
    refine d_appM (hM.sl .here) (xs := vs.take k) (hh := .there (.there .here)) (hb := by rw [List.length_take]; simp only [List.length_cons, List.length_nil]; omega) fun b' H6 hM => ?_
    have sb' := (hM.sl (.there (.there .here))).cells
    rw [← hs2] at hM
    refine goM ?_
    refine d_putM T27 fun H7 hM => ?_
    refine goM ?_
    exact ⟨n - (k + 1), by omega, k + 1, a', b', hk', rfl, hM.subG, by simp [put_app, put_none, *]⟩
  · have hk' : k = n := by have : ¬ k < n := by simpa using hb
                           omega
    subst hk'
    clear hb
    rw [List.take_of_length_le (by omega), List.take_of_length_le (by omega)] at hM
    have q1 : IntKind.i64.wrap (1 + 8 * (k : Int)) = ((1 + 8 * k : Nat) : Int) := by rw [wrap_i64 (by omega) (by omega)]; omega
    have q2 : IntKind.i64.wrap (((1 + 8 * k : Nat) : Int) + 4) = ((5 + 8 * k : Nat) : Int) := by rw [wrap_i64 (by omega) (by omega)]; omega
    have q3 : IntKind.i64.wrap (((1 + 8 * k : Nat) : Int) + 8) = ((9 + 8 * k : Nat) : Int) := by rw [wrap_i64 (by omega) (by omega)]; omega
    have wt : IntKind.i64.wrap t = t := wrap_i64 (by omega) (by omega)
    have d1 : (S.drop (1 + 8 * k)).take (5 + 8 * k - (1 + 8 * k)) = lowL r 4 := by rw [show 5 + 8 * k - (1 + 8 * k) = 4 by omega]; exact hSr
    have d2 : (S.drop (5 + 8 * k)).take (9 + 8 * k - (5 + 8 * k)) = lowL m 4 := by rw [show 9 + 8 * k - (5 + 8 * k) = 4 by omega]; exact hSm
    have c1 := fun hp => numOf_ hp (lowL r 4) (okB_low r 4) (by rw [lowL_len]; omega)
    have c2 := fun hp => numOf_ hp (lowL m 4) (okB_low m 4) (by rw [lowL_len]; omega)
    rw [num_plain (by omega) (by omega)] at c1 c2
    have sa := (hM.sl (.there .here)).cells
    have sb := (hM.sl .here).cells
    have c3 : ∀ hp, Sl 1 intC hp a ws → Sl 1 intC hp b vs → Call Try.prog 56 [.agg (chkC a b r m t)] hp (.tup [.str (strOf S), .int .i64 0]) hp := fun hp ha hb => by
      rw [← hS]; exact refPut_good hp a b ws vs r m t ha hb hm
    clear hSw hSv hSr hSm hS0 hhm hm hvw hvv
    refine goM ?_
    refine d_step (s_strCut (1 + 8 * k) (5 + 8 * k) eLk eLk eLk (bound_at _ rfl (by omega)) (bound_at _ rfl (by rw [hSl]; omega))) ?_
    rw [d1]
    refine goM ?_
    refine d_call0G (c1 _) ?_
    refine goM ?_
    refine d_step (s_strCut (5 + 8 * k) (9 + 8 * k) eLk eLk eLk (bound_at _ rfl (by omega)) (bound_at _ rfl (by rw [hSl]; omega))) ?_
    rw [d2]
    refine goM ?_
    refine d_call0G (c2 _) ?_
    refine goM ?_
    refine d_putM T29 fun H2 hM => ?_
    repeat (first | refine l_step (s_strIdx (9 + 8 * k) eLk eLk rfl hok hS9) ?_ | (refine l_pl ?_; refine l_goM ?_) | (refine d_pl ?_; refine d_goM ?_) | (refine l_gd ?_; first | refine l_onG ?_ | refine l_offG ?_ | refine l_offU ?_) | (refine d_gd ?_; first | refine d_onG ?_ | refine d_offG ?_ | refine d_offU ?_) | (refine cond_pl ?_; first | refine cond_yes ?_ | refine cond_no ?_) | refine wq_seq ?_ | refine wq_line ?_ | refine wq_draw (by decide +kernel) ?_ | refine wq_block ?_ | refine l_nil ?_ | refine d_nil ?_ | refine wq_skip ?_ | refine wq_ret ?_ | refine wq_exit ?_ | refine th_normal ?_ | refine th_ret ?_ | refine th_exit ?_ | refine bk_normal ?_ | refine bk_ret ?_ | refine bk_exit ?_ | refine bk_other rfl ?_)
    refine l_putM T3 fun H3 hM => ?_
    refine goM ?_
    refine l_callG (c3 _ (hM.slG) (hM.slG)) ?_
    repeat (first | (refine l_gd ?_; refine l_onG ?_; refine l_step (s_bin eLk eLk hsame) ?_) | (refine l_pl ?_; refine l_goM ?_) | (refine d_pl ?_; refine d_goM ?_) | (refine l_gd ?_; first | refine l_onG ?_ | refine l_offG ?_ | refine l_offU ?_) | (refine d_gd ?_; first | refine d_onG ?_ | refine d_offG ?_ | refine d_offU ?_) | (refine cond_pl ?_; first | refine cond_yes ?_ | refine cond_no ?_) | refine wq_seq ?_ | refine wq_line ?_ | refine wq_draw (by decide +kernel) ?_ | refine wq_block ?_ | refine l_nil ?_ | refine d_nil ?_ | refine wq_skip ?_ | refine wq_ret ?_ | refine wq_exit ?_ | refine th_normal ?_ | refine th_ret ?_ | refine th_exit ?_ | refine bk_normal ?_ | refine bk_ret ?_ | refine bk_exit ?_ | refine bk_other rfl ?_)
    refine l_putM T31 fun H4 hM => ?_
    refine goM ?_
    exact end_2 (by first | exact .inl rfl | exact .inr rfl) ⟨a, b, rfl, hM.subG⟩
end Go.Proofs.Ytekifjeckbndiaa.VM
