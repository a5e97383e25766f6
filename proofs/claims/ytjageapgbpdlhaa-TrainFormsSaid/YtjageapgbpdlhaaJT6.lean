/- Joined texts: HelpA, RowC, HelpB, LowA, LowB, InitA, VmZC, MemA, InitB, TrainE, HelpC, TrainF. -/
import Derived.Test.YtjageapgbpdlhaaJT5
/- The statements' helpers: checkpoints that are copied, compared, written over. -/
namespace Go.Proofs.Ytjageapgbpdlhaa.VM
open Go
set_option linter.unusedVariables false
set_option linter.unusedSimpArgs false
attribute [local irreducible] wq wqL wqD wqE wqO Th Bk EndR
set_option maxHeartbeats 8000000

def eqHyper (r m r' m' : Int) : Bool := decide (r = r') && decide (m = m')
theorem eq_hyper (r m r' m' : Int) : vbin T .eql 54 (.agg [.int .i64 r, .int .i64 m]) (.agg [.int .i64 r', .int .i64 m']) = some (.bool (eqHyper r m r' m')) := by
  have h : vbin T .eql 54 (.agg [.int .i64 r, .int .i64 m]) (.agg [.int .i64 r', .int .i64 m']) = some (.bool (r == r' && (m == m' && true))) := by
    simp only [vbin, T54]; rfl
  rw [h]
  unfold eqHyper
  congr 2
  apply Bool.eq_iff_iff.2; simp
def eqChk (ws vs : List Int) (r m t : Int) (ws' vs' : List Int) (r' m' t' : Int) : Bool := decide (ws = ws') && (decide (vs = vs') && (eqHyper r m r' m' && decide (t = t')))

theorem sameCheck_ (H : Heap) (w v w' v' : V) (ws vs ws' vs' : List Int) (r m t r' m' t' : Int) (hw : Sl 1 intC H w ws) (hv : Sl 1 intC H v vs) (hw' : Sl 1 intC H w' ws') (hv' : Sl 1 intC H v' vs') (lw : ws.length ≤ 2 ^ 47) (lv : vs.length ≤ 2 ^ 47) :
    Call Try.prog 32 [.agg (chkC w v r m t), .agg (chkC w' v' r' m' t')] H (.bool (eqChk ws vs r m t ws' vs' r' m' t')) H := by
  refine call_plain fit mixed Try.func32 rfl rfl rfl (by kernel_rfl) rfl ?_
  obtain ⟨H1, hH1⟩ : ∃ H1, H ++ [.row (chkC w v r m t) true] = H1 := ⟨_, rfl⟩
  obtain ⟨H2, hH2⟩ : ∃ H2, H1 ++ [.row (chkC w' v' r' m' t') true] = H2 := ⟨_, rfl⟩
  have p1 : H <+: H1 := by rw [← hH1]; exact List.prefix_append _ _
  have p2 : H1 <+: H2 := by rw [← hH2]; exact List.prefix_append _ _
  have pend := p1.trans p2
  have g1 : H2[H.length]? = some (.row (chkC w v r m t) true) := pre_get p2 (by rw [← hH1]; simp)
  have g2 : H2[H1.length]? = some (.row (chkC w' v' r' m' t') true) := by rw [← hH2]; simp
  have a0 := ld_cell (q := 0) T24 rfl g1 rfl
  have a1 := ld_cell (q := 1) T24 rfl g1 rfl
  have a4 := ld_cell (q := 4) T3 rfl g1 rfl
  have b0 := ld_cell (q := 0) T24 rfl g2 rfl
  have b1 := ld_cell (q := 1) T24 rfl g2 rfl
  have b4 := ld_cell (q := 4) T3 rfl g2 rfl
  have a2 : loadV T 54 H2 H.length 2 = some (.agg [.int .i64 r, .int .i64 m]) := by
    refine loadV_agg T54 rfl ?_
    unfold Heap.loadN
    rw [g1]; rfl
  have b2 : loadV T 54 H2 H1.length 2 = some (.agg [.int .i64 r', .int .i64 m']) := by
    refine loadV_agg T54 rfl ?_
    unfold Heap.loadN
    rw [g2]; rfl
  have hq := eq_hyper r m r' m'
  have c1 := sameInts_ H2 w w' ws ws' (hw.mono pend) (hw'.mono pend) lw
  have c2 := sameInts_ H2 v v' vs vs' (hv.mono pend) (hv'.mono pend) lv
  unfold eqChk
  obtain ⟨r1, e1⟩ : ∃ q, decide (ws = ws') = q := ⟨_, rfl⟩
  obtain ⟨r2, e2⟩ : ∃ q, decide (vs = vs') = q := ⟨_, rfl⟩
  obtain ⟨r3, e3⟩ : ∃ q, eqHyper r m r' m' = q := ⟨_, rfl⟩
  rw [e1] at c1 ⊢
  rw [e2] at c2 ⊢
  rw [e3] at hq ⊢
  have hd : (t == t') = decide (t = t') := by apply Bool.eq_iff_iff.2; simp
  clear e1 e2 e3 hw hv hw' hv' g1 g2 p1 p2
  refine goW ?_
  refine l_heap (h' := H2) (by rw [← hH2, ← hH1]) ?_
  rw [hH1]
  refine goW ?_
  refine l_callG c1 ?_
  cases r1
  · refine goW ?_
    refine end_ret (by simp only [resRf, resRs, resR]; first | done | rfl) ⟨?_, pend⟩
    simp [put_app, put_none]
  refine goW ?_
  refine l_callG c2 ?_
  cases r2
  · refine goW ?_
    refine end_ret (by simp only [resRf, resRs, resR]; first | done | rfl) ⟨?_, pend⟩
    simp [put_app, put_none]
  refine l_go ?_
  repeat (first | refine l_onG ?_ | refine l_offG ?_ | refine l_go ?_ (by first | exact s_field eLk (by rfl) | exact s_load eLk eLkV | exact s_move eLk | exact s_assign eLk | exact s_pick1 eLkB eLk eLk))
  refine l_step (s_bin eLk eLk hq) ?_
  cases r3
  · refine goW ?_
    refine end_ret (by simp only [resRf, resRs, resR]; first | done | rfl) ⟨?_, pend⟩
    simp [put_app, put_none]
  refine goW ?_
  refine end_ret (by simp only [resRf, resRs, resR]; first | done | rfl) ⟨?_, pend⟩
  simp [put_app, put_none, hd]
end Go.Proofs.Ytjageapgbpdlhaa.VM

/- The statements' helpers: rows of data that are copied: all of the copy is new. -/
namespace Go.Proofs.Ytjageapgbpdlhaa.VM
open Go
set_option linter.unusedVariables false
set_option linter.unusedSimpArgs false
attribute [local irreducible] wq wqL wqD wqE wqO Th Bk EndR
set_option maxHeartbeats 8000000

/-- rows of data that lie in blocks of their own behind B -/
def RowsM (B H : Heap) (v : V) (rs : List (List Int × Int)) : Prop := ∃ rv, Mine 2 rowC B H v rv ∧ RowsAt H rv rs ∧ ∀ p ∈ rv, ∀ c, p.1.blk = some c → B.length ≤ c
theorem RowsM.rows {B H : Heap} {v : V} {rs : List (List Int × Int)} (h : RowsM B H v rs) : Rows H v rs := by
  obtain ⟨rv, h1, h2, _⟩ := h
  exact ⟨rv, h1.sl, h2⟩
theorem RowsM.pre {B H : Heap} {v : V} {rs : List (List Int × Int)} (h : RowsM B H v rs) : B <+: H := by
  obtain ⟨rv, h1, _⟩ := h
  exact h1.1
/-- one block that lay before is written -/
theorem RowsM.set {B H : Heap} {v : V} {rs : List (List Int × Int)} (h : RowsM B H v rs) {c : Nat} {k : Blk} (hc : c < B.length) : Rows (H.set c k) v rs := by
  obtain ⟨rv, h1, h2, h3⟩ := h
  refine ⟨rv, h1.sl.fr fun b hb e => ?_, h2.1, fun j p r hj hr => ⟨(h2.2 j p r hj hr).1.fr fun b hb e => ?_, (h2.2 j p r hj hr).2⟩⟩
  · have := (h1.blk e).1
    rw [List.getElem?_set_ne (by omega)]
  · have := h3 p (List.mem_iff_getElem?.2 ⟨j, hj⟩) b e
    rw [List.getElem?_set_ne (by omega)]

theorem copyRowsM_ (H : Heap) (v : V) (rs : List (List Int × Int)) (hv : Rows H v rs) (hl : rs.length < 2 ^ 42) (hx : ∀ r ∈ rs, r.1.length * 8 ≤ 2 ^ 47) : ∃ u H', Call Try.prog 14 [v] H u H' ∧ RowsM H H' u rs := by
  suffices h : ∃ u H', (RowsM H H' u rs) ∧ Call Try.prog 14 [v] H u H' by
    obtain ⟨u, H', h1, h2⟩ := h
    exact ⟨u, H', h2, h1⟩
  refine call_wq fit mixed Try.func14 rfl rfl rfl (by kernel_rfl) ?_
  obtain ⟨rv, hrv, hrl, hrr⟩ := hv
  obtain ⟨n, hn⟩ : ∃ n, rv.length = n := ⟨_, rfl⟩
  have hlen := hrv.len T28 rfl
  rw [hn] at hlen hrl
  replace hrl := hrl.symm
  refine goW ?_
  refine wq_loop (fun c ρ hp => ∃ k u out, k ≤ n ∧ c = n - k ∧ Mine 2 rowC H hp u out ∧ out.length = k ∧ (∀ (j : Nat) p r, out[j]? = some p → rs[j]? = some r → RowAt hp p r ∧ Apart u p.1 ∧ ∀ c, p.1.blk = some c → H.length ≤ c) ∧ ρ 0 = v ∧ ρ 3 = u ∧ ρ 4 = .int .i64 (k : Nat)) ⟨0, .nils, [], Nat.zero_le _, rfl, Mine.nil (List.prefix_refl _), rfl, by simp, rfl, rfl, rfl⟩ ?_
  rintro _ ρ hp ⟨k, u, out, hk, rfl, hm, hol, hout, h0, h3, h4⟩
  refine goW ?_
  refine cond_go (fun hb => ?_) (fun hb => ?_)
  · have hk' : k < n := by simpa using hb
    clear hb
    obtain ⟨⟨px, y⟩, hpk⟩ : ∃ p, rv[k]? = some p := ⟨rv[k]'(by omega), by simp⟩
    obtain ⟨⟨xs, y'⟩, hrk⟩ : ∃ r, rs[k]? = some r := ⟨rs[k]'(by omega), by simp⟩
    obtain ⟨hxs, hy⟩ := hrr k _ _ hpk hrk
    obtain rfl : y = y' := hy
    have hxl := hx _ (List.mem_iff_getElem?.2 ⟨k, hrk⟩)
    obtain ⟨b, o, _, hi, rfl, _, hlo, _⟩ := (hrv.mono hm.1).get T28 rfl T26 rfl hpk
    have ho : loadV T 26 hp b o = some (.agg [px, .int .i64 y]) := loadV_agg T26 rfl hlo
    -- the row's own place
    obtain ⟨hp1, hhp1⟩ : ∃ hp1, hp ++ [.row [px, .int .i64 y] true] = hp1 := ⟨_, rfl⟩
    have q1 : hp <+: hp1 := by rw [← hhp1]; exact List.prefix_append _ _
    have hx1 : Sl 1 intC hp1 px xs := hxs.mono (hm.1.trans q1)
    obtain ⟨news, x', hp2, n1, a1, hm2, b', hb', hbl⟩ := int_copy hp1 px xs hx1 hxl
    have l1 : loadV T 24 (hp1 ++ [.row [] true]) hp.length 0 = some px := loadV_one T24 rfl (loadN_pre (List.prefix_append _ _) (by rw [← hhp1, loadN_app0]; rfl))
    have hg1 : hp1[hp.length]? = some (.row [px, .int .i64 y] true) := by rw [← hhp1]; simp
    have hg2 : hp2[hp.length]? = some (.row [px, .int .i64 y] true) := pre_get hm2.1 hg1
    obtain ⟨hc1, hc2⟩ := hm2.sl.cells
    have hst := cell_store (off := 0) T24 rfl hg2 (by simp) hc1 hc2
    obtain ⟨hp3, hhp3⟩ : ∃ hp3, hp2.set hp.length (.row ([px, .int .i64 y].set 0 x') true) = hp3 := ⟨_, rfl⟩
    rw [hhp3] at hst
    have q3 : hp <+: hp3 := by rw [← hhp3]; exact pre_set (q1.trans hm2.1) (Nat.le_refl _)
    have hlt : hp.length < hp2.length := (List.getElem?_eq_some_iff.1 hg2).1
    have hg3 : hp3[hp.length]? = some (.row [x', .int .i64 y] true) := by rw [← hhp3, List.getElem?_set_self hlt]; rfl
    have hll : hp1.length = hp.length + 1 := by rw [← hhp1]; simp
    have hl3 : hp3.length = hp2.length := by rw [← hhp3]; simp
    have hx3 : Sl 1 intC hp3 x' xs := hm2.sl.fr fun c hc hcb => by
      rw [hb'] at hcb
      cases hcb
      rw [← hhp3, List.getElem?_set_ne (by omega)]
    have l3 : loadV T 26 hp3 hp.length 0 = some (.agg [x', .int .i64 y]) := by
      refine loadV_agg T26 rfl ?_
      unfold Heap.loadN
      rw [hg3]; rfl
    obtain ⟨u', hp4, n2, a2, hm4, kp, mv⟩ := row_append (hm.pre q3) x' y (by omega)
    have hb2 : b' < hp2.length := hm2.sl.lt hb'
    have q4 := List.prefix_append hp3 [Blk.row [x', .int .i64 y] true]
    have hnew : RowAt hp4 (x', y) (xs, y) ∧ Apart u' x' ∧ ∀ c, x'.blk = some c → H.length ≤ c := by
      have hl0 := hm.1.length_le
      have hap : Apart u x' := fun c1 c2 e1 e2 => by
        have := (hm.blk e1).2
        rw [hb'] at e2; cases e2; omega
      exact ⟨⟨kp.sl (hx3.mono q4) hap, rfl⟩, mv.apart (hx3.mono q4) hap, fun c hc => by rw [hb'] at hc; cases hc; omega⟩
    have hall : ∀ (j : Nat) p r, (out ++ [(x', y)])[j]? = some p → rs[j]? = some r → RowAt hp4 p r ∧ Apart u' p.1 ∧ ∀ c, p.1.blk = some c → H.length ≤ c := fun j p r hj hr => by
      by_cases hjk : j < k
      · rw [List.getElem?_append_left (by omega)] at hj
        obtain ⟨r1, r2, r4⟩ := hout j p r hj hr
        have r3 := r1.mono (q3.trans q4)
        exact ⟨⟨kp.sl r3.1 r2, r3.2⟩, mv.apart r3.1 r2, r4⟩
      · rw [List.getElem?_append_right (by omega)] at hj
        have hjj : j = k := by
          have := (List.getElem?_eq_some_iff.1 hj).1
          simp at this; omega
        subst hjj
        rw [hrk] at hr
        cases hr
        simp [hol] at hj
        subst hj
        exact hnew
    have hw := wrap_succ (n := k) (by omega)
    clear hnew hb2 hx3 hl3 hll hg3 hlt q3 q4 hg1 hg2 hhp3 hx1 q1 hlo hpk hrk hxs hxl hm kp mv hout
    refine goB ?_
    refine l_heap (h' := hp1) hhp1 ?_
    refine goW ?_
    refine l_appendG n1 a1 ?_
    refine l_go ?_
    refine l_step (s_store eLk eLk hst) ?_
    refine goW ?_
    refine l_appendG n2 a2 ?_
    refine goW ?_
    refine ⟨n - (k + 1), by omega, k + 1, u', _, hk', rfl, hm4, by simp [hol], hall, ?_⟩
    simp [put_app, put_none, *]
  · have hk' : k = n := by have : ¬ k < n := by simpa using hb
                           omega
    subst hk'
    clear hb
    have hp' := hm.1
    have hfin : RowsM H hp u rs := ⟨out, hm, ⟨by omega, fun j p r a b => (hout j p r a b).1⟩, fun p hp c hc => by
      obtain ⟨j, hj⟩ := List.mem_iff_getElem?.1 hp
      exact (hout j p _ hj (List.getElem?_eq_getElem (by have := (List.getElem?_eq_some_iff.1 hj).1; omega))).2.2 c hc⟩
    clear hout hm
    refine goW ?_
    refine end_ret (by simp only [resRf, resRs, resR]; first | done | rfl) ?_
    simp only [put_app, put_none]
    simp only [Nat.reduceEqDiff, reduceIte, Option.some.injEq, reduceCtorEq, h3]
    exact hfin
end Go.Proofs.Ytjageapgbpdlhaa.VM

/- The statements' helpers: checkpoints and configs that are copied, compared, written over. -/
namespace Go.Proofs.Ytjageapgbpdlhaa.VM
open Go
set_option linter.unusedVariables false
set_option linter.unusedSimpArgs false
attribute [local irreducible] wq wqL wqD wqE wqO Th Bk EndR
set_option maxHeartbeats 8000000

theorem Mine.storeK {α : Type} {T : Tab} {sz : Nat} {R : List V → α → Prop} {B H : Heap} {v : V} {xs : List α} (h : Mine sz R B H v xs) {t e : Nat} {i ie : TI} (hT : T t = some i) (hk : i.k = .slice e) (hE : T e = some ie) (hs : ie.size = sz) {k : Nat} (hk' : k < xs.length) :
    ∃ b o, idxV T t v (k : Int) = some (.ptr b o) ∧ ∀ w y, w.isTup = false → w.cells.length = sz → R w.cells y → ∃ H', storeV T e H b o w = some H' ∧ Mine sz R B H' v (xs.set k y) ∧ Keep v H H' := by
  obtain ⟨hp, h⟩ := h
  rcases h with ⟨rfl, rfl⟩ | ⟨b, hb1, ho⟩
  · simp at hk'
  · obtain ⟨h1, h2⟩ := own_store ho hT hk hE hs hk'
    refine ⟨b, k * sz, h1, fun w y a b c => ?_⟩
    obtain ⟨H', e1, e2, e3⟩ := h2 w y a b c
    exact ⟨H', e1, ⟨e3.pre hp hb1, .inr ⟨_, hb1, e2⟩⟩, e3.1, fun c hc hne => e3.2 c hc fun e => hne (by rw [ho.blk, e])⟩
theorem Keep.refl (v : V) (H : Heap) : Keep v H H := ⟨Nat.le_refl _, fun _ _ _ => rfl⟩
theorem Keep.trans {v : V} {A B C : Heap} (h : Keep v A B) (k : Keep v B C) : Keep v A C := ⟨Nat.le_trans h.1 k.1, fun c hc hne => by rw [k.2 c (Nat.lt_of_lt_of_le hc h.1) hne, h.2 c hc hne]⟩

theorem sameConfig_ (H : Heap) (c : Cfg) (u v : V) (hu : Rows H u c.rows) (hv : Rows H v c.rows) (lx : c.rows.length ≤ 2 ^ 47) (l1 : ∀ r ∈ c.rows, r.1.length ≤ 2 ^ 47) : Call Try.prog 34 [.agg (cfgC c u), .agg (cfgC c v)] H (.bool true) H := by
  refine call_plain fit mixed Try.func34 rfl rfl rfl (by kernel_rfl) rfl ?_
  obtain ⟨H1, hH1⟩ : ∃ H1, H ++ [.row (cfgC c u) true] = H1 := ⟨_, rfl⟩
  obtain ⟨H2, hH2⟩ : ∃ H2, H1 ++ [.row (cfgC c v) true] = H2 := ⟨_, rfl⟩
  have p1 : H <+: H1 := by rw [← hH1]; exact List.prefix_append _ _
  have p2 : H1 <+: H2 := by rw [← hH2]; exact List.prefix_append _ _
  have pend := p1.trans p2
  have g1 : H2[H.length]? = some (.row (cfgC c u) true) := pre_get p2 (by rw [← hH1]; simp)
  have g2 : H2[H1.length]? = some (.row (cfgC c v) true) := by rw [← hH2]; simp
  have a0 := ld_cell (q := 0) T3 rfl g1 rfl
  have a3 := ld_cell (q := 3) T28 rfl g1 rfl
  have a4 := ld_cell (q := 4) T3 rfl g1 rfl
  have a5 := ld_cell (q := 5) T3 rfl g1 rfl
  have a6 := ld_cell (q := 6) T3 rfl g1 rfl
  have a7 := ld_cell (q := 7) T3 rfl g1 rfl
  have a8 := ld_cell (q := 8) T4 rfl g1 rfl
  have b0 := ld_cell (q := 0) T3 rfl g2 rfl
  have b3 := ld_cell (q := 3) T28 rfl g2 rfl
  have b4 := ld_cell (q := 4) T3 rfl g2 rfl
  have b5 := ld_cell (q := 5) T3 rfl g2 rfl
  have b6 := ld_cell (q := 6) T3 rfl g2 rfl
  have b7 := ld_cell (q := 7) T3 rfl g2 rfl
  have b8 := ld_cell (q := 8) T4 rfl g2 rfl
  have a1 : loadV T 23 H2 H.length 1 = some (.agg [.int .i64 c.i, .int .i64 c.h]) := by
    refine loadV_agg T23 rfl ?_
    unfold Heap.loadN
    rw [g1]; rfl
  have b1 : loadV T 23 H2 H1.length 1 = some (.agg [.int .i64 c.i, .int .i64 c.h]) := by
    refine loadV_agg T23 rfl ?_
    unfold Heap.loadN
    rw [g2]; rfl
  have hq : vbin T .eql 23 (.agg [.int .i64 c.i, .int .i64 c.h]) (.agg [.int .i64 c.i, .int .i64 c.h]) = some (.bool true) := by
    have h : vbin T .eql 23 (.agg [.int .i64 c.i, .int .i64 c.h]) (.agg [.int .i64 c.i, .int .i64 c.h]) = some (.bool (c.i == c.i && (c.h == c.h && true))) := by
      simp only [vbin, T23]; rfl
    rw [h]; simp
  have hq2 : vbin T .eql 4 (.bool c.pert) (.bool c.pert) = some (.bool true) := by
    have h : vbin T .eql 4 (.bool c.pert) (.bool c.pert) = some (.bool (c.pert == c.pert)) := by
      simp only [vbin, T4]; rfl
    rw [h]; simp
  have c1 := sameRows_ H2 u v c.rows c.rows (hu.mono pend) (hv.mono pend) lx l1
  rw [decide_eq_true rfl] at c1
  clear hu hv g1 g2 p1 p2
  refine goW ?_
  refine l_heap (h' := H2) (by rw [← hH2, ← hH1]) ?_
  rw [hH1]
  repeat (first | refine wq_seq ?_ | refine wq_line ?_ | refine wq_draw (by decide +kernel) ?_ | refine wq_block ?_ | refine l_nil ?_ | refine d_nil ?_ | refine wq_skip ?_ | refine wq_ret ?_ | refine wq_exit ?_ | refine th_normal ?_ | refine th_ret ?_ | refine th_exit ?_ | refine bk_normal ?_ | refine bk_ret ?_ | refine bk_exit ?_ | refine bk_other rfl ?_ | refine l_onG ?_ | refine l_offG ?_ | refine l_step (s_bin eLk eLk hq) ?_ | refine l_step (s_bin eLk eLk hq2) ?_ | refine l_callG c1 ?_ | refine l_go ?_)
  refine end_ret (by simp only [resRf, resRs, resR]; first | done | rfl) ⟨?_, pend⟩
  simp [put_app, put_none]

abbrev zeroCfg : List V := [.int .i64 0, .int .i64 0, .int .i64 0, .nils, .int .i64 0, .int .i64 0, .int .i64 0, .int .i64 0, .bool false]
end Go.Proofs.Ytjageapgbpdlhaa.VM

/- Layer 14: the document's bytes of a number, of a checkpoint. -/
namespace Go.Proofs.Ytjageapgbpdlhaa.VM
open Go
set_option linter.unusedVariables false
set_option linter.unusedSimpArgs false
attribute [local irreducible] wq wqL wqD wqE wqO Th Bk EndR
set_option maxHeartbeats 8000000

def byteC (cs : List V) (n : Int) : Prop := cs = [.int .u8 n]
def strOf (bs : List Int) : ByteArray := ⟨(bs.map fun n => UInt8.ofNat n.toNat).toArray⟩
theorem strOf_size (bs : List Int) : (strOf bs).size = bs.length := by simp [strOf, ByteArray.size]
theorem strOf_app (a b : List Int) : strOf a ++ strOf b = strOf (a ++ b) := by
  apply ByteArray.ext
  simp [strOf, ByteArray.data_append]
theorem strOf_nil : strOf [] = ⟨#[]⟩ := rfl

theorem toBytes_of : ∀ (cs : List V) (bs : List Int), Cells 1 byteC cs bs → V.toBytes cs = some (bs.map fun n => UInt8.ofNat n.toNat)
  | [], [], _ => rfl
  | [], b :: bs, h => by have := h.1; simp at this
  | c :: cs, [], h => by have := h.1; simp at this
  | c :: cs, b :: bs, h => by
    have h0 := h.2 0 b rfl
    simp [byteC] at h0
    subst h0
    have ht := toBytes_of cs bs ⟨by have := h.1; simpa using this, fun k x hk => by
      have := h.2 (k + 1) x (by simpa using hk)
      simpa [Nat.succ_mul] using this⟩
    simp [V.toBytes, ht]

theorem s_toStr {ρ : Rho} {H : Heap} {x : Operand} {v : V} {bs : List Int} (hx : ρ.ev x = some v) (h : Sl 1 byteC H v bs) : Does T ρ H (.convert 123 9 x) (.str (strOf bs)) H := by
  refine does_mem rfl ?_ ?_
  · rcases h with ⟨rfl, _⟩ | ⟨b, off, cap, t, cs, wr, rfl, _⟩ <;> simp only [pureOp, T123, T9, hx]
  · rcases h with ⟨rfl, rfl⟩ | ⟨b, off, cap, t, cs, wr, rfl, h1, h2, h3, h4⟩
    · simp only [memOp, T123, T9, T5, hx]; rfl
    · simp only [memOp, T123, T9, T5, hx]
      by_cases h0 : bs.length = 0
      · obtain rfl : bs = [] := List.length_eq_zero_iff.1 h0
        simp; rfl
      · rw [if_neg h0]
        have hl : H.loadN b off bs.length = some ((cs.drop off).take bs.length) := by
          unfold Heap.loadN
          rw [h2]
          simp only
          rw [if_pos (by omega)]
        have hc : Cells 1 byteC ((cs.drop off).take bs.length) bs := ⟨by simp; omega, fun k x hk => by
          have hk' := (List.getElem?_eq_some_iff.1 hk).1
          have := h4 k x hk
          rw [List.drop_take, List.drop_drop, List.take_take, Nat.min_eq_left (by omega)]
          exact this⟩
        rw [hl]
        simp only [toBytes_of _ _ hc]
        rfl

def lowK (x : Int) (j : Nat) : Int := IntKind.u8.wrap (x.fdiv (2 ^ min (8 * j) IntKind.i64.bits))
def lowL (x : Int) (k : Nat) : List Int := (List.range k).map (lowK x)

theorem low_ (H : Heap) (x : Int) (k : Nat) (hk : k ≤ 8) : Call Try.prog 93 [.int .i64 x, .int .i64 k] H (.str (strOf (lowL x k))) H := by
  refine call_plain fit mixed Try.func93 rfl rfl rfl (by kernel_rfl) rfl ?_
  obtain ⟨H1, hH1⟩ : ∃ H1, H ++ [.row (zeros [.int .u8 0] k) true] = H1 := ⟨_, rfl⟩
  have p1 : H <+: H1 := by rw [← hH1]; exact List.prefix_append _ _
  obtain ⟨v, hv⟩ : ∃ v, V.slc H.length 0 k k true 1 = v := ⟨_, rfl⟩
  have hm : Mine 1 byteC H H1 v (List.replicate k 0) := by
    have h := mine_make (R := byteC) (t := true) (List.prefix_refl H) (cells_zeros (sz := 1) (z := [V.int .u8 0]) (x := (0 : Int)) rfl rfl k)
    rw [List.length_replicate, hH1, hv] at h
    exact h
  refine goW ?_
  refine l_makeG T123 rfl T5 ?_
  refine l_heap (h' := H1) hH1 ?_
  refine goW ?_
  refine wq_loop (fun c ρ hp => ∃ j ys, j ≤ k ∧ c = k - j ∧ ys.length = k ∧ (∀ i, i < j → ys[i]? = some (lowK x i)) ∧ Mine 1 byteC H hp v ys ∧ ρ 0 = .int .i64 x ∧ ρ 1 = .int .i64 (k : Nat) ∧ ρ 5 = v ∧ ρ 6 = .int .i64 (j : Nat)) ⟨0, _, Nat.zero_le _, rfl, by simp, by intro i hi; omega, hm, rfl, rfl, hv, rfl⟩ ?_
  clear hm hv hH1 p1
  rintro _ ρ hp ⟨j, ys, hj, rfl, hyl, hys, hm, h0, h1, h5, h6⟩
  refine goW ?_
  refine cond_go (fun hb => ?_) (fun hb => ?_)
  · have hj' : j < k := by simpa using hb
    clear hb
    obtain ⟨b, o, hi, hst0⟩ := hm.store T123 rfl T5 rfl (k := j) (by omega)
    obtain ⟨H', hst, hm2⟩ := hst0 (.int .u8 (lowK x j)) (lowK x j) rfl rfl rfl
    have w8 : IntKind.i64.wrap (8 * (j : Int)) = ((8 * j : Nat) : Int) := by rw [show 8 * (j : Int) = ((8 * j : Nat) : Int) by omega]; exact wrap_nat (by omega)
    have hw := wrap_succ (n := j) (by omega)
    have hall : ∀ i, i < j + 1 → (ys.set j (lowK x j))[i]? = some (lowK x i) := fun i hi2 => by
      by_cases hij : i = j
      · subst hij; rw [List.getElem?_set_self (by omega)]
      · rw [List.getElem?_set_ne (by omega)]; exact hys i (by omega)
    clear hm hys hst0
    have hsh : vbin T .shr 3 (.int .i64 x) (.int .i64 ((8 * j : Nat) : Int)) = some (.int .i64 (x.fdiv (2 ^ min (8 * j) IntKind.i64.bits))) := by
      simp only [vbin, shiftBin]
      rw [if_neg (by omega), Int.toNat_natCast]
    have hlk : IntKind.u8.wrap (x.fdiv (2 ^ min (8 * j) IntKind.i64.bits)) = lowK x j := rfl
    repeat (first | refine wq_seq ?_ | refine wq_line ?_ | refine wq_draw (by decide +kernel) ?_ | refine wq_block ?_ | refine l_nil ?_ | refine d_nil ?_ | refine wq_skip ?_ | refine wq_ret ?_ | refine wq_exit ?_ | refine th_normal ?_ | refine th_ret ?_ | refine th_exit ?_ | refine bk_normal ?_ | refine bk_ret ?_ | refine bk_exit ?_ | refine bk_other rfl ?_ | refine l_step (s_bin eLk eLk hsh) ?_ | refine l_go ?_)
    refine ⟨k - (j + 1), by omega, j + 1, _, hj', rfl, by simpa using hyl, hall, hm2, ?_⟩
    simp [put_app, put_none, *]
  · have hj' : j = k := by have : ¬ j < k := by simpa using hb
                           omega
    subst hj'
    clear hb
    have hyy : ys = lowL x j := by
      apply List.ext_getElem?
      intro i
      by_cases hi : i < j
      · rw [hys i hi]; simp [lowL, hi]
      · rw [List.getElem?_eq_none (by omega), List.getElem?_eq_none (by simp [lowL]; omega)]
    subst hyy
    have hsl := hm.sl
    have hpr := hm.1
    clear hm hys
    refine goW ?_
    refine l_step (s_toStr eLk hsl) ?_
    refine goW ?_
    refine end_ret (by simp only [resRf, resRs, resR]; first | done | rfl) ⟨?_, hpr⟩
    simp [put_app, put_none]
end Go.Proofs.Ytjageapgbpdlhaa.VM

/- Layer 14: the document's PutCheck. -/
namespace Go.Proofs.Ytjageapgbpdlhaa.VM
open Go
set_option linter.unusedVariables false
set_option linter.unusedSimpArgs false
attribute [local irreducible] wq wqL wqD wqE wqO Th Bk EndR
set_option maxHeartbeats 8000000

theorem str_add {a b : List Int} (h : a.length + b.length ≤ 2 ^ 40) : vbin T .add 9 (.str (strOf a)) (.str (strOf b)) = some (.str (strOf (a ++ b))) := by
  simp only [vbin, strBin, strOf_size, strOf_app]
  rw [if_neg (by simp only [IntKind.max, IntKind.signed, IntKind.bits]; omega)]
theorem lowL_len (x : Int) (k : Nat) : (lowL x k).length = k := by simp [lowL]
def lowsL (xs : List Int) : List Int := xs.flatMap fun x => lowL x 4
theorem lowsL_len (xs : List Int) : (lowsL xs).length = 4 * xs.length := by
  induction xs with
  | nil => rfl
  | cons x xs ih =>
    have : lowsL (x :: xs) = lowL x 4 ++ lowsL xs := rfl
    rw [this, List.length_append, ih, lowL_len, List.length_cons]; omega
theorem lowsL_snoc {xs : List Int} {k : Nat} {x : Int} (h : xs[k]? = some x) : lowsL (xs.take (k + 1)) = lowsL (xs.take k) ++ lowL x 4 := by
  rw [List.take_add_one, h]
  simp [lowsL]
def putL (ws vs : List Int) (r m t : Int) : List Int := (((lowL ws.length 1 ++ lowsL ws) ++ lowsL vs) ++ lowL r 4 ++ lowL m 4) ++ lowL t 1

theorem refPut_good (H : Heap) (w v : V) (ws vs : List Int) (r m t : Int) (hw : Sl 1 intC H w ws) (hv : Sl 1 intC H v vs) (hm : chkMay ws vs r m t = true) : Call Try.prog 68 [.agg (chkC w v r m t)] H (.tup [.str (strOf (putL ws vs r m t)), .int .i64 0]) H := by
  refine call_plain fit mixed Try.func68 rfl rfl rfl (by kernel_rfl) rfl ?_
  obtain ⟨hvw, hvv, hlv, hlw1, _, _, _⟩ := chkMay_split hm
  have hlw := vecMay_len hvw
  obtain ⟨n, hn⟩ : ∃ n, ws.length = n := ⟨_, rfl⟩
  obtain ⟨H1, hH1⟩ : ∃ H1, H ++ [.row (chkC w v r m t) true] = H1 := ⟨_, rfl⟩
  have p1 : H <+: H1 := by rw [← hH1]; exact List.prefix_append _ _
  have g1 : H1[H.length]? = some (.row (chkC w v r m t) true) := by rw [← hH1]; simp
  have hw1 := hw.mono p1
  have hv1 := hv.mono p1
  have c0 := refChkMay_ H1 w v ws vs r m t hw1 hv1 (by omega) (by omega)
  rw [hm] at c0
  have la := ld_agg T56 rfl g1 rfl
  have l0 := ld_cell (q := 0) T24 rfl g1 rfl
  have l1 := ld_cell (q := 1) T24 rfl g1 rfl
  have l2 := ld_cell (q := 2) T3 rfl g1 rfl
  have l3 := ld_cell (q := 3) T3 rfl g1 rfl
  have l4 := ld_cell (q := 4) T3 rfl g1 rfl
  have hlen := hw1.len T24 rfl
  have hlen2 := hv1.len T24 rfl
  rw [hn] at hlen hlv hlw hlw1
  rw [hlv] at hlen2
  have k1 := low_ H1 n 1 (by decide)
  have k2 := low_ H1 r 4 (by decide)
  have k3 := low_ H1 m 4 (by decide)
  have k4 := low_ H1 t 1 (by decide)
  obtain ⟨pre, hpre⟩ : ∃ x, lowL ws.length 1 ++ lowsL ws = x := ⟨_, rfl⟩
  have hprel : pre.length = 1 + 4 * n := by rw [← hpre]; simp only [List.length_append, lowL_len, lowsL_len]; omega
  obtain ⟨out, hout⟩ : ∃ x, putL ws vs r m t = x := ⟨_, rfl⟩
  rw [hout]
  clear hm hvw hvv hw hv
  refine goW ?_
  refine l_heap (h' := H1) hH1 ?_
  refine goW ?_
  refine l_callG c0 ?_
  refine goW ?_
  refine cond_go (fun hb => ?_) (fun hb => ?_)
  · cases hb
  clear hb c0 la
  refine goW ?_
  refine l_callG k1 ?_
  refine goW ?_
  refine wq_loop (fun c ρ hp => ∃ k, k ≤ n ∧ c = n - k ∧ hp = H1 ∧ ρ 1 = .ptr H.length 0 ∧ ρ 4 = .str (strOf (lowL n 1 ++ lowsL (ws.take k))) ∧ ρ 5 = .int .i64 (k : Nat)) ⟨0, Nat.zero_le _, rfl, rfl, rfl, by simp [lowsL]; rfl, rfl⟩ ?_
  rintro _ ρ hp ⟨k, hk, rfl, hpe, h1, h4, h5⟩
  subst hpe
  clear k1
  refine goW ?_
  refine cond_go (fun hb => ?_) (fun hb => ?_)
  · have hk' : k < n := by simpa using hb
    clear hb
    have hwk := getD_some (xs := ws) (k := k) (by omega)
    obtain ⟨b, o, _, hi, rfl, _, hlo, _⟩ := hw1.get T24 rfl T3 rfl hwk
    have ho := loadV_one T3 rfl hlo
    have c1 := low_ hp (ws.getD k 0) 4 (by decide)
    have hsn := lowsL_snoc hwk
    have hadd := str_add (a := lowL n 1 ++ lowsL (ws.take k)) (b := lowL (ws.getD k 0) 4) (by simp only [List.length_append, lowL_len, lowsL_len, List.length_take]; omega)
    rw [List.append_assoc, ← hsn] at hadd
    have hw2 := wrap_succ (n := k) (by omega)
    clear hlo hwk hsn k2 k3 k4 hlen2 l1 l2 l3 l4
    refine goW ?_
    refine l_callG c1 ?_
    refine l_step (s_bin eLk eLk hadd) ?_
    refine goW ?_
    refine ⟨n - (k + 1), by omega, k + 1, hk', rfl, rfl, ?_⟩
    simp [put_app, put_none, *]
  have hk' : k = n := by have : ¬ k < n := by simpa using hb
                         omega
  subst hk'
  rw [List.take_of_length_le (by omega), ← hn, hpre] at h4
  clear hb hlen l0
  refine wq_cut (fun ρ => ρ 1 = .ptr H.length 0 ∧ ρ 4 = .str (strOf pre)) ⟨h1, h4⟩ ?_
  clear h1 h4 h5
  clear ρ
  rintro ρ ⟨h1, h4⟩
  refine goW ?_
  refine wq_loop (fun c ρ hp' => ∃ j, j ≤ k ∧ c = k - j ∧ hp' = hp ∧ ρ 1 = .ptr H.length 0 ∧ ρ 4 = .str (strOf (pre ++ lowsL (vs.take j))) ∧ ρ 6 = .int .i64 (j : Nat)) ⟨0, Nat.zero_le _, rfl, rfl, by simp [put_app, put_none, h1], by simp [put_app, put_none, h4, lowsL], rfl⟩ ?_
  clear h1 h4
  clear ρ
  rintro _ ρ hp2 ⟨j, hj, rfl, hpe, h1, h4, h6⟩
  subst hpe
  refine goW ?_
  refine cond_go (fun hb => ?_) (fun hb => ?_)
  · have hj' : j < k := by simpa using hb
    clear hb
    have hwk := getD_some (xs := vs) (k := j) (by omega)
    obtain ⟨b, o, _, hi, rfl, _, hlo, _⟩ := hv1.get T24 rfl T3 rfl hwk
    have ho := loadV_one T3 rfl hlo
    have c1 := low_ hp2 (vs.getD j 0) 4 (by decide)
    have hsn := lowsL_snoc hwk
    have hadd := str_add (a := pre ++ lowsL (vs.take j)) (b := lowL (vs.getD j 0) 4) (by simp only [List.length_append, lowL_len, lowsL_len, List.length_take]; omega)
    rw [List.append_assoc, ← hsn] at hadd
    have hw2 := wrap_succ (n := j) (by omega)
    clear hlo hwk hsn k2 k3 k4 l2 l3 l4
    refine goW ?_
    refine l_callG c1 ?_
    refine l_step (s_bin eLk eLk hadd) ?_
    refine goW ?_
    refine ⟨k - (j + 1), by omega, j + 1, hj', rfl, rfl, ?_⟩
    simp [put_app, put_none, *]
  have hj' : j = k := by have : ¬ j < k := by simpa using hb
                         omega
  subst hj'
  rw [List.take_of_length_le (by omega)] at h4
  clear hb hlen2 l1
  have hfin : out = pre ++ lowsL vs ++ lowL r 4 ++ lowL m 4 ++ lowL t 1 := by rw [← hout, ← hpre]; rfl
  have a1 := str_add (a := pre ++ lowsL vs) (b := lowL r 4) (by simp only [List.length_append, lowL_len, lowsL_len]; omega)
  have a2 := str_add (a := pre ++ lowsL vs ++ lowL r 4) (b := lowL m 4) (by simp only [List.length_append, lowL_len, lowsL_len]; omega)
  have a3 := str_add (a := pre ++ lowsL vs ++ lowL r 4 ++ lowL m 4) (b := lowL t 1) (by simp only [List.length_append, lowL_len, lowsL_len]; omega)
  rw [← hfin] at a3
  clear hout hfin hpre
  refine goW ?_
  refine d_call0G k2 ?_
  refine d_step (s_bin eLk eLk a1) ?_
  refine goW ?_
  refine d_call0G k3 ?_
  refine d_step (s_bin eLk eLk a2) ?_
  refine goW ?_
  refine d_call0G k4 ?_
  refine d_step (s_bin eLk eLk a3) ?_
  refine goW ?_
  refine end_ret (by simp only [resRf, resRs, resR]; first | done | rfl) ⟨?_, p1⟩
  simp [put_app, put_none]
end Go.Proofs.Ytjageapgbpdlhaa.VM

/- Layers 5, 11: the document's first weights and hypers. -/
namespace Go.Proofs.Ytjageapgbpdlhaa.VM
open Go
set_option linter.unusedVariables false
set_option linter.unusedSimpArgs false
attribute [local irreducible] wq wqL wqD wqE wqO Th Bk EndR
set_option maxHeartbeats 8000000

def initK (s f k : Nat) : Int := (drawN s (f + k) : Int) - 32768
def initL (i h s f : Nat) : List Int := (List.range (netSize i h)).map (initK s f)
theorem initK_may (s f k : Nat) : fixMay (initK s f k) = true := by
  have := drawN_lt s (f + k)
  unfold fixMay initK
  rw [within_iff]; omega
theorem initL_len (i h s f : Nat) : (initL i h s f).length = netSize i h := by simp [initL]
theorem initL_vec {i h s f : Nat} (hs : netSize i h ≤ 16) : vecMay (initL i h s f) = true := by
  simp only [vecMay, Bool.and_eq_true, decide_eq_true_eq, List.all_eq_true]
  refine ⟨by rw [initL_len]; exact hs, fun b hb => ?_⟩
  obtain ⟨k, _, rfl⟩ := List.mem_map.1 hb
  exact initK_may s f k

theorem refInit_ (H : Heap) (i h s f : Nat) (hi : 1 ≤ i ∧ i ≤ 3) (hh : 1 ≤ h ∧ h ≤ 3) (hs : s ≤ 65535) (hf : f ≤ 1048560) :
    ∃ u H', Call Try.prog 66 [.agg [.int .i64 i, .int .i64 h], .int .i64 s, .int .i64 f] H (.tup [u, .int .i64 0]) H' ∧ Mine 1 intC H H' u (initL i h s f) := by
  suffices hgoal : ∃ w H', (∃ u, w = .tup [u, .int .i64 0] ∧ Mine 1 intC H H' u (initL i h s f)) ∧ Call Try.prog 66 [.agg [.int .i64 i, .int .i64 h], .int .i64 s, .int .i64 f] H w H' by
    obtain ⟨_, H', ⟨u, rfl, h1⟩, h2⟩ := hgoal
    exact ⟨u, H', h2, h1⟩
  refine call_wq fit mixed Try.func66 rfl rfl rfl (by kernel_rfl) ?_
  obtain ⟨H1, hH1⟩ : ∃ H1, H ++ [.row [.int .i64 i, .int .i64 h] true] = H1 := ⟨_, rfl⟩
  have p1 : H <+: H1 := by rw [← hH1]; exact List.prefix_append _ _
  have g1 : H1[H.length]? = some (.row [.int .i64 i, .int .i64 h] true) := by rw [← hH1]; simp
  have la := ld_agg T23 rfl g1 rfl
  have c0 := refShapeMay_ H1 i h
  have hsm : shapeMay (i : Int) (h : Int) = true := by simp only [shapeMay, Bool.and_eq_true, within_iff]; omega
  rw [hsm] at c0
  have c1 := upTo1_ H1 s 0 65535
  have c2 := upTo1_ H1 f 0 1048560
  rw [within_iff.2 ⟨by omega, by omega⟩] at c1 c2
  have hsmall : netSize i h ≤ 16 := by have := small_size hi.2 hh.2; unfold netSize; omega
  obtain ⟨n, hn⟩ : ∃ n, netSize i h = n := ⟨_, rfl⟩
  unfold initL
  rw [hn] at hsmall ⊢
  have hi' := hi.2
  have hh' := hh.2
  clear hsm hi hh
  refine goW ?_
  refine l_heap (h' := H1) hH1 ?_
  refine goW ?_
  refine l_callG c0 ?_
  refine goW ?_
  refine l_callG c1 ?_
  refine goW ?_
  refine l_callG c2 ?_
  refine goW ?_
  refine cond_go (fun hb => ?_) (fun hb => ?_)
  · cases hb
  clear hb c0 c1 c2
  refine goW ?_
  refine wq_loop (fun c ρ hp => ∃ k u, k ≤ n ∧ c = n - k ∧ Mine 1 intC H1 hp u ((List.range k).map (initK s f)) ∧ ρ 1 = .int .i64 s ∧ ρ 2 = .int .i64 f ∧ ρ 3 = .ptr H.length 0 ∧ ρ 8 = u ∧ ρ 9 = .int .i64 (k : Nat)) ⟨0, .nils, Nat.zero_le _, rfl, Mine.nil (List.prefix_refl _), rfl, rfl, rfl, rfl, rfl⟩ ?_
  rintro _ ρ hp ⟨k, u, hk, rfl, hm, h1, h2, h3, h8, h9⟩
  have la2 : loadV T 23 hp H.length 0 = some (.agg [.int .i64 i, .int .i64 h]) := ld_agg T23 rfl (pre_get hm.1 g1) rfl
  have c3 := refsize_ hp i h hi' hh'
  rw [hn] at c3
  clear la
  refine goW ?_
  refine l_callG c3 ?_
  refine goW ?_
  refine cond_go (fun hb => ?_) (fun hb => ?_)
  · have hk' : k < n := by simpa using hb
    clear hb c3 la2
    have w1 : IntKind.i64.wrap ((f : Int) + (k : Int)) = ((f + k : Nat) : Int) := by rw [← Int.natCast_add]; exact wrap_nat (by omega)
    have c4 := refDraw_ hp s (f + k) hs (by omega)
    have w2 : IntKind.i64.wrap (((drawN s (f + k) : Nat) : Int) - 32768) = initK s f k := by
      have := drawN_lt s (f + k)
      unfold initK
      exact wrap_i64 (by omega) (by omega)
    obtain ⟨v', hp', nw, ap, hm2, _, _⟩ := int_app hm (initK s f k) (by simp; omega)
    rw [range_snoc] at hm2
    have hw := wrap_succ (n := k) (by omega)
    clear hm hs hf
    refine goW ?_
    refine l_callG c4 ?_
    refine goW ?_
    refine l_appendG nw ap ?_
    refine goW ?_
    refine ⟨n - (k + 1), by omega, k + 1, v', hk', rfl, hm2, ?_⟩
    simp [put_app, put_none, *]
  · have hk' : k = n := by have : ¬ k < n := by simpa using hb
                           omega
    subst hk'
    have hm2 := hm.low p1
    clear hb hm c3 la2
    refine goW ?_
    refine end_ret (by simp only [resRf, resRs, resR]; first | done | rfl) ⟨u, ?_, hm2⟩
    simp [put_app, put_none, *]

def rateN (s k : Nat) : Nat := 64 + pickN s k 16321
def momN (s k : Nat) : Nat := pickN s (k + 1) 58983
theorem hyper_re (s k : Nat) : hyperMay (rateN s k) (momN s k) = true := by
  have h1 := pickN_lt (s := s) (k := k) (b := 16321) (by decide)
  have h2 := pickN_lt (s := s) (k := k + 1) (b := 58983) (by decide)
  unfold rateN momN
  simp only [hyperMay, Bool.and_eq_true, within_iff]; omega

theorem refResample_ (H : Heap) (s k : Nat) (hs : s ≤ 65535) (hk : k ≤ 1048575) : Call Try.prog 92 [.int .i64 s, .int .i64 k] H (.tup [.agg [.int .i64 (rateN s k : Nat), .int .i64 (momN s k : Nat)], .int .i64 0]) H := by
  refine call_plain fit mixed Try.func92 rfl rfl rfl (by kernel_rfl) rfl ?_
  obtain ⟨H1, hH1⟩ : ∃ H1, H ++ [.row [.int .i64 0, .int .i64 0] true] = H1 := ⟨_, rfl⟩
  have p1 : H <+: H1 := by rw [← hH1]; exact List.prefix_append _ _
  have g1 : H1[H.length]? = some (.row [.int .i64 0, .int .i64 0] true) := by rw [← hH1]; simp
  have c1 := upTo1_ H1 s 0 65535
  have c2 := upTo1_ H1 k 0 1048575
  rw [within_iff.2 ⟨by omega, by omega⟩] at c1 c2
  have c3 := refPick_ H1 s k 16321 hs (by omega) (by decide) (by decide)
  have c4 := refPick_ H1 s (k + 1) 58983 hs (by omega) (by decide) (by decide)
  have w0 := wrap_succ (n := k) (by omega)
  have c4' : Call Try.prog 70 [.int .i64 s, .int .i64 ((k : Int) + 1), .int .i64 58983] H1 (.tup [.int .i64 (momN s k : Nat), .int .i64 0]) H1 := c4
  have w1 : IntKind.i64.wrap (64 + ((pickN s k 16321 : Nat) : Int)) = ((rateN s k : Nat) : Int) := by
    have h1 := pickN_lt (s := s) (k := k) (b := 16321) (by decide)
    unfold rateN
    rw [wrap_i64 (by omega) (by omega)]; omega
  have hst := agg_store (cells := [V.int .i64 (rateN s k : Nat), V.int .i64 (momN s k : Nat)]) T54 g1 rfl rfl
  obtain ⟨H2, hH2⟩ : ∃ H2, H1.set H.length (.row [V.int .i64 (rateN s k : Nat), V.int .i64 (momN s k : Nat)] true) = H2 := ⟨_, rfl⟩
  rw [hH2] at hst
  have hlt := (List.getElem?_eq_some_iff.1 g1).1
  have p2 : H <+: H2 := by rw [← hH2]; exact pre_set p1 (Nat.le_refl _)
  have ln2 : Heap.loadN H2 H.length 0 2 = some [V.int .i64 (rateN s k : Nat), V.int .i64 (momN s k : Nat)] := by unfold Heap.loadN; rw [← hH2, List.getElem?_set_self hlt]; rfl
  clear c4 hs hk g1 hlt hH2
  refine goW ?_
  refine l_heap (h' := H1) hH1 ?_
  refine goW ?_
  refine l_callG c1 ?_
  refine goW ?_
  refine l_callG c2 ?_
  refine goW ?_
  refine cond_go (fun hb => ?_) (fun hb => ?_)
  · cases hb
  clear hb
  refine goW ?_
  refine l_callG c3 ?_
  refine goW ?_
  refine l_callG c4' ?_
  refine goW ?_
  refine l_step (s_store eLk eLk hst) ?_
  refine goW ?_
  refine end_ret (v := .tup [.agg [.int .i64 (rateN s k : Nat), .int .i64 (momN s k : Nat)], .int .i64 0]) ?_ ⟨rfl, p2⟩
  simp only [resRf, resRs, resR, put_app, put_none, Nat.reduceEqDiff, reduceIte, Option.some.injEq, reduceCtorEq, T54, ln2]
  rfl

theorem refFirstHyper_ (H : Heap) (s k : Nat) (hs : s ≤ 65535) (hk : k ≤ 7) : Call Try.prog 67 [.int .i64 s, .int .i64 k] H (.tup [.agg [.int .i64 (rateN s (40000 + 2 * k) : Nat), .int .i64 (momN s (40000 + 2 * k) : Nat)], .int .i64 0]) H := by
  refine call_plain fit mixed Try.func67 rfl rfl rfl (by kernel_rfl) rfl ?_
  obtain ⟨H1, hH1⟩ : ∃ H1, H ++ [.row [.int .i64 0, .int .i64 0] true] = H1 := ⟨_, rfl⟩
  have p1 : H <+: H1 := by rw [← hH1]; exact List.prefix_append _ _
  have g1 : H1[H.length]? = some (.row [.int .i64 0, .int .i64 0] true) := by rw [← hH1]; simp
  have c1 := upTo1_ H1 s 0 65535
  have c2 := upTo1_ H1 k 0 7
  rw [within_iff.2 ⟨by omega, by omega⟩] at c1 c2
  obtain ⟨q, hq⟩ : ∃ q, 40000 + 2 * k = q := ⟨_, rfl⟩
  have c3 := refResample_ H1 s q hs (by omega)
  have w0 : IntKind.i64.wrap (2 * (k : Int)) = ((2 * k : Nat) : Int) := by rw [show 2 * (k : Int) = ((2 * k : Nat) : Int) by omega]; exact wrap_nat (by omega)
  have w1 : IntKind.i64.wrap (40000 + ((2 * k : Nat) : Int)) = (q : Int) := by rw [wrap_i64 (by omega) (by omega)]; omega
  rw [hq]
  have hst := agg_store (cells := [V.int .i64 (rateN s q : Nat), V.int .i64 (momN s q : Nat)]) T54 g1 rfl rfl
  obtain ⟨H2, hH2⟩ : ∃ H2, H1.set H.length (.row [V.int .i64 (rateN s q : Nat), V.int .i64 (momN s q : Nat)] true) = H2 := ⟨_, rfl⟩
  rw [hH2] at hst
  have hlt := (List.getElem?_eq_some_iff.1 g1).1
  have p2 : H <+: H2 := by rw [← hH2]; exact pre_set p1 (Nat.le_refl _)
  have ln2 : Heap.loadN H2 H.length 0 2 = some [V.int .i64 (rateN s q : Nat), V.int .i64 (momN s q : Nat)] := by unfold Heap.loadN; rw [← hH2, List.getElem?_set_self hlt]; rfl
  clear hs hk g1 hlt hH2 hq
  refine goW ?_
  refine l_heap (h' := H1) hH1 ?_
  refine goW ?_
  refine l_callG c1 ?_
  refine goW ?_
  refine l_callG c2 ?_
  refine goW ?_
  refine cond_go (fun hb => ?_) (fun hb => ?_)
  · cases hb
  clear hb
  refine goW ?_
  refine l_callG c3 ?_
  repeat (first | refine l_go ?_ (by first | exact s_extract eLk (by rfl)))
  refine l_step (s_store eLk eLk hst) ?_
  refine goW ?_
  refine end_ret (v := .tup [.agg [.int .i64 (rateN s q : Nat), .int .i64 (momN s q : Nat)], .int .i64 0]) ?_ ⟨rfl, p2⟩
  simp only [resRf, resRs, resR, put_app, put_none, Nat.reduceEqDiff, reduceIte, Option.some.injEq, reduceCtorEq, T54, ln2]
  rfl
end Go.Proofs.Ytjageapgbpdlhaa.VM

/- THE SMALL MACHINE, part ZC: steps that leave the memory as it is; what is laid new is told by name. -/
namespace Go.Proofs.Ytjageapgbpdlhaa.VM
open Go
set_option linter.unusedVariables false
set_option linter.unusedSimpArgs false

variable {P : Program} {T : Tab} {ops : Array Oper} {rest : List Oper} {Q : Rho → Heap → Prop} {ρ : Rho} {h h' : Heap} {v : V} {k : Nat} {d : Option Nat} {op : Op} {t : Nat} {p : String} {af : Array Edge}

theorem does_goP (hs : Does T ρ h op v h := by first | exact s_move eLk | exact s_assign eLk | exact s_bin eLk eLk eLkN | exact s_builtin eLk eLkA | exact s_field eLk (by rfl) | exact s_index eLk eLk eLkA | exact s_index2 eLk eLk (by rfl) (by simp only [Int.reduceToNat, Nat.reduceMul, Nat.reduceAdd, Nat.zero_add]; rfl) | exact s_load eLk eLkV | exact s_nil eLk | exact s_pick eLk eLk eLk (by simp only [reduceIte, Bool.false_eq_true, *]; first | done | rfl) | exact s_pick1 eLkB eLk eLk | exact s_pick0 eLkB eLk eLk | exact s_un eLk (by rfl) | exact s_extract eLk (by rfl) | exact s_func rfl eLk | exact s_conv (by rfl) (by rfl) rfl eLk | exact s_build (by rfl) rfl eLk (by rfl) | exact s_slice (by rfl) rfl (by rfl) eLk eLk eLk eLk eLkA) : Does T ρ h op v h := hs
theorem l_goP (hw : wqL P T ops rest Q (ρ.put d v) h) (hs : Does T ρ h op v h := by exact does_goP) : wqL P T ops (⟨d, op, t, p, af, none⟩ :: rest) Q ρ h := l_step hs hw
theorem d_goP (hw : wqD P T ops (k + 1) rest Q (ρ.put d v) h) (hs : Does T ρ h op v h := by exact does_goP) : wqD P T ops k (⟨d, op, t, p, af, none⟩ :: rest) Q ρ h := d_step hs hw

/-- a new place, under a name -/
theorem l_new {i : TI} {h2 : Heap} {t' : Nat} (hT : T t' = some i) (e : h ++ [.row i.zero true] = h2) (hw : wqL P T ops rest Q (ρ.put d (.ptr h.length 0)) h2) : wqL P T ops (⟨d, .alloc t', t, p, af, none⟩ :: rest) Q ρ h := by subst e; exact l_step (s_alloc hT) hw
theorem d_new {i : TI} {h2 : Heap} {t' : Nat} (hT : T t' = some i) (e : h ++ [.row i.zero true] = h2) (hw : wqD P T ops (k + 1) rest Q (ρ.put d (.ptr h.length 0)) h2) : wqD P T ops k (⟨d, .alloc t', t, p, af, none⟩ :: rest) Q ρ h := by subst e; exact d_step (s_alloc hT) hw
/-- a place with a value, under a name -/
theorem l_boxG {i : TI} {h2 : Heap} {t' : Nat} {x : Operand} {a : V} {cs : List V} (hT : T t' = some i) (e : h ++ [.row cs true] = h2) (hw : wqL P T ops rest Q (ρ.put d (.ptr h.length 0)) h2) (hx : ρ.ev x = some a := by exact eLk) (ht : a.isTup = false := by rfl) (hc : a.cells = cs := by (simp only [V.cells]; first | done | rfl)) : wqL P T ops (⟨d, .box t' x, t, p, af, none⟩ :: rest) Q ρ h := by subst e; exact l_step (s_boxC hT hx ht hc) hw
/-- a store, by what it does -/
theorem l_put {t' b off : Nat} {x y : Operand} {a : V} (hst : storeV T t' h b off a = some h') (hw : wqL P T ops rest Q (ρ.put d V.undef) h') (hx : ρ.ev x = some (.ptr b off) := by exact eLk) (hy : ρ.ev y = some a := by exact eLk) : wqL P T ops (⟨d, .store t' x y, t, p, af, none⟩ :: rest) Q ρ h := l_step (s_store hx hy hst) hw
theorem d_put {t' b off : Nat} {x y : Operand} {a : V} (hst : storeV T t' h b off a = some h') (hw : wqD P T ops (k + 1) rest Q (ρ.put d V.undef) h') (hx : ρ.ev x = some (.ptr b off) := by exact eLk) (hy : ρ.ev y = some a := by exact eLk) : wqD P T ops k (⟨d, .store t' x y, t, p, af, none⟩ :: rest) Q ρ h := d_step (s_store hx hy hst) hw
/-- the memory behind a slice that is made, under a name -/
theorem d_makeG {t' e : Nat} {i ie : TI} {x y : Operand} {kx ky : IntKind} {n c : Int} {h2 : Heap} (hT : T t' = some i) (hk : i.k = .slice e) (hE : T e = some ie) (eh : h ++ [.row (zeros ie.zero c.toNat) true] = h2) (hw : wqD P T ops (k + 1) rest Q (ρ.put d (.slc h.length 0 n.toNat c.toNat true ie.size)) h2)
    (hx : ρ.ev x = some (.int kx n) := by exact eLk) (hy : ρ.ev y = some (.int ky c) := by exact eLk) (hb : 0 ≤ n ∧ n ≤ c ∧ (ie.bytes : Int) * c ≤ 2 ^ 48 ∧ c ≤ IntKind.i64.max := by (simp only [IntKind.max, IntKind.signed, IntKind.bits]; omega)) : wqD P T ops k (⟨d, .makeSlice t' x y, t, p, af, none⟩ :: rest) Q ρ h := by subst eh; exact d_step (s_makeSlice hT hk hE hx hy hb) hw
theorem l_buildG {t' : Nat} {i : TI} {fs : List (Nat × Nat)} {ps : Array (Nat × Operand)} {vs : List (Nat × V)} {cs : List V} (hT : T t' = some i) (hk : i.k = .strct fs) (hf : fillV (structPlace T fs) i.zero vs = some cs) (hw : wqL P T ops rest Q (ρ.put d (.agg cs)) h) (hp : evParts ρ.ev ps.toList = some vs := by exact eLk) : wqL P T ops (⟨d, .build t' ps, t, p, af, none⟩ :: rest) Q ρ h := l_step (s_build hT hk hp hf) hw
theorem goP {p q : Prop} (hq : q) (h : Kept q → p := by intro hq; (repeat (first | (refine l_pl ?_; refine l_goP ?_) | (refine d_pl ?_; refine d_goP ?_) | (refine l_gd ?_; first | refine l_onG ?_ | refine l_offG ?_) | (refine d_gd ?_; first | refine d_onG ?_ | refine d_offG ?_) | refine wq_seq ?_ | refine wq_line ?_ | refine wq_draw (by decide +kernel) ?_ | refine wq_block ?_ | refine l_nil ?_ | refine d_nil ?_ | refine wq_skip ?_ | refine wq_ret ?_ | refine wq_exit ?_ | refine th_normal ?_ | refine th_ret ?_ | refine th_exit ?_ | refine bk_normal ?_ | refine bk_ret ?_ | refine bk_exit ?_ | refine bk_other rfl ?_)); exact hq.val) : p := h ⟨hq⟩
end Go.Proofs.Ytjageapgbpdlhaa.VM

/- THE SMALL MACHINE, MEMORY BY PARTS: what a function has made itself lies in parts that are told by name; all else is as it was. -/
namespace Go.Proofs.Ytjageapgbpdlhaa.VM
open Go
set_option linter.unusedVariables false
set_option linter.unusedSimpArgs false

variable {P : Program} {T : Tab} {α β : Type}

/-- something that is known as long as some blocks are left as they are -/
structure Fact where
  S : Nat → Prop
  p : Heap → Prop
  st : ∀ H H' : Heap, p H → (∀ c, S c → H'[c]? = H[c]?) → p H'
  lt : ∀ (H : Heap) c, p H → S c → c < H.length

/-- a part: a block of cells; a slice that may be written; what is only read -/
inductive Res : Type 1 where
  | box (b : Nat) (cs : List V)
  | own {α : Type} (sz : Nat) (R : List V → α → Prop) (v : V) (xs : List α)
  | ro (F : Fact)
def Res.ok (H : Heap) : Res → Prop
  | .box b cs => H[b]? = some (.row cs true)
  | .own sz R v xs => (v = .nils ∧ xs = []) ∨ ∃ b, Own sz R H b v xs
  | .ro F => F.p H
def Res.lies (c : Nat) : Res → Prop
  | .box b _ => b = c
  | .own _ _ v _ => v.blk = some c
  | .ro F => F.S c

theorem Res.ok_lt {H : Heap} {r : Res} (h : r.ok H) {c : Nat} (hc : r.lies c) : c < H.length := by
  cases r with
  | box b cs => cases hc; exact (List.getElem?_eq_some_iff.1 h).1
  | own sz R v xs =>
    rcases h with ⟨rfl, _⟩ | ⟨b, h⟩
    · cases hc
    · have := h.blk.symm.trans hc; cases this; exact h.lt
  | ro F => exact F.lt H c h hc
theorem Res.ok_fr {H H' : Heap} {r : Res} (h : r.ok H) (hf : ∀ c, r.lies c → H'[c]? = H[c]?) : r.ok H' := by
  cases r with
  | box b cs => exact (hf b rfl).trans h
  | own sz R v xs =>
    refine h.imp id ?_
    rintro ⟨b, h⟩
    have hb := h.blk
    obtain ⟨cap, t, cs, h0, h1, h2, h3⟩ := h
    exact ⟨b, cap, t, cs, h0, h1, (hf b hb).trans h2, h3⟩
  | ro F => exact F.st H H' h hf

/-- L are parts of H, apart from each other and from all that lay in B; B is as it was -/
structure Mem (B H : Heap) (L : List Res) : Prop where
  pre : B <+: H
  ok : ∀ r ∈ L, r.ok H
  low : ∀ r ∈ L, ∀ c, r.lies c → B.length ≤ c
  sep : L.Pairwise fun r s => ∀ c, r.lies c → ¬ s.lies c

/-- r is in L; f puts another in its place -/
inductive Has : List Res → Res → (Res → List Res) → Prop
  | here {r L} : Has (r :: L) r (fun x => x :: L)
  | there {r s L f} : Has L r f → Has (s :: L) r (fun x => s :: f x)

theorem Has.parts {L : List Res} {r : Res} {f : Res → List Res} (h : Has L r f) : ∃ L1 L2, L = L1 ++ r :: L2 ∧ ∀ x, f x = L1 ++ x :: L2 := by
  induction h with
  | here => exact ⟨[], _, rfl, fun _ => rfl⟩
  | there h ih =>
    obtain ⟨L1, L2, rfl, h2⟩ := ih
    exact ⟨_ :: L1, L2, rfl, fun x => by show _ :: _ = _; rw [h2]; rfl⟩

/-- what was put in lies there -/
theorem Has.again {L : List Res} {r : Res} {f : Res → List Res} (h : Has L r f) (x : Res) : Has (f x) x f := by
  induction h with
  | here => exact .here
  | there h ih => exact .there ih
theorem Has.same {L : List Res} {r : Res} {f : Res → List Res} (h : Has L r f) : f r = L := by
  obtain ⟨L1, L2, rfl, h2⟩ := h.parts
  exact h2 r

/-- r is in L; L' is the rest -/
inductive Take : List Res → Res → List Res → Prop
  | here {r L} : Take (r :: L) r L
  | there {r s L L'} : Take L r L' → Take (s :: L) r (s :: L')
theorem Take.perm {L L' : List Res} {r : Res} (h : Take L r L') : L.Perm (r :: L') := by
  induction h with
  | here => exact .refl _
  | there h ih => exact (ih.cons _).trans (.swap _ _ _)

theorem Mem.start (H : Heap) : Mem H H [] := ⟨List.prefix_refl _, by simp, by simp, .nil⟩
theorem Mem.get {B H : Heap} {L : List Res} {r : Res} {f : Res → List Res} (h : Mem B H L) (hh : Has L r f) : r.ok H := by
  obtain ⟨L1, L2, rfl, _⟩ := hh.parts
  exact h.ok _ (by simp)
theorem Mem.len {B H : Heap} {L : List Res} (h : Mem B H L) : B.length ≤ H.length := h.pre.length_le

/-- one part is turned -/
theorem Mem.turn {B H H' : Heap} {L : List Res} {r r' : Res} {f : Res → List Res} (h : Mem B H L) (hh : Has L r f) (hl : H.length ≤ H'.length) (hf : ∀ c, c < H.length → ¬ r.lies c → H'[c]? = H[c]?) (ok : r'.ok H') (mv : ∀ c, r'.lies c → r.lies c ∨ H.length ≤ c) : Mem B H' (f r') := by
  obtain ⟨L1, L2, rfl, h2⟩ := hh.parts
  rw [h2]
  have hs := List.pairwise_append.1 h.sep
  have hs2 := List.pairwise_cons.1 hs.2.1
  have hB := h.pre.length_le
  have st : ∀ s ∈ L1 ++ r :: L2, (∀ c, s.lies c → ¬ r.lies c) → s.ok H' := fun s hsm hap =>
    Res.ok_fr (h.ok s hsm) fun c hc => hf c (Res.ok_lt (h.ok s hsm) hc) (hap c hc)
  refine ⟨List.prefix_iff_getElem?.2 fun i hi => ?_, fun s hsm => ?_, fun s hsm c hc => ?_, List.pairwise_append.2 ⟨hs.1, List.pairwise_cons.2 ⟨fun s hsm c hc hc2 => ?_, hs2.2⟩, fun s hsm t htm c hc hc2 => ?_⟩⟩
  · rw [hf i (by omega) fun hc => by have := h.low r (by simp) i hc; omega]
    exact List.prefix_iff_getElem?.1 h.pre i hi
  · rcases List.mem_append.1 hsm with h1 | h1
    · exact st s (List.mem_append_left _ h1) fun c hc hr => hs.2.2 s h1 r (by simp) c hc hr
    · rcases List.mem_cons.1 h1 with rfl | h1
      · exact ok
      · exact st s (List.mem_append_right _ (List.mem_cons_of_mem _ h1)) fun c hc hr => hs2.1 s h1 c hr hc
  · rcases List.mem_append.1 hsm with h1 | h1
    · exact h.low s (List.mem_append_left _ h1) c hc
    · rcases List.mem_cons.1 h1 with rfl | h1
      · rcases mv c hc with h3 | h3
        · exact h.low r (by simp) c h3
        · omega
      · exact h.low s (List.mem_append_right _ (List.mem_cons_of_mem _ h1)) c hc
  · rcases mv c hc with h3 | h3
    · exact hs2.1 s hsm c h3 hc2
    · have := Res.ok_lt (h.ok s (List.mem_append_right _ (List.mem_cons_of_mem _ hsm))) hc2; omega
  · rcases List.mem_cons.1 htm with rfl | htm
    · rcases mv c hc2 with h3 | h3
      · exact hs.2.2 s hsm r (by simp) c hc h3
      · have := Res.ok_lt (h.ok s (List.mem_append_left _ hsm)) hc; omega
    · exact hs.2.2 s hsm t (List.mem_cons_of_mem _ htm) c hc hc2

/-- what lay is as it was; what is new lies behind it -/
theorem Mem.call {B H H' : Heap} {L L' : List Res} (h : Mem B H L) (h' : Mem H H' L') : Mem B H' (L' ++ L) := by
  have hB := h.pre.length_le
  refine ⟨h.pre.trans h'.pre, fun s hs => ?_, fun s hs c hc => ?_, List.pairwise_append.2 ⟨h'.sep, h.sep, fun s hs t ht c hc hc2 => ?_⟩⟩
  · rcases List.mem_append.1 hs with h1 | h1
    · exact h'.ok s h1
    · refine Res.ok_fr (h.ok s h1) fun c hc => ?_
      rw [List.prefix_iff_getElem?.1 h'.pre c (Res.ok_lt (h.ok s h1) hc)]
      exact (List.getElem?_eq_getElem _).symm
  · rcases List.mem_append.1 hs with h1 | h1
    · have := h'.low s h1 c hc; omega
    · exact h.low s h1 c hc
  · have h1 := h'.low s hs c hc
    have h2 := Res.ok_lt (h.ok t ht) hc2
    omega
theorem Mem.call1 {B H H' : Heap} {L : List Res} {r : Res} (h : Mem B H L) (h' : Mem H H' [r]) : Mem B H' (r :: L) := h.call h'
theorem Mem.call2 {B H H' : Heap} {L : List Res} {r s : Res} (h : Mem B H L) (h' : Mem H H' [r, s]) : Mem B H' (r :: s :: L) := h.call h'
theorem Mem.grow {B H H' : Heap} {L : List Res} (h : Mem B H L) (hp : H <+: H') : Mem B H' L := h.call (L' := []) ⟨hp, by simp, by simp, .nil⟩
theorem Mem.new {B H : Heap} {L : List Res} (h : Mem B H L) (cs : List V) : Mem B (H ++ [.row cs true]) (.box H.length cs :: L) :=
  h.call (L' := [.box H.length cs]) ⟨List.prefix_append _ _, by simp [Res.ok], by simp [Res.lies], by simp⟩
theorem Mem.sub {B H : Heap} {L L' : List Res} (h : Mem B H L) (hs : L'.Sublist L) : Mem B H L' := ⟨h.pre, fun r hr => h.ok r (hs.subset hr), fun r hr => h.low r (hs.subset hr), h.sep.sublist hs⟩
theorem Mem.perm {B H : Heap} {L L' : List Res} (h : Mem B H L) (hs : L.Perm L') : Mem B H L' := ⟨h.pre, fun r hr => h.ok r (hs.mem_iff.2 hr), fun r hr => h.low r (hs.mem_iff.2 hr), (hs.pairwise_iff fun hab c h1 h2 => hab c h2 h1).1 h.sep⟩
theorem Mem.front {B H : Heap} {L L' : List Res} {r : Res} (h : Mem B H L) (t : Take L r L') : Mem B H (r :: L') := h.perm t.perm
theorem Mem.drop {B H : Heap} {L : List Res} {r : Res} (h : Mem B H (r :: L)) : Mem B H L := h.sub (List.sublist_cons_self _ _)
theorem Mem.swap {B H : Heap} {L : List Res} {r s : Res} (h : Mem B H (r :: s :: L)) : Mem B H (s :: r :: L) := h.perm (.swap _ _ _)
theorem Mem.rot {B H : Heap} {L : List Res} {r s t : Res} (h : Mem B H (r :: s :: t :: L)) : Mem B H (t :: r :: s :: L) := h.perm ((List.Perm.cons r (.swap t s L)).trans (.swap t r _))
theorem Mem.low' {A B H : Heap} {L : List Res} (h : Mem B H L) (hp : A <+: B) : Mem A H L := ⟨hp.trans h.pre, h.ok, fun r hr c hc => by have := h.low r hr c hc; have := hp.length_le; omega, h.sep⟩
/-- nil -/
theorem Mem.nil {B H : Heap} {L : List Res} (h : Mem B H L) (sz : Nat) (R : List V → α → Prop) : Mem B H (.own sz R .nils [] :: L) :=
  ⟨h.pre, fun r hr => (List.mem_cons.1 hr).elim (fun e => by subst e; exact .inl ⟨rfl, rfl⟩) (h.ok r), fun r hr c hc => (List.mem_cons.1 hr).elim (fun e => by subst e; cases hc) fun h1 => h.low r h1 c hc, List.pairwise_cons.2 ⟨fun _ _ c hc => (by cases hc), h.sep⟩⟩

theorem Mine.mem {sz : Nat} {R : List V → α → Prop} {B H : Heap} {v : V} {xs : List α} (h : Mine sz R B H v xs) : Mem B H [.own sz R v xs] :=
  ⟨h.1, fun r hr => by rcases List.mem_singleton.1 hr with rfl; exact h.2.imp id fun ⟨b, _, h⟩ => ⟨b, h⟩, fun r hr c hc => by rcases List.mem_singleton.1 hr with rfl; exact (h.blk hc).1, by simp⟩
theorem Mem.mine {sz : Nat} {R : List V → α → Prop} {B H : Heap} {v : V} {xs : List α} {L : List Res} {f : Res → List Res} (h : Mem B H L) (hh : Has L (.own sz R v xs) f) : Mine sz R B H v xs := by
  obtain ⟨L1, L2, rfl, _⟩ := hh.parts
  refine ⟨h.pre, (h.ok _ (List.mem_append_right _ List.mem_cons_self)).imp id ?_⟩
  rintro ⟨b, ho⟩
  exact ⟨b, h.low _ (List.mem_append_right _ List.mem_cons_self) b ho.blk, ho⟩
theorem Mem.sl {sz : Nat} {R : List V → α → Prop} {B H : Heap} {v : V} {xs : List α} {L : List Res} {f : Res → List Res} (h : Mem B H L) (hh : Has L (.own sz R v xs) f) : Sl sz R H v xs := (h.mine hh).sl
theorem Mem.fact {B H : Heap} {L : List Res} {F : Fact} {f : Res → List Res} (h : Mem B H L) (hh : Has L (.ro F) f) : F.p H := h.get hh
theorem Mem.mkro {B H : Heap} {F : Fact} (hp : B <+: H) (h : F.p H) (hl : ∀ c, F.S c → B.length ≤ c) : Mem B H [.ro F] :=
  ⟨hp, fun r hr => by rcases List.mem_singleton.1 hr with rfl; exact h, fun r hr c hc => by rcases List.mem_singleton.1 hr with rfl; exact hl c hc, by simp⟩
theorem Mem.row {B H : Heap} {L : List Res} {b : Nat} {cs : List V} {f : Res → List Res} (h : Mem B H L) (hh : Has L (.box b cs) f) : H[b]? = some (.row cs true) := h.get hh

/-- loads -/
theorem Mem.ld {B H : Heap} {L : List Res} {b off t : Nat} {i : TI} {cs : List V} {v : V} {f : Res → List Res} (h : Mem B H L) (hh : Has L (.box b cs) f) (hT : T t = some i) (ha : i.k.agg = false) (hq : cs[off]? = some v) : loadV T t H b off = some v := ld_cell hT ha (h.get hh) hq
theorem Mem.ldA {B H : Heap} {L : List Res} {b off t : Nat} {i : TI} {cs ds : List V} {f : Res → List Res} (h : Mem B H L) (hh : Has L (.box b cs) f) (hT : T t = some i) (ha : i.k.agg = true) (hn : off + i.size ≤ cs.length) (hq : (cs.drop off).take i.size = ds) : loadV T t H b off = some (.agg ds) := by
  refine loadV_agg hT ha ?_
  have hg : H[b]? = some (.row cs true) := h.get hh
  unfold Heap.loadN
  rw [hg]
  simp only
  rw [if_pos hn, hq]

/-- a store into a block -/
theorem Mem.put {B H : Heap} {L : List Res} {b off t : Nat} {i : TI} {cs ds cs' : List V} {v : V} {f : Res → List Res} (h : Mem B H L) (hh : Has L (.box b cs) f) (hT : T t = some i) (hc : v.cells = ds) (ht : v.isTup = false) (hl : ds.length = i.size) (hn : off + ds.length ≤ cs.length) (hs : setL cs off ds = cs') :
    ∃ H', storeV T t H b off v = some H' ∧ Mem B H' (f (.box b cs')) := by
  have hg : H[b]? = some (.row cs true) := h.get hh
  have hb := (List.getElem?_eq_some_iff.1 hg).1
  refine ⟨H.set b (.row cs' true), ?_, h.turn hh (by simp) (fun c hc hne => by rw [List.getElem?_set_ne (fun e => hne e)]) (by simp only [Res.ok]; rw [List.getElem?_set_self hb]) fun c hc => .inl hc⟩
  unfold storeV
  split
  · cases ht
  · rename_i j hT' _
    rw [hT] at hT'
    obtain rfl := Option.some.inj hT'
    rw [if_pos (by rw [hc, hl]), hc]
    unfold Heap.storeN
    rw [hg]
    simp only
    rw [if_pos hn, hs]
  · rename_i hT'
    rw [hT] at hT'
    cases hT'

/-- an element of a slice: where it lies, what is there, how it is written -/
theorem Mem.elem {sz : Nat} {R : List V → α → Prop} {B H : Heap} {v : V} {xs : List α} {L : List Res} {f : Res → List Res} (h : Mem B H L) (hh : Has L (.own sz R v xs) f) {t e : Nat} {i ie : TI} (hT : T t = some i) (hk : i.k = .slice e) (hE : T e = some ie) (hs : ie.size = sz) {k : Nat} (hk' : k < xs.length) :
    ∃ b, idxV T t v (k : Int) = some (.ptr b (k * sz)) ∧ ∀ w y, w.isTup = false → w.cells.length = sz → R w.cells y → ∃ H', storeV T e H b (k * sz) w = some H' ∧ Mem B H' (f (.own sz R v (xs.set k y))) := by
  rcases h.get hh with ⟨rfl, rfl⟩ | ⟨b, ho⟩
  · simp at hk'
  · obtain ⟨h1, h2⟩ := own_store ho hT hk hE hs hk'
    refine ⟨b, h1, fun w y e1 e2 e3 => ?_⟩
    obtain ⟨H', g1, g2, g3⟩ := h2 w y e1 e2 e3
    exact ⟨H', g1, h.turn hh g3.1 (fun c hc hne => g3.2 c hc fun e => hne (by subst e; exact ho.blk)) (.inr ⟨b, g2⟩) fun c hc => .inl hc⟩

/-- append -/
theorem Mem.app {sz : Nat} {R : List V → α → Prop} {B H : Heap} {v w : V} {xs ys : List α} {L : List Res} {f : Res → List Res} (h : Mem B H L) (hh : Has L (.own sz R v xs) f) {ie : TI} {t2 e2 : Nat} {i2 : TI} (hs : ie.size = sz) (hw : Sl sz R H w ys) (hT : T t2 = some i2) (hk : i2.k = .slice e2)
    (hb : (xs.length + ys.length) * ie.bytes ≤ 2 ^ 47 ∧ xs.length + ys.length ≤ 2 ^ 47) : ∃ n news v' H', newsOf T ie t2 w H = some (n, news) ∧ appendV ie v n news H = some (v', H') ∧ Mem B H' (f (.own sz R v' (xs ++ ys))) := by
  obtain ⟨news, h1, h2⟩ := hw.news hT hk hs
  obtain ⟨v', H', h3, h4, h5, h6⟩ := (h.mine hh).app hs h2 hb
  refine ⟨_, news, v', H', h1, h3, h.turn hh h5.1 (fun c hc hne => h5.2 c hc hne) (h4.2.imp id fun ⟨b, _, h⟩ => ⟨b, h⟩) fun c hc => h6 c hc⟩

/-- what is told one by one, as cells -/
theorem cells_of {sz : Nat} {R : List V → α → Prop} (g : α → List V) (hg : ∀ x, (g x).length = sz ∧ R (g x) x) : ∀ xs : List α, Cells sz R (xs.flatMap g) xs
  | [] => Cells.nil
  | x :: xs => by
    rw [List.flatMap_cons]
    exact Cells.cons (hg x).1 (hg x).2 (cells_of g hg xs)

theorem fill_one {place : Nat → Option (Nat × Nat)} {cs c : List V} {i : Nat} {v : V} {rest : List (Nat × V)} {off size : Nat} {r : Option (List V)} (hp : place i = some (off, size)) (ht : v.isTup = false) (hc : v.cells = c) (hl : c.length = size) (hn : Nat.ble (off + size) cs.length = true) (hr : fillV place (setL cs off c) rest = r) : fillV place cs ((i, v) :: rest) = r := by
  simp only [fillV, hp, hc]
  rw [if_pos ⟨ht, hl, Nat.le_of_ble_eq_true hn⟩]
  exact hr

section steps
variable {ops : Array Oper} {rest : List Oper} {Q : Rho → Heap → Prop} {ρ : Rho} {h h' B : Heap} {v a w : V} {k : Nat} {d : Option Nat} {op : Op} {t t' : Nat} {p : String} {af : Array Edge} {L : List Res} {f : Res → List Res} {x y : Operand} {cs ds cs' : List V} {i ie : TI}

theorem l_newM (hT : T t' = some i) (hz : i.zero = cs) (hw : ∀ b h', Mem B h' (.box b cs :: L) → wqL P T ops rest Q (ρ.put d (.ptr b 0)) h') (hM : Mem B h L := by assumption) : wqL P T ops (⟨d, .alloc t', t, p, af, none⟩ :: rest) Q ρ h := by
  subst hz; exact l_step (s_alloc hT) (hw _ _ (hM.new _))
theorem d_newM (hT : T t' = some i) (hz : i.zero = cs) (hw : ∀ b h', Mem B h' (.box b cs :: L) → wqD P T ops (k + 1) rest Q (ρ.put d (.ptr b 0)) h') (hM : Mem B h L := by assumption) : wqD P T ops k (⟨d, .alloc t', t, p, af, none⟩ :: rest) Q ρ h := by
  subst hz; exact d_step (s_alloc hT) (hw _ _ (hM.new _))
theorem l_boxM (hT : T t' = some i) (hw : ∀ b h', Mem B h' (.box b cs :: L) → wqL P T ops rest Q (ρ.put d (.ptr b 0)) h') (hM : Mem B h L := by assumption) (hx : ρ.ev x = some a := by exact eLk) (ht : a.isTup = false := by first | rfl | simp only [*]) (hc : a.cells = cs := by exact (by first | (simp only [*]; first | done | rfl) | (simp only [V.cells]; first | done | rfl))) : wqL P T ops (⟨d, .box t' x, t, p, af, none⟩ :: rest) Q ρ h := by
  exact l_step (s_boxC hT hx ht hc) (hw _ _ (hM.new _))
theorem d_boxM (hT : T t' = some i) (hw : ∀ b h', Mem B h' (.box b cs :: L) → wqD P T ops (k + 1) rest Q (ρ.put d (.ptr b 0)) h') (hM : Mem B h L := by assumption) (hx : ρ.ev x = some a := by exact eLk) (ht : a.isTup = false := by first | rfl | simp only [*]) (hc : a.cells = cs := by exact (by first | (simp only [*]; first | done | rfl) | (simp only [V.cells]; first | done | rfl))) : wqD P T ops k (⟨d, .box t' x, t, p, af, none⟩ :: rest) Q ρ h := by
  exact d_step (s_boxC hT hx ht hc) (hw _ _ (hM.new _))
theorem l_putM {b off : Nat} (hT : T t' = some i) (hw : ∀ h', Mem B h' (f (.box b cs')) → wqL P T ops rest Q (ρ.put d V.undef) h') (hM : Mem B h L := by assumption) (hx : ρ.ev x = some (.ptr b off) := by exact eLk) (hy : ρ.ev y = some a := by exact eLk) (hh : Has L (.box b cs) f := by (repeat (first | exact Has.here | apply Has.there)))
    (hc : a.cells = ds := by exact (by first | (simp only [*]; first | done | rfl) | (simp only [V.cells]; first | done | rfl))) (ht : a.isTup = false := by first | rfl | simp only [*]) (hl : ds.length = i.size := by rfl) (hn : Nat.ble (off + ds.length) cs.length = true := by rfl) (hs : setL cs off ds = cs' := by (simp only [setL, List.set_cons_zero, List.set_cons_succ, Nat.reduceAdd, Nat.zero_add]; first | done | rfl)) : wqL P T ops (⟨d, .store t' x y, t, p, af, none⟩ :: rest) Q ρ h := by
  obtain ⟨H', h1, h2⟩ := hM.put hh hT hc ht hl (Nat.le_of_ble_eq_true hn) hs
  exact l_step (s_store hx hy h1) (hw _ h2)
theorem d_putM {b off : Nat} (hT : T t' = some i) (hw : ∀ h', Mem B h' (f (.box b cs')) → wqD P T ops (k + 1) rest Q (ρ.put d V.undef) h') (hM : Mem B h L := by assumption) (hx : ρ.ev x = some (.ptr b off) := by exact eLk) (hy : ρ.ev y = some a := by exact eLk) (hh : Has L (.box b cs) f := by (repeat (first | exact Has.here | apply Has.there)))
    (hc : a.cells = ds := by exact (by first | (simp only [*]; first | done | rfl) | (simp only [V.cells]; first | done | rfl))) (ht : a.isTup = false := by first | rfl | simp only [*]) (hl : ds.length = i.size := by rfl) (hn : Nat.ble (off + ds.length) cs.length = true := by rfl) (hs : setL cs off ds = cs' := by (simp only [setL, List.set_cons_zero, List.set_cons_succ, Nat.reduceAdd, Nat.zero_add]; first | done | rfl)) : wqD P T ops k (⟨d, .store t' x y, t, p, af, none⟩ :: rest) Q ρ h := by
  obtain ⟨H', h1, h2⟩ := hM.put hh hT hc ht hl (Nat.le_of_ble_eq_true hn) hs
  exact d_step (s_store hx hy h1) (hw _ h2)
/-- a store by what it does -/
theorem l_stM {b off : Nat} (hst : storeV T t' h b off a = some h') (hw : wqL P T ops rest Q (ρ.put d V.undef) h') (hx : ρ.ev x = some (.ptr b off) := by exact eLk) (hy : ρ.ev y = some a := by exact eLk) : wqL P T ops (⟨d, .store t' x y, t, p, af, none⟩ :: rest) Q ρ h := l_step (s_store hx hy hst) hw
theorem d_stM {b off : Nat} (hst : storeV T t' h b off a = some h') (hw : wqD P T ops (k + 1) rest Q (ρ.put d V.undef) h') (hx : ρ.ev x = some (.ptr b off) := by exact eLk) (hy : ρ.ev y = some a := by exact eLk) : wqD P T ops k (⟨d, .store t' x y, t, p, af, none⟩ :: rest) Q ρ h := d_step (s_store hx hy hst) hw

/-- a slice that is made of zeros -/
theorem l_makeM {e : Nat} {kx ky : IntKind} {n : Nat} {m c : Int} {z : α} (sz : Nat) (R : List V → α → Prop) (hT : T t' = some i) (hk : i.k = .slice e) (hE : T e = some ie) (hR : R ie.zero z) (hz : ie.zero.length = sz) (hs : ie.size = sz) (hm : m = n) (hc : c = n) (hb : (ie.bytes : Int) * n ≤ 2 ^ 48 ∧ n ≤ 9223372036854775807)
    (hw : ∀ v h', Mem B h' (.own sz R v (List.replicate n z) :: L) → wqL P T ops rest Q (ρ.put d v) h') (hM : Mem B h L := by assumption) (hx : ρ.ev x = some (.int kx m) := by exact eLk) (hy : ρ.ev y = some (.int ky c) := by exact eLk) : wqL P T ops (⟨d, .makeSlice t' x y, t, p, af, none⟩ :: rest) Q ρ h := by
  subst hm; subst hc; subst hs
  refine l_step (s_makeSlice hT hk hE hx hy ⟨by omega, by omega, hb.1, by simp only [IntKind.max, IntKind.signed, IntKind.bits]; omega⟩) ?_
  have h1 := mine_make (R := R) (t := true) (List.prefix_refl h) (cells_zeros (sz := ie.size) (z := ie.zero) (x := z) hz hR n)
  rw [List.length_replicate] at h1
  exact hw _ _ (hM.call h1.mem)
theorem d_makeM {e : Nat} {kx ky : IntKind} {n : Nat} {m c : Int} {z : α} (sz : Nat) (R : List V → α → Prop) (hT : T t' = some i) (hk : i.k = .slice e) (hE : T e = some ie) (hR : R ie.zero z) (hz : ie.zero.length = sz) (hs : ie.size = sz) (hm : m = n) (hc : c = n) (hb : (ie.bytes : Int) * n ≤ 2 ^ 48 ∧ n ≤ 9223372036854775807)
    (hw : ∀ v h', Mem B h' (.own sz R v (List.replicate n z) :: L) → wqD P T ops (k + 1) rest Q (ρ.put d v) h') (hM : Mem B h L := by assumption) (hx : ρ.ev x = some (.int kx m) := by exact eLk) (hy : ρ.ev y = some (.int ky c) := by exact eLk) : wqD P T ops k (⟨d, .makeSlice t' x y, t, p, af, none⟩ :: rest) Q ρ h := by
  subst hm; subst hc; subst hs
  refine d_step (s_makeSlice hT hk hE hx hy ⟨by omega, by omega, hb.1, by simp only [IntKind.max, IntKind.signed, IntKind.bits]; omega⟩) ?_
  have h1 := mine_make (R := R) (t := true) (List.prefix_refl h) (cells_zeros (sz := ie.size) (z := ie.zero) (x := z) hz hR n)
  rw [List.length_replicate] at h1
  exact hw _ _ (hM.call h1.mem)

/-- a slice of what is told -/
theorem l_sliceM {e n : Nat} {ps : Array (Nat × Operand)} {vs : List (Nat × V)} {sz : Nat} (R : List V → α → Prop) (xs : List α) (cs : List V) (hT : T t' = some i) (hk : i.k = .slice e) (hE : T e = some ie) (hn : n = xs.length) (hR : Cells sz R cs xs) (hl : n * sz ≤ 2 ^ 24)
    (hw : ∀ v h', Mem B h' (.own sz R v xs :: L) → wqL P T ops rest Q (ρ.put d v) h') (hM : Mem B h L := by assumption) (hp : evParts ρ.ev ps.toList = some vs := by exact eLk) (hf : fillV (rowPlace ie.size n) (zeros ie.zero n) vs = some cs := by first | rfl | ((repeat (refine fill_one (by rfl) (by first | rfl | simp only [*]) (by first | (simp only [*]; first | done | rfl) | (simp only [V.cells]; first | done | rfl)) (by rfl) (by rfl) ?_)); simp only [fillV, setL, List.set_cons_zero, List.set_cons_succ, Nat.reduceAdd, Nat.zero_add]; first | done | rfl)) (hs : ie.size = sz := by rfl) : wqL P T ops (⟨d, .buildSlice t' n ps, t, p, af, none⟩ :: rest) Q ρ h := by
  subst hn; subst hs
  refine l_step (s_buildSlice hT hk hE hp hl hf) ?_
  exact hw _ _ (hM.call (mine_make (R := R) (t := true) (List.prefix_refl h) hR).mem)
theorem d_sliceM {e n : Nat} {ps : Array (Nat × Operand)} {vs : List (Nat × V)} {sz : Nat} (R : List V → α → Prop) (xs : List α) (cs : List V) (hT : T t' = some i) (hk : i.k = .slice e) (hE : T e = some ie) (hn : n = xs.length) (hR : Cells sz R cs xs) (hl : n * sz ≤ 2 ^ 24)
    (hw : ∀ v h', Mem B h' (.own sz R v xs :: L) → wqD P T ops (k + 1) rest Q (ρ.put d v) h') (hM : Mem B h L := by assumption) (hp : evParts ρ.ev ps.toList = some vs := by exact eLk) (hf : fillV (rowPlace ie.size n) (zeros ie.zero n) vs = some cs := by first | rfl | ((repeat (refine fill_one (by rfl) (by first | rfl | simp only [*]) (by first | (simp only [*]; first | done | rfl) | (simp only [V.cells]; first | done | rfl)) (by rfl) (by rfl) ?_)); simp only [fillV, setL, List.set_cons_zero, List.set_cons_succ, Nat.reduceAdd, Nat.zero_add]; first | done | rfl)) (hs : ie.size = sz := by rfl) : wqD P T ops k (⟨d, .buildSlice t' n ps, t, p, af, none⟩ :: rest) Q ρ h := by
  subst hn; subst hs
  refine d_step (s_buildSlice hT hk hE hp hl hf) ?_
  exact hw _ _ (hM.call (mine_make (R := R) (t := true) (List.prefix_refl h) hR).mem)

/-- append -/
theorem l_appM {sz : Nat} {R : List V → α → Prop} {xs ys : List α} {b : V} {zs : Array Operand} {t1 t2 e e2 : Nat} {i2 : TI} (hw2 : Sl sz R h b ys)
    (hw : ∀ v' h', Mem B h' (f (.own sz R v' (xs ++ ys))) → wqL P T ops rest Q (ρ.put d v') h') (hM : Mem B h L := by assumption) (hx : evs ρ.ev zs.toList = some [a, b] := by exact eLk) (hh : Has L (.own sz R a xs) f := by (repeat (first | exact Has.here | apply Has.there))) (hT : T t1 = some i := by rfl) (hk : i.k = .slice e := by rfl) (hE : T e = some ie := by rfl) (hs : ie.size = sz := by rfl) (hT2 : T t2 = some i2 := by rfl) (hk2 : i2.k = .slice e2 := by rfl) (hb : (xs.length + ys.length) * ie.bytes ≤ 2 ^ 47 ∧ xs.length + ys.length ≤ 2 ^ 47 := by (first | (simp only [List.length_nil, List.length_cons, List.length_append, List.length_map, List.length_range, List.length_take, List.length_set, Nat.zero_add, Nat.add_zero]; omega) | omega | (simp only [*]; omega))) :
    wqL P T ops (⟨d, .call { callee := .builtin .append, args := zs, argTypes := #[t1, t2] }, t, p, af, none⟩ :: rest) Q ρ h := by
  obtain ⟨n, news, v', H', h1, h2, h3⟩ := hM.app hh (ie := ie) hs hw2 hT2 hk2 hb
  exact l_step (s_append hx hT hk hE h1 h2) (hw _ _ h3)
theorem d_appM {sz : Nat} {R : List V → α → Prop} {xs ys : List α} {b : V} {zs : Array Operand} {t1 t2 e e2 : Nat} {i2 : TI} (hw2 : Sl sz R h b ys)
    (hw : ∀ v' h', Mem B h' (f (.own sz R v' (xs ++ ys))) → wqD P T ops (k + 1) rest Q (ρ.put d v') h') (hM : Mem B h L := by assumption) (hx : evs ρ.ev zs.toList = some [a, b] := by exact eLk) (hh : Has L (.own sz R a xs) f := by (repeat (first | exact Has.here | apply Has.there))) (hT : T t1 = some i := by rfl) (hk : i.k = .slice e := by rfl) (hE : T e = some ie := by rfl) (hs : ie.size = sz := by rfl) (hT2 : T t2 = some i2 := by rfl) (hk2 : i2.k = .slice e2 := by rfl) (hb : (xs.length + ys.length) * ie.bytes ≤ 2 ^ 47 ∧ xs.length + ys.length ≤ 2 ^ 47 := by (first | (simp only [List.length_nil, List.length_cons, List.length_append, List.length_map, List.length_range, List.length_take, List.length_set, Nat.zero_add, Nat.add_zero]; omega) | omega | (simp only [*]; omega))) :
    wqD P T ops k (⟨d, .call { callee := .builtin .append, args := zs, argTypes := #[t1, t2] }, t, p, af, none⟩ :: rest) Q ρ h := by
  obtain ⟨n, news, v', H', h1, h2, h3⟩ := hM.app hh (ie := ie) hs hw2 hT2 hk2 hb
  exact d_step (s_append hx hT hk hE h1 h2) (hw _ _ h3)

theorem eLkM {α : Type} {a b : α} (h : a = b := by exact (by first | assumption | (simp only [*]; done) | (simp only [*]; rfl) | exact Mem.ld (by assumption) (by (repeat (first | exact Has.here | apply Has.there))) (by rfl) (by rfl) (by rfl) | exact Mem.ldA (by assumption) (by (repeat (first | exact Has.here | apply Has.there))) (by rfl) (by rfl) (by (simp only [List.length_cons, List.length_nil, List.length_set]; omega)) (by (simp only [List.drop_zero, List.drop_succ_cons, List.take_succ_cons, List.take_zero, List.take_nil]; first | done | rfl)) | exact loadV_one (by rfl) (by rfl) (by assumption) | exact loadV_agg (by rfl) (by rfl) (by assumption))) : a = b := h
theorem does_goM (hs : Does T ρ h op v h := by first | exact s_move eLk | exact s_assign eLk | exact s_bin eLk eLk eLkN | exact s_builtin eLk eLkA | exact s_field eLk (by rfl) | exact s_index eLk eLk eLkA | exact s_fieldv eLk (by rfl) | exact s_load eLk eLkM | exact s_nil eLk | exact s_pick1 eLkB eLk eLk | exact s_pick0 eLkB eLk eLk | exact s_pick eLk eLk eLk (by simp only [reduceIte, Bool.false_eq_true, *]; first | done | rfl) | exact s_un eLk (by rfl) | exact s_extract eLk (by rfl) | exact s_func rfl eLk | exact s_conv (by rfl) (by rfl) rfl eLk | exact s_build (by rfl) rfl eLk (by first | ((repeat (refine fill_one (by rfl) (by first | rfl | simp only [*]) (by first | (simp only [*]; first | done | rfl) | (simp only [V.cells]; first | done | rfl)) (by rfl) (by rfl) ?_)); simp only [fillV, setL, List.set_cons_zero, List.set_cons_succ, Nat.reduceAdd, Nat.zero_add]; first | done | rfl) | rfl) | exact s_slice (by rfl) rfl (by rfl) eLk eLk eLk eLk eLkA) : Does T ρ h op v h := hs
/-- steps that leave the memory as it is; loads look into the parts -/
theorem l_goM (hw : wqL P T ops rest Q (ρ.put d v) h) (hs : Does T ρ h op v h := by exact does_goM) : wqL P T ops (⟨d, op, t, p, af, none⟩ :: rest) Q ρ h := l_step hs hw
theorem d_goM (hw : wqD P T ops (k + 1) rest Q (ρ.put d v) h) (hs : Does T ρ h op v h := by exact does_goM) : wqD P T ops k (⟨d, op, t, p, af, none⟩ :: rest) Q ρ h := d_step hs hw

/-- a test whose outcome is known -/
theorem cond_pl {x y : Code} {Q : Exit → Rho → Heap → Prop} {c : Operand} (hw : wq P T (.cond c x y) Q ρ h) : wq P T (.cond c x y) Q ρ h := hw
theorem cond_yes {x y : Code} {Q : Exit → Rho → Heap → Prop} {c : Operand} (hw : wq P T x Q ρ h) (hb : ρ.ev c = some (.bool true) := by exact eLkB) : wq P T (.cond c x y) Q ρ h := wq_cond hb (fun _ => hw) (fun h => by cases h)
theorem cond_no {x y : Code} {Q : Exit → Rho → Heap → Prop} {c : Operand} (hw : wq P T y Q ρ h) (hb : ρ.ev c = some (.bool false) := by exact eLkB) : wq P T (.cond c x y) Q ρ h := wq_cond hb (fun h => by cases h) (fun _ => hw)

theorem goM {p q : Prop} (hq : q) (h : Kept q → p := by intro hq; (repeat (first | (refine l_pl ?_; refine l_goM ?_) | (refine d_pl ?_; refine d_goM ?_) | (refine l_gd ?_; first | refine l_onG ?_ | refine l_offG ?_) | (refine d_gd ?_; first | refine d_onG ?_ | refine d_offG ?_) | (refine cond_pl ?_; first | refine cond_yes ?_ | refine cond_no ?_) | refine wq_seq ?_ | refine wq_line ?_ | refine wq_draw (by decide +kernel) ?_ | refine wq_block ?_ | refine l_nil ?_ | refine d_nil ?_ | refine wq_skip ?_ | refine wq_ret ?_ | refine wq_exit ?_ | refine th_normal ?_ | refine th_ret ?_ | refine th_exit ?_ | refine bk_normal ?_ | refine bk_ret ?_ | refine bk_exit ?_ | refine bk_other rfl ?_)); exact hq.val) : p := h ⟨hq⟩

/-- ends -/
theorem res_tmp {t : Nat} (hv : ρ.ev (.tmp t) = some v) : resR T ρ h (.tmp t) = some v := hv
theorem res_cell {a t b off : Nat} (ha : ρ.ev (.tmp a) = some (.ptr b off)) (hl : loadV T t h b off = some v) : resR T ρ h (.cell a t) = some v := by
  have ha' : ρ a = .ptr b off := by simpa [Rho.ev] using ha
  simp only [resR, ha']
  unfold loadV at hl
  cases hT : T t with
  | none => rw [hT] at hl; cases hl
  | some i => rw [hT] at hl; exact hl
theorem end_1 {r : ResultVar} {R : V → Heap → Prop} {x : Exit} (hx : x = .ret ∨ x = .normal) (hR : R v h) (h1 : resR T ρ h r = some v := by (first | exact res_tmp eLk | exact res_cell eLk eLkM)) : EndR T [r] R x ρ h := by
  rcases hx with rfl | rfl <;> exact ⟨v, by simp only [resRf, resRs, h1], hR⟩
theorem end_2 {r1 r2 : ResultVar} {R : V → Heap → Prop} {x : Exit} {v1 v2 : V} (hx : x = .ret ∨ x = .normal) (hR : R (.tup [v1, v2]) h) (h1 : resR T ρ h r1 = some v1 := by (first | exact res_tmp eLk | exact res_cell eLk eLkM)) (h2 : resR T ρ h r2 = some v2 := by (first | exact res_tmp eLk | exact res_cell eLk eLkM)) : EndR T [r1, r2] R x ρ h := by
  rcases hx with rfl | rfl <;> exact ⟨_, by simp only [resRf, resRs, h1, h2], hR⟩
theorem end_3 {r1 r2 r3 : ResultVar} {R : V → Heap → Prop} {x : Exit} {v1 v2 v3 : V} (hx : x = .ret ∨ x = .normal) (hR : R (.tup [v1, v2, v3]) h) (h1 : resR T ρ h r1 = some v1 := by (first | exact res_tmp eLk | exact res_cell eLk eLkM)) (h2 : resR T ρ h r2 = some v2 := by (first | exact res_tmp eLk | exact res_cell eLk eLkM)) (h3 : resR T ρ h r3 = some v3 := by (first | exact res_tmp eLk | exact res_cell eLk eLkM)) : EndR T [r1, r2, r3] R x ρ h := by
  rcases hx with rfl | rfl <;> exact ⟨_, by simp only [resRf, resRs, h1, h2, h3], hR⟩
end steps

/-- a contract over the memory by parts -/
theorem call_mem (fit : Fits P T) (hm : P.follows .mixedOrders = true) {f : Nat} {fn : Func} {c : Code} {args : List V} {H : Heap} {R : V → Heap → Prop} {rs : List ResultVar} (hf : P.funcs[f]? = some fn) (hb : fn.body = some c) (hn : (fn.name == "runtime.NumGoroutine") = false)
    (hrs : fn.results = ⟨rs⟩) (hok : funcOk fn c args.length = true) (h : Mem H H [] → wq P T c (EndR T rs R) (rho0 args) H) : ∃ v H', Call P f args H v H' ∧ R v H' := by
  obtain ⟨v, H', h1, h2⟩ := call_wq fit hm hf hb hn hrs hok (h (Mem.start H))
  exact ⟨v, H', h2, h1⟩
/-- a function that answers plainly -/
theorem call_pure (fit : Fits P T) (hm : P.follows .mixedOrders = true) {f : Nat} {fn : Func} {c : Code} {args : List V} {H : Heap} {v : V} {rs : List ResultVar} (hf : P.funcs[f]? = some fn) (hb : fn.body = some c) (hn : (fn.name == "runtime.NumGoroutine") = false)
    (hrs : fn.results = ⟨rs⟩) (hok : funcOk fn c args.length = true) (hv : v.plain = true) (h : Mem H H [] → wq P T c (EndR T rs fun v' h' => v' = v ∧ H <+: h') (rho0 args) H) : Call P f args H v H := call_plain fit hm hf hb hn hrs hok hv (h (Mem.start H))
/-- a function that turns what it is handed -/
theorem call_turn (fit : Fits P T) (hm : P.follows .mixedOrders = true) {f : Nat} {fn : Func} {c : Code} {args : List V} {B H : Heap} {L : List Res} {R : V → Heap → Prop} {rs : List ResultVar} (hM : Mem B H L) (hf : P.funcs[f]? = some fn) (hb : fn.body = some c) (hn : (fn.name == "runtime.NumGoroutine") = false)
    (hrs : fn.results = ⟨rs⟩) (hok : funcOk fn c args.length = true) (h : Mem B H L → wq P T c (EndR T rs R) (rho0 args) H) : ∃ v H', Call P f args H v H' ∧ R v H' := by
  obtain ⟨v, H', h1, h2⟩ := call_wq fit hm hf hb hn hrs hok (h hM)
  exact ⟨v, H', h2, h1⟩
/-- parts by their names alone -/
theorem Mem.slG {α : Type} {sz : Nat} {R : List V → α → Prop} {B H : Heap} {v : V} {xs : List α} {L : List Res} {f : Res → List Res} (h : Mem B H L) (hh : Has L (.own sz R v xs) f := by (repeat (first | exact Has.here | apply Has.there))) : Sl sz R H v xs := h.sl hh
theorem Mem.factG {B H : Heap} {L : List Res} {F : Fact} {f : Res → List Res} (h : Mem B H L) (hh : Has L (.ro F) f := by (repeat (first | exact Has.here | apply Has.there))) : F.p H := h.fact hh
theorem Mem.subG {B H : Heap} {L L' : List Res} (h : Mem B H L) (hs : L'.Sublist L := by (repeat (first | exact List.Sublist.slnil | exact List.Sublist.refl _ | refine List.Sublist.cons_cons _ ?_ | refine List.Sublist.cons _ ?_))) : Mem B H L' := h.sub hs
theorem Mem.frontG {B H : Heap} {L L' : List Res} {r : Res} (h : Mem B H L) (t : Take L r L' := by (repeat (first | exact Take.here | apply Take.there))) : Mem B H (r :: L') := h.front t
end Go.Proofs.Ytjageapgbpdlhaa.VM

/- Layer 20: the document's FirstMember. -/
namespace Go.Proofs.Ytjageapgbpdlhaa.VM
open Go
set_option linter.unusedVariables false
set_option linter.unusedSimpArgs false
attribute [local irreducible] wq wqL wqD wqE wqO Th Bk EndR
set_option maxHeartbeats 8000000

abbrev memC (w v : V) (r m t h : Int) : List V := [w, v, .int .i64 r, .int .i64 m, .int .i64 t, .int .i64 h]
abbrev zeroMem : List V := [.nils, .nils, .int .i64 0, .int .i64 0, .int .i64 0, .int .i64 0]
def firstW (c : Cfg) (id : Int) : List Int := initL c.i.toNat c.h.toNat c.seed.toNat (50000 + 16 * id.toNat)
def firstV (c : Cfg) : List Int := List.replicate (netSize c.i.toNat c.h.toNat) 0
def firstR (c : Cfg) (id : Int) : Int := rateN c.seed.toNat (40000 + 2 * id.toNat)
def firstM (c : Cfg) (id : Int) : Int := momN c.seed.toNat (40000 + 2 * id.toNat)
def firstS (c : Cfg) (id : Int) : List Int := putL (firstW c id) (firstV c) (firstR c id) (firstM c id) 0

theorem shape_ab {i h : Int} (hs : shapeMay i h = true) : ∃ a b : Nat, i = a ∧ h = b ∧ 1 ≤ a ∧ a ≤ 3 ∧ 1 ≤ b ∧ b ≤ 3 := by
  simp only [shapeMay, Bool.and_eq_true, within_iff] at hs
  exact ⟨i.toNat, h.toNat, by omega, by omega, by omega, by omega, by omega, by omega⟩
theorem size16 {a b : Nat} (ha : a ≤ 3) (hb : b ≤ 3) : netSize a b ≤ 16 := by have := small_size ha hb; unfold netSize; omega
theorem zeros_vec {n : Nat} (hn : n ≤ 16) : vecMay (List.replicate n 0) = true := by
  simp only [vecMay, Bool.and_eq_true, decide_eq_true_eq, List.all_eq_true]
  refine ⟨by simpa using hn, fun b hb => ?_⟩
  have := (List.mem_replicate.1 hb).2
  subst this; rfl

/-- a first checkpoint may be and fits -/
theorem first_fits {c : Cfg} (hc : cfgMay c = true) (id : Int) : memFits c.i c.h (firstW c id) (firstV c) (firstR c id) (firstM c id) 0 = true := by
  obtain ⟨_, hloss, _⟩ := cfgMay_split hc
  obtain ⟨hs, _⟩ := lossMay_split hloss
  obtain ⟨a, b, ha, hb, ha1, ha3, hb1, hb3⟩ := shape_ab hs
  have h16 := size16 ha3 hb3
  have hv := initL_vec (s := c.seed.toNat) (f := 50000 + 16 * id.toNat) h16
  have hl := initL_len a b c.seed.toNat (50000 + 16 * id.toNat)
  have hz := zeros_vec h16
  have hhy := hyper_re c.seed.toNat (40000 + 2 * id.toNat)
  have hpos : 0 < netSize a b := by unfold netSize; omega
  have hcast := size_cast a b
  have hs' : shapeMay (a : Int) (b : Int) = true := by rw [← ha, ← hb]; exact hs
  unfold memFits chkMay firstW firstV firstR firstM
  rw [ha, hb] at *
  simp only [Int.toNat_natCast]
  simp only [alike, List.all_cons, List.all_nil, hv, hl, hz, hhy, hs', fits, List.length_replicate, hpos]
  simp only [hcast, beq_self_eq_true]
  simp

theorem refFirst_good (H : Heap) (c : Cfg) (rv : V) (id : Int) (hr : Rows H rv c.rows) (hc : cfgMay c = true) (hid : 0 ≤ id ∧ id < c.m) :
    ∃ w H', Call Try.prog 37 [.agg (cfgC c rv), .int .i64 id] H w H' ∧ ∃ u1 u2, w = .tup [.agg (memC u1 u2 (firstR c id) (firstM c id) 0 0), .str (strOf (firstS c id)), .int .i64 0] ∧ Mem H H' [.own 1 intC u2 (firstV c), .own 1 intC u1 (firstW c id)] := by
  have hfit := first_fits hc id
  simp only [memFits, Bool.and_eq_true] at hfit
  obtain ⟨hchk, _⟩ := hfit
  obtain ⟨hm2, hloss, hseed, _⟩ := cfgMay_split hc
  obtain ⟨hs, hr1, hr8, hrok⟩ := lossMay_split hloss
  obtain ⟨a, b, ha, hb, ha1, ha3, hb1, hb3⟩ := shape_ab hs
  have h16 := size16 ha3 hb3
  obtain ⟨s, hse⟩ : ∃ s : Nat, c.seed = s := ⟨c.seed.toNat, by omega⟩
  obtain ⟨d, hd⟩ : ∃ d : Nat, id = d := ⟨id.toNat, by omega⟩
  have hWl : (firstW c id).length = netSize a b := by unfold firstW; rw [ha, hb]; simp only [Int.toNat_natCast]; exact initL_len _ _ _ _
  have hZr : firstV c = List.replicate (netSize a b) 0 := by unfold firstV; rw [ha, hb]; simp only [Int.toNat_natCast]
  have hW' : initL a b s (50000 + 16 * d) = firstW c id := by unfold firstW; rw [ha, hb, hse, hd]; simp only [Int.toNat_natCast]
  have hR' : ((rateN s (40000 + 2 * d) : Nat) : Int) = firstR c id := by unfold firstR; rw [hse, hd]; simp only [Int.toNat_natCast]
  have hM' : ((momN s (40000 + 2 * d) : Nat) : Int) = firstM c id := by unfold firstM; rw [hse, hd]; simp only [Int.toNat_natCast]
  have hS' : putL (firstW c id) (firstV c) (firstR c id) (firstM c id) 0 = firstS c id := rfl
  have w0 : IntKind.i64.wrap (c.m - 1) = c.m - 1 := wrap_i64 (by omega) (by omega)
  have w1 : IntKind.i64.wrap (16 * id) = 16 * id := wrap_i64 (by omega) (by omega)
  have w2 : IntKind.i64.wrap (50000 + 16 * id) = ((50000 + 16 * d : Nat) : Int) := by rw [wrap_i64 (by omega) (by omega)]; omega
  have lrow : ∀ r ∈ c.rows, r.1.length ≤ 2 ^ 47 := fun rr hrr => by
    have := hrok rr hrr
    simp only [rowOk, Bool.and_eq_true] at this
    have := vecMay_len (feeds_split this.1).2
    omega
  generalize firstW c id = W at *
  generalize firstV c = Z at *
  generalize firstR c id = r at *
  generalize firstM c id = m at *
  generalize firstS c id = S at *
  refine call_mem fit mixed Try.func37 rfl rfl rfl (by kernel_rfl) fun hM => ?_
  refine wq_seq (wq_line ?_)
  refine l_boxM T52 fun b1 H1 hM => ?_
  refine l_newM (cs := zeroMem) T69 rfl fun b2 H2 hM => ?_
  have c1 := refConfMay_ H2 c rv (hr.mono hM.pre) (by omega) lrow
  rw [hc] at c1
  have c2 := upTo12_ H2 id 0 (c.m - 1)
  rw [within_iff.2 ⟨hid.1, by omega⟩] at c2
  obtain ⟨u1, H3, c3, m3⟩ := refInit_ H2 a b s (50000 + 16 * d) ⟨ha1, ha3⟩ ⟨hb1, hb3⟩ (by omega) (by omega)
  rw [hW'] at m3
  rw [← ha, ← hb, ← hse] at c3
  have c4 := refFirstHyper_ H3 s d (by omega) (by omega)
  rw [hR', hM', ← hse, ← hd] at c4
  have hlen := m3.sl.len T24 rfl
  rw [hWl] at hlen
  have t1 := m3.sl.cells
  have t2 := m3.sl.two
  clear hid hm2 hloss hseed hs hr1 hr8 hrok ha hb ha1 ha3 hb1 hb3 hse hd hW' hR' hM' hWl lrow
  refine goM ?_
  refine l_callG c1 ?_
  refine goM ?_
  refine l_callG c2 ?_
  refine goM ?_
  refine l_callG c3 ?_
  replace hM := hM.call1 m3.mem
  refine goM ?_
  refine l_callG c4 ?_
  refine goM ?_
  refine l_newM (cs := [.int .i64 0, .int .i64 0]) T54 rfl fun b3 H4 hM => ?_
  refine l_putM T54 fun H5 hM => ?_
  refine goM ?_
  refine d_makeM 1 intC T24 rfl T3 (n := netSize a b) (z := 0) rfl rfl rfl rfl rfl ⟨by show (8 : Int) * _ ≤ _; omega, by omega⟩ fun u2 H6 hM => ?_
  rw [← hZr] at hM
  have t3 := (hM.sl .here).cells
  refine goM ?_
  refine d_newM (cs := zeroChk) T56 rfl fun b4 H7 hM => ?_
  refine d_putM T56 fun H8 hM => ?_
  have c5 := refPut_good H8 u1 u2 W Z r m 0 (hM.slG) (hM.slG) hchk
  rw [hS'] at c5
  refine goM ?_
  refine l_callG c5 ?_
  refine goM ?_
  refine l_putM T69 fun H9 hM => ?_
  refine goM ?_
  exact end_3 (by first | exact .inl rfl | exact .inr rfl) ⟨_, _, rfl, hM.subG⟩
end Go.Proofs.Ytjageapgbpdlhaa.VM

/- Layer 21: what a step of training answers, whatever comes in: the program's One, the document's Train. -/
namespace Go.Proofs.Ytjageapgbpdlhaa.VM
open Go
set_option linter.unusedVariables false
set_option linter.unusedSimpArgs false
attribute [local irreducible] wq wqL wqD wqE wqO Th Bk EndR
set_option maxHeartbeats 8000000

/-- a checkpoint -/
structure Chk where
  ws : List Int
  vs : List Int
  r : Int
  m : Int
  t : Int
abbrev kC (w v : V) (k : Chk) : List V := [w, v, .int .i64 k.r, .int .i64 k.m, .int .i64 k.t]
abbrev noChk : Chk := ⟨[], [], 0, 0, 0⟩
def kMay (k : Chk) : Bool := chkMay k.ws k.vs k.r k.m k.t
def kFits (c : Cfg) (k : Chk) : Bool := memFits c.i c.h k.ws k.vs k.r k.m k.t
def kEq (a b : Chk) : Bool := eqChk a.ws a.vs a.r a.m a.t b.ws b.vs b.r b.m b.t
theorem kEq_self (a : Chk) : kEq a a = true := by simp [kEq, eqChk, eqHyper]
theorem kEq_iff {a b : Chk} : kEq a b = true ↔ a = b := by
  cases a; cases b
  simp [kEq, eqChk, eqHyper, and_assoc]
/-- where a checkpoint's numbers lie -/
structure KAt (H : Heap) (w v : V) (k : Chk) : Prop where
  ws : Sl 1 intC H w k.ws
  vs : Sl 1 intC H v k.vs
theorem KAt.mono {H H' : Heap} {w v : V} {k : Chk} (hp : H <+: H') (h : KAt H w v k) : KAt H' w v k := ⟨h.ws.mono hp, h.vs.mono hp⟩
theorem Mem.k {B H : Heap} {L : List Res} {w v : V} {k : Chk} {f g : Res → List Res} (h : Mem B H L) (h1 : Has L (.own 1 intC w k.ws) f) (h2 : Has L (.own 1 intC v k.vs) g) : KAt H w v k := ⟨h.sl h1, h.sl h2⟩
structure Chk.Fit (k : Chk) : Prop where
  ws : k.ws.length * 8 ≤ 140737488351232
  vs : k.vs.length * 8 ≤ 140737488351232
structure Cfg.Fit (c : Cfg) : Prop where
  rows : c.rows.length * 32 ≤ 140737488351232
  row : ∀ r ∈ c.rows, r.1.length * 8 ≤ 140737488351232

def trainOk (c : Cfg) (id : Int) (k : Chk) : Bool := cfgMay c && within id 0 (IntKind.i64.wrap (c.m - 1)) && kFits c k
def trainK (c : Cfg) (id : Int) (k : Chk) : Chk := ⟨nextL k.r k.m k.ws k.vs (trainG c id k.ws k.t), speedL k.m k.ws k.vs (trainG c id k.ws k.t), k.r, k.m, k.t + 1⟩
def trainR (c : Cfg) (id : Int) (k : Chk) : Chk × Int :=
  if trainOk c id k then if k.t ≥ c.total then (noChk, 2101) else (trainK c id k, 0) else (noChk, 2100)

theorem cells_ints (xs : List Int) : Cells 1 intC (xs.flatMap fun x => [V.int .i64 x]) xs := cells_of (R := intC) (fun x => [V.int .i64 x]) (fun x => ⟨rfl, rfl⟩) xs
theorem cells_rows (xs : List (V × Int)) : Cells 2 rowC (xs.flatMap fun p => [p.1, V.int .i64 p.2]) xs := cells_of (R := rowC) (fun p => [p.1, V.int .i64 p.2]) (fun x => ⟨rfl, rfl⟩) xs

theorem two_mem {H H' : Heap} {b1 b2 : Nat} {u1 u2 : V} {xs ys : List Int} (hp : H <+: H') (h1 : H.length ≤ b1) (h2 : H.length ≤ b2) (hne : b1 ≠ b2) (o1 : Own 1 intC H' b1 u1 xs) (o2 : Own 1 intC H' b2 u2 ys) : Mem H H' [.own 1 intC u1 xs, .own 1 intC u2 ys] := by
  have e1 := o1.blk
  have e2 := o2.blk
  refine ⟨hp, fun r hr => ?_, fun r hr c hc => ?_, ?_⟩
  · simp at hr
    rcases hr with rfl | rfl
    · exact .inr ⟨_, o1⟩
    · exact .inr ⟨_, o2⟩
  · simp at hr
    rcases hr with rfl | rfl
    · have := e1.symm.trans hc; cases this; exact h1
    · have := e2.symm.trans hc; cases this; exact h2
  · simp only [List.pairwise_cons, List.mem_singleton, forall_eq, List.not_mem_nil, false_implies, implies_true, List.Pairwise.nil, and_true]
    intro c hc hc2
    have a := e1.symm.trans hc
    have b := e2.symm.trans hc2
    cases a; cases b; exact hne rfl

theorem two_mine {H H' : Heap} {u1 u2 : V} {xs ys : List Int} (h1 : Mine 1 intC H H' u1 xs) (h2 : Mine 1 intC H H' u2 ys) (ha : Apart u1 u2) : Mem H H' [.own 1 intC u1 xs, .own 1 intC u2 ys] := by
  have m1 := h1.mem
  have m2 := h2.mem
  refine ⟨h1.1, fun r hr => ?_, fun r hr => ?_, ?_⟩
  · simp at hr
    rcases hr with rfl | rfl
    · exact m1.ok _ (by simp)
    · exact m2.ok _ (by simp)
  · simp at hr
    rcases hr with rfl | rfl
    · exact m1.low _ (by simp)
    · exact m2.low _ (by simp)
  · simp only [List.pairwise_cons, List.mem_singleton, forall_eq, List.not_mem_nil, false_implies, implies_true, List.Pairwise.nil, and_true]
    intro c hc hc2
    exact ha c c hc hc2 rfl

theorem wrap_m {m : Int} (h : 2 ≤ m ∧ m ≤ 8) : IntKind.i64.wrap (m - 1) = m - 1 := wrap_i64 (by omega) (by omega)
theorem trainOk_split {c : Cfg} {id : Int} {k : Chk} (h : trainOk c id k = true) : cfgMay c = true ∧ (0 ≤ id ∧ id < c.m) ∧ kFits c k = true := by
  unfold trainOk at h
  rw [Bool.and_eq_true, Bool.and_eq_true] at h
  obtain ⟨⟨h1, h2⟩, h3⟩ := h
  obtain ⟨hm, _⟩ := cfgMay_split h1
  rw [wrap_m hm, within_iff] at h2
  exact ⟨h1, by omega, h3⟩

theorem one_ (H : Heap) (c : Cfg) (rv w v : V) (id : Int) (k : Chk) (hr : Rows H rv c.rows) (hk : KAt H w v k) (hc : c.Fit) (hf : k.Fit) :
    ∃ a b H', Call Try.prog 30 [.agg (cfgC c rv), .int .i64 id, .agg (kC w v k)] H (.tup [.agg (kC a b (trainR c id k).1), .int .i64 (trainR c id k).2]) H' ∧ Mem H H' [.own 1 intC a (trainR c id k).1.ws, .own 1 intC b (trainR c id k).1.vs] := by
  have l1 := hc.rows
  have l2 := hc.row
  have l3 := hf.ws
  have l4 := hf.vs
  have bad : ∀ e, ((trainOk c id k) = false ∧ e = 2100) ∨ ((trainOk c id k) = true ∧ decide (k.t ≥ c.total) = true ∧ e = 2101) → ∃ a b H', Call Try.prog 30 [.agg (cfgC c rv), .int .i64 id, .agg (kC w v k)] H (.tup [.agg (kC a b noChk), .int .i64 e]) H' ∧ Mem H H' [.own 1 intC a noChk.ws, .own 1 intC b noChk.vs] := fun e he =>
    ⟨.nils, .nils, H, one_bad H c rv w v k.ws k.vs id k.r k.m k.t e hr hk.ws hk.vs (by omega) (fun r h => by have := l2 r h; omega) (by omega) (by omega) he, ((Mem.start H).nil 1 intC).nil 1 intC⟩
  unfold trainR
  cases hok : trainOk c id k with
  | false => exact bad 2100 (.inl ⟨hok, rfl⟩)
  | true =>
    by_cases ht : k.t ≥ c.total
    · simp only [ht, if_true]
      exact bad 2101 (.inr ⟨hok, decide_eq_true ht, rfl⟩)
    · obtain ⟨h1, h2, h3⟩ := trainOk_split hok
      obtain ⟨u1, u2, H', b1, b2, c1, hp, e1, e2, hne, o1, o2⟩ := one_good H c rv w v k.ws k.vs id k.r k.m k.t hr hk.ws hk.vs h1 h2 h3 (by omega)
      simp only [ht, if_true, if_false]
      exact ⟨u1, u2, H', c1, two_mem hp e1 e2 hne o1 o2⟩

theorem refTrain_ (H : Heap) (c : Cfg) (rv w v : V) (id : Int) (k : Chk) (hr : Rows H rv c.rows) (hk : KAt H w v k) (hc : c.Fit) (hf : k.Fit) :
    ∃ a b H', Call Try.prog 31 [.agg (cfgC c rv), .int .i64 id, .agg (kC w v k)] H (.tup [.agg (kC a b (trainR c id k).1), .int .i64 (trainR c id k).2]) H' ∧ Mem H H' [.own 1 intC a (trainR c id k).1.ws, .own 1 intC b (trainR c id k).1.vs] := by
  have l1 := hc.rows
  have l2 := hc.row
  have l3 := hf.ws
  have l4 := hf.vs
  have bad : ∀ e, ((trainOk c id k) = false ∧ e = 2100) ∨ ((trainOk c id k) = true ∧ decide (k.t ≥ c.total) = true ∧ e = 2101) → ∃ a b H', Call Try.prog 31 [.agg (cfgC c rv), .int .i64 id, .agg (kC w v k)] H (.tup [.agg (kC a b noChk), .int .i64 e]) H' ∧ Mem H H' [.own 1 intC a noChk.ws, .own 1 intC b noChk.vs] := fun e he =>
    ⟨.nils, .nils, H, refTrain_bad H c rv w v k.ws k.vs id k.r k.m k.t e hr hk.ws hk.vs (by omega) (fun r h => by have := l2 r h; omega) (by omega) (by omega) he, ((Mem.start H).nil 1 intC).nil 1 intC⟩
  unfold trainR
  cases hok : trainOk c id k with
  | false => exact bad 2100 (.inl ⟨hok, rfl⟩)
  | true =>
    by_cases ht : k.t ≥ c.total
    · simp only [ht, if_true]
      exact bad 2101 (.inr ⟨hok, decide_eq_true ht, rfl⟩)
    · obtain ⟨h1, h2, h3⟩ := trainOk_split hok
      obtain ⟨u1, u2, H', c1, o1, o2, ha⟩ := refTrain_good H c rv w v k.ws k.vs id k.r k.m k.t hr hk.ws hk.vs h1 h2 h3 (by omega)
      simp only [ht, if_true, if_false]
      exact ⟨u1, u2, H', c1, two_mine o1 o2 ha⟩
end Go.Proofs.Ytjageapgbpdlhaa.VM

/- The statements' helpers over the memory by parts: checkpoints and configs that are copied, written over. -/
namespace Go.Proofs.Ytjageapgbpdlhaa.VM
open Go
set_option linter.unusedVariables false
set_option linter.unusedSimpArgs false
attribute [local irreducible] wq wqL wqD wqE wqO Th Bk EndR
set_option maxHeartbeats 8000000

/-- rows of data that lie there -/
def rowsFact (v : V) (rv : List (V × Int)) (rs : List (List Int × Int)) : Fact where
  S c := v.blk = some c ∨ ∃ q ∈ rv, q.1.blk = some c
  p H := Sl 2 rowC H v rv ∧ RowsAt H rv rs
  st H H' h hf := ⟨h.1.fr fun c _ hc => hf c (.inl hc), h.2.1, fun k q r hq hr => ⟨(h.2.2 k q r hq hr).1.fr fun c _ hc => hf c (.inr ⟨q, List.mem_iff_getElem?.2 ⟨k, hq⟩, hc⟩), (h.2.2 k q r hq hr).2⟩⟩
  lt H c h hc := by
    rcases hc with hc | ⟨q, hq, hc⟩
    · exact h.1.lt hc
    · obtain ⟨k, hk⟩ := List.mem_iff_getElem?.1 hq
      obtain ⟨r, hr⟩ : ∃ r, rs[k]? = some r := ⟨rs[k]'(by have := (List.getElem?_eq_some_iff.1 hk).1; have := h.2.1; omega), by simp⟩
      exact (h.2.2 k q r hk hr).1.lt hc
theorem rows_of {H : Heap} {v : V} {rv : List (V × Int)} {rs : List (List Int × Int)} (h : (rowsFact v rv rs).p H) : Rows H v rs := ⟨rv, h.1, h.2⟩
theorem RowsM.mem {B H : Heap} {v : V} {rs : List (List Int × Int)} (h : RowsM B H v rs) : ∃ rv, Mem B H [.ro (rowsFact v rv rs)] := by
  obtain ⟨rv, h1, h2, h3⟩ := h
  refine ⟨rv, Mem.mkro h1.1 ⟨h1.sl, h2⟩ fun c hc => ?_⟩
  rcases hc with hc | ⟨q, hq, hc⟩
  · exact (h1.blk hc).1
  · exact h3 q hq c hc

theorem spoilIntsM_ (B H : Heap) (L : List Res) (f : Res → List Res) (v : V) (xs : List Int) (hM : Mem B H L) (hh : Has L (.own 1 intC v xs) f) (lx : xs.length ≤ 2 ^ 47) : ∃ w H', Call Try.prog 19 [v] H w H' ∧ w = .tup [] ∧ ∃ ys : List Int, ys.length = xs.length ∧ Mem B H' (f (.own 1 intC v ys)) := by
  refine call_turn fit mixed hM Try.func19 rfl rfl rfl (by kernel_rfl) fun _ => ?_
  obtain ⟨n, hn⟩ : ∃ n, xs.length = n := ⟨_, rfl⟩
  refine goM ?_
  refine wq_loop (fun c ρ hp => ∃ (k : Nat) (ys : List Int) (L' : List Res), k ≤ n ∧ c = n - k ∧ ys.length = n ∧ Mem B hp L' ∧ Has L' (.own 1 intC v ys) f ∧ ρ 0 = v ∧ ρ 2 = .int .i64 (k : Nat)) ⟨0, xs, L, Nat.zero_le _, rfl, hn, hM, hh, rfl, rfl⟩ ?_
  clear hM hh
  rintro _ ρ hp ⟨k, ys, L', hk, rfl, hys, hM, hh, h0, h2⟩
  have hlen := (hM.sl hh).len T24 rfl
  rw [hys] at hlen
  refine goM ?_
  refine cond_go (fun hb => ?_) (fun hb => ?_)
  · have hk' : k < n := by simpa using hb
    clear hb
    obtain ⟨x, hxk⟩ : ∃ e, ys[k]? = some e := ⟨ys[k]'(by omega), by simp⟩
    obtain ⟨b, hi, hput⟩ := hM.elem hh T24 rfl T3 rfl (k := k) (by omega)
    obtain ⟨b', o', _, hi', rfl, _, hlo, _⟩ := (hM.sl hh).get T24 rfl T3 rfl hxk
    rw [hi] at hi'
    cases hi'
    have ho := loadV_one T3 rfl hlo
    obtain ⟨H', hst, hM'⟩ := hput (.int .i64 (IntKind.i64.wrap (-9 - x))) _ rfl rfl rfl
    have hw := wrap_succ (n := k) (by omega)
    clear hxk hlo hput
    refine goM ?_
    refine l_stM hst ?_
    refine goM ?_
    exact ⟨n - (k + 1), by omega, k + 1, _, _, hk', rfl, by simpa using hys, hM', hh.again _, by simp [put_app, put_none, *]⟩
  · clear hb
    refine goM ?_
    refine end_normal (by simp only [resRf, resRs, resR]; first | done | rfl) ⟨rfl, ys, by omega, ?_⟩
    rw [hh.same]; exact hM

theorem spoilCheckM_ (B H : Heap) (L : List Res) (w v : V) (k : Chk) (hM : Mem B H (.own 1 intC w k.ws :: .own 1 intC v k.vs :: L)) (hf : k.Fit) : ∃ u H', Call Try.prog 33 [.agg (kC w v k)] H u H' ∧ u = .tup [] ∧ Mem B H' L := by
  have l1 := hf.ws
  have l2 := hf.vs
  have s1 := (hM.sl .here).cells
  have s2 := (hM.sl (.there .here)).cells
  refine call_turn fit mixed hM Try.func33 rfl rfl rfl (by kernel_rfl) fun _ => ?_
  refine wq_seq (wq_line ?_)
  refine l_boxM T56 fun b1 H1 hM => ?_
  refine goM ?_
  obtain ⟨_, H2, c1, rfl, ys, hys, hM⟩ := spoilIntsM_ B H1 _ _ w k.ws hM (.there .here) (by omega)
  refine l_callG c1 ?_
  refine goM ?_
  obtain ⟨_, H3, c2, rfl, zs, hzs, hM⟩ := spoilIntsM_ B H2 _ _ v k.vs hM (.there (.there .here)) (by omega)
  refine l_callG c2 ?_
  refine goM ?_
  exact end_normal (by simp only [resRf, resRs, resR]; first | done | rfl) ⟨rfl, hM.subG⟩

theorem copyCheckM_ (H : Heap) (w v : V) (k : Chk) (hk : KAt H w v k) (hf : k.Fit) : ∃ u H', Call Try.prog 29 [.agg (kC w v k)] H u H' ∧ ∃ a b, u = .agg (kC a b k) ∧ Mem H H' [.own 1 intC b k.vs, .own 1 intC a k.ws] := by
  have l1 := hf.ws
  have l2 := hf.vs
  have s1 := hk.ws.cells
  have s2 := hk.vs.cells
  refine call_mem fit mixed Try.func29 rfl rfl rfl (by kernel_rfl) fun hM => ?_
  refine wq_seq (wq_line ?_)
  refine l_boxM T56 fun b1 H1 hM => ?_
  refine l_newM (cs := zeroChk) T56 rfl fun b2 H2 hM => ?_
  refine goM ?_
  refine l_sliceM intC [] [] T24 rfl T3 rfl (cells_ints []) (by decide) fun e1 H3 hM => ?_
  refine goM ?_
  refine l_appM (hk.ws.mono hM.pre) fun a H4 hM => ?_
  have s3 := (hM.sl .here).cells
  refine goM ?_
  refine l_putM T24 fun H5 hM => ?_
  refine goM ?_
  refine l_sliceM intC [] [] T24 rfl T3 rfl (cells_ints []) (by decide) fun e2 H6 hM => ?_
  refine goM ?_
  refine l_appM (hk.vs.mono hM.pre) fun b H7 hM => ?_
  have s4 := (hM.sl .here).cells
  refine goM ?_
  refine l_putM T24 fun H8 hM => ?_
  refine goM ?_
  refine l_putM T56 fun H9 hM => ?_
  refine goM ?_
  exact end_1 (by first | exact .inl rfl | exact .inr rfl) ⟨a, b, rfl, hM.subG⟩

theorem copyConfigM_ (H : Heap) (c : Cfg) (v : V) (hv : Rows H v c.rows) (hf : c.Fit) : ∃ w H', Call Try.prog 28 [.agg (cfgC c v)] H w H' ∧ ∃ u rv, w = .agg (cfgC c u) ∧ Mem H H' [.ro (rowsFact u rv c.rows)] := by
  have l1 := hf.rows
  have l2 := hf.row
  have s0 : v.cells = [v] ∧ v.isTup = false := by obtain ⟨_, h, _⟩ := hv; exact h.cells
  refine call_mem fit mixed Try.func28 rfl rfl rfl (by kernel_rfl) fun hM => ?_
  refine wq_seq (wq_line ?_)
  refine l_boxM T52 fun b1 H1 hM => ?_
  refine l_newM (cs := zeroCfg) T52 rfl fun b2 H2 hM => ?_
  refine goM ?_
  obtain ⟨u, H3, c1, m1⟩ := copyRowsM_ H2 v c.rows (hv.mono hM.pre) (by omega) (fun r hr => by have := l2 r hr; omega)
  have s1 : u.cells = [u] ∧ u.isTup = false := by obtain ⟨_, h, _⟩ := m1.rows; exact h.cells
  obtain ⟨rv, m1⟩ := m1.mem
  refine l_callG c1 ?_
  replace hM := hM.call1 m1
  refine goM ?_
  refine l_putM T28 fun H4 hM => ?_
  refine goM ?_
  refine l_putM T52 fun H5 hM => ?_
  refine goM ?_
  exact end_1 (by first | exact .inl rfl | exact .inr rfl) ⟨u, rv, rfl, hM.subG⟩
end Go.Proofs.Ytjageapgbpdlhaa.VM

/- Chapter 21: what the statements share: the small config, a first checkpoint, what every program answers. -/
namespace Go.Proofs.Ytjageapgbpdlhaa.VM
open Go
set_option linter.unusedVariables false
set_option linter.unusedSimpArgs false
attribute [local irreducible] wq wqL wqD wqE wqO Th Bk EndR
set_option maxHeartbeats 8000000

/-- a fact that is kept from simp -/
def Held (p : Prop) : Prop := p

def smallC : Cfg := ⟨2, 1, 1, [([65536], 32768), ([-65536], 0)], 7, 3, 1, 1, true⟩
theorem small_may : cfgMay smallC = true := by decide +kernel
theorem small_fit : smallC.Fit := ⟨by decide, fun r hr => by
  rcases List.mem_cons.1 hr with rfl | hr
  · simp
  · rcases List.mem_cons.1 hr with rfl | hr
    · simp
    · cases hr⟩
theorem small_ (H : Heap) : ∃ w H', Call Try.prog 36 [] H w H' ∧ ∃ rv xv, w = .agg (cfgC smallC rv) ∧ Mem H H' [.ro (rowsFact rv xv smallC.rows)] := by
  refine call_mem fit mixed Try.func36 rfl rfl rfl (by kernel_rfl) fun hM => ?_
  refine wq_seq (wq_line ?_)
  refine l_newM (cs := zeroCfg) T52 rfl fun b0 H1 hM => ?_
  refine goM ?_
  refine l_sliceM intC [65536] [.int .i64 65536] T24 rfl T3 rfl (cells_ints [65536]) (by decide) (fun x1 H2 hM => ?_)
  have t1 := (hM.sl .here).cells
  refine goM ?_
  refine l_sliceM intC [-65536] [.int .i64 (-65536)] T24 rfl T3 rfl (cells_ints [-65536]) (by decide) (fun x2 H3 hM => ?_)
  have t2 := (hM.sl .here).cells
  refine goM ?_
  refine l_sliceM rowC [(x1, 32768), (x2, 0)] [x1, .int .i64 32768, x2, .int .i64 0] T28 rfl T26 rfl (cells_rows [(x1, 32768), (x2, 0)]) (by decide) (fun rv H4 hM => ?_)
  have t3 := (hM.sl .here).cells
  refine goM ?_
  refine l_putM T52 fun H5 hM => ?_
  refine goM ?_
  refine end_1 (by first | exact .inl rfl | exact .inr rfl) ⟨rv, [(x1, 32768), (x2, 0)], rfl, Mem.mkro hM.pre ⟨hM.slG, rfl, fun k p r hp hr => ?_⟩ fun c hc => ?_⟩
  · match k, hp, hr with
    | 0, hp, hr => cases hp; cases hr; exact ⟨hM.slG, rfl⟩
    | 1, hp, hr => cases hp; cases hr; exact ⟨hM.slG, rfl⟩
  · rcases hc with hc | ⟨q, hq, hc⟩
    · exact hM.low (.own 2 rowC rv [(x1, 32768), (x2, 0)]) (by simp) c hc
    · simp at hq
      rcases hq with rfl | rfl
      · exact hM.low (.own 1 intC x1 [65536]) (by simp) c hc
      · exact hM.low (.own 1 intC x2 [-65536]) (by simp) c hc

/-- a member's first checkpoint -/
def firstK (c : Cfg) (id : Int) : Chk := ⟨firstW c id, firstV c, firstR c id, firstM c id, 0⟩
/-- a member's cells -/
abbrev mC (w v : V) (k : Chk) (h : Int) : List V := [w, v, .int .i64 k.r, .int .i64 k.m, .int .i64 k.t, .int .i64 h]
theorem refFirstK_ (H : Heap) (c : Cfg) (rv : V) (id : Int) (hr : Rows H rv c.rows) (hc : cfgMay c = true) (hid : 0 ≤ id ∧ id < c.m) :
    ∃ w H', Call Try.prog 37 [.agg (cfgC c rv), .int .i64 id] H w H' ∧ ∃ u1 u2, w = .tup [.agg (mC u1 u2 (firstK c id) 0), .str (strOf (firstS c id)), .int .i64 0] ∧ Mem H H' [.own 1 intC u2 (firstK c id).vs, .own 1 intC u1 (firstK c id).ws] := refFirst_good H c rv id hr hc hid
theorem chkMay_t {ws vs : List Int} {r m t t' : Int} (h : chkMay ws vs r m t = true) (ht : 0 ≤ t' ∧ t' ≤ 32) : chkMay ws vs r m t' = true := by
  unfold chkMay at h ⊢
  simp only [Bool.and_eq_true, decide_eq_true_eq] at h ⊢
  exact ⟨⟨h.1.1, ht.1⟩, ht.2⟩
theorem kFits_t {c : Cfg} {k : Chk} {t : Int} (h : kFits c k = true) (ht : 0 ≤ t ∧ t ≤ 32) : kFits c { k with t := t } = true := by
  unfold kFits memFits at h ⊢
  rw [Bool.and_eq_true] at h ⊢
  exact ⟨chkMay_t h.1 ht, h.2⟩
theorem firstK_fits {c : Cfg} (hc : cfgMay c = true) (id : Int) : kFits c (firstK c id) = true := first_fits hc id
theorem kFits_fit {c : Cfg} {k : Chk} (h : kFits c k = true) : k.Fit := by
  unfold kFits memFits at h
  rw [Bool.and_eq_true] at h
  obtain ⟨a, b, l, _⟩ := chkMay_split h.1
  have := vecMay_len a
  have := vecMay_len b
  exact ⟨by omega, by omega⟩
theorem trainOk_of {c : Cfg} {id : Int} {k : Chk} (hc : cfgMay c = true) (hid : 0 ≤ id ∧ id < c.m) (hk : kFits c k = true) : trainOk c id k = true := by
  obtain ⟨hm, _⟩ := cfgMay_split hc
  unfold trainOk
  rw [hc, hk, wrap_m hm, within_iff.2 ⟨hid.1, by omega⟩]; rfl
theorem trainR_go {c : Cfg} {id : Int} {k : Chk} (hc : cfgMay c = true) (hid : 0 ≤ id ∧ id < c.m) (hk : kFits c k = true) (ht : k.t < c.total) : trainR c id k = (trainK c id k, 0) := by
  unfold trainR
  rw [if_pos (trainOk_of hc hid hk), if_neg (by omega)]
theorem trainR_done {c : Cfg} {id : Int} {k : Chk} (hc : cfgMay c = true) (hid : 0 ≤ id ∧ id < c.m) (hk : kFits c k = true) (ht : c.total ≤ k.t) : trainR c id k = (noChk, 2101) := by
  unfold trainR
  rw [if_pos (trainOk_of hc hid hk), if_pos ht]
theorem trainR_id {c : Cfg} {id : Int} {k : Chk} (hc : cfgMay c = true) (hid : id < 0 ∨ c.m ≤ id) : trainR c id k = (noChk, 2100) := by
  obtain ⟨hm, _⟩ := cfgMay_split hc
  have : within id 0 (c.m - 1) = false := by
    rw [Bool.eq_false_iff]; intro h; rw [within_iff] at h; omega
  unfold trainR trainOk
  rw [wrap_m hm, this, Bool.and_false, Bool.false_and, if_neg (by decide)]

theorem sameK_ (H : Heap) (w v w' v' : V) (k k' : Chk) (h : KAt H w v k) (h' : KAt H w' v' k') (hf : k.Fit) :
    Call Try.prog 32 [.agg (kC w v k), .agg (kC w' v' k')] H (.bool (kEq k k')) H := by
  have l1 := hf.ws
  have l2 := hf.vs
  exact sameCheck_ H w v w' v' k.ws k.vs k'.ws k'.vs k.r k.m k.t k'.r k'.m k'.t h.ws h.vs h'.ws h'.vs (by omega) (by omega)
theorem trainR_fit {c : Cfg} {id : Int} {k : Chk} (hf : k.Fit) : (trainR c id k).1.Fit := by
  have h1 := hf.ws
  unfold trainR
  split
  · split
    · exact ⟨by simp, by simp⟩
    · exact ⟨by simp [trainK, nextL]; omega, by simp [trainK, speedL]; omega⟩
  · exact ⟨by simp, by simp⟩

theorem awake_ (K : Heap) : Call Try.prog 35 [] K (.bool true) K := by
  have e1 := trainR_go (c := smallC) (id := 0) small_may (by decide) (firstK_fits small_may 0) (by decide)
  have hk3 := kFits_t (t := 3) (firstK_fits small_may 0) (by decide)
  have e2 := trainR_done (c := smallC) (id := 0) small_may (by decide) hk3 (by decide)
  have e3 := trainR_id (c := smallC) (id := 2) (k := firstK smallC 0) small_may (by decide)
  have ff := kFits_fit (firstK_fits small_may 0)
  have f3 := kFits_fit hk3
  have fo := trainR_fit (c := smallC) (id := 0) ff
  have ht1 : Held ((trainK smallC 0 (firstK smallC 0)).t = 1) := rfl
  have sm := small_may
  have sf := small_fit
  have hsm := small_
  refine call_pure fit mixed Try.func35 rfl rfl rfl (by kernel_rfl) rfl fun hM => ?_
  obtain ⟨_, H1, c1, rv, xv, rfl, m0⟩ := small_ K
  have p1 := m0.pre
  have r1 := rows_of (m0.fact .here)
  obtain ⟨_, H2, c2', u1, u2, rfl, m2⟩ := refFirstK_ H1 smallC rv 0 r1 sm (by decide)
  have s1 := (m2.sl .here).cells
  have s2 := (m2.sl (.there .here)).cells
  generalize firstK smallC 0 = k at *
  generalize firstS smallC 0 = S at *
  generalize smallC = c at *
  replace hM := (hM.grow p1).call2 m2
  refine goM ?_
  refine l_callG c1 ?_
  refine goM ?_
  refine l_callG c2' ?_
  refine goM ?_
  refine l_newM (cs := zeroMem) T69 rfl fun b1 H3 hM => ?_
  refine l_putM T69 fun H4 hM => ?_
  clear c1 c2' p1 r1 m2
  refine goM ?_
  -- the program's step
  obtain ⟨_, H5, c1, rv1, xv1, rfl, m0⟩ := hsm H4
  have p1 := m0.pre
  have r1 := rows_of (m0.fact .here)
  refine d_callG c1 (.inl p1) ?_
  replace hM := hM.grow p1
  refine goM ?_
  obtain ⟨a1, a2, H6, c2, m2⟩ := one_ H5 c rv1 u1 u2 0 k r1 ⟨hM.slG, hM.slG⟩ sf ff
  rw [e1] at c2 m2
  refine d_callG c2 (.inl m2.pre) ?_
  replace hM := hM.call2 m2
  have s3 := (hM.sl .here).cells
  have s4 := (hM.sl (.there .here)).cells
  refine goM ?_
  refine d_newM (cs := zeroChk) T56 rfl fun b2 H7 hM => ?_
  refine d_putM T56 fun H8 hM => ?_
  clear c1 c2 p1 r1 m2
  refine goM ?_
  -- the document's step
  obtain ⟨_, H9, c1, rv1, xv1, rfl, m0⟩ := hsm H8
  have p1 := m0.pre
  have r1 := rows_of (m0.fact .here)
  refine d_callG c1 (.inl p1) ?_
  replace hM := hM.grow p1
  refine goM ?_
  obtain ⟨d1, d2, H10, c2, m2⟩ := refTrain_ H9 c rv1 u1 u2 0 k r1 ⟨hM.slG, hM.slG⟩ sf ff
  rw [e1] at c2 m2
  refine d_callG c2 (.inl m2.pre) ?_
  replace hM := hM.call2 m2
  have s5 := (hM.sl .here).cells
  have s6 := (hM.sl (.there .here)).cells
  refine goM ?_
  refine d_newM (cs := zeroChk) T56 rfl fun b3 H11 hM => ?_
  refine d_putM T56 fun H12 hM => ?_
  clear c1 c2 p1 r1 m2
  refine goM ?_
  -- a copy that is done
  obtain ⟨_, H13, c1, f1, f2, rfl, m1⟩ := copyCheckM_ H12 u1 u2 k ⟨hM.slG, hM.slG⟩ ff
  refine l_callG c1 ?_
  replace hM := hM.call2 m1
  have s7 := (hM.sl .here).cells
  have s8 := (hM.sl (.there .here)).cells
  clear c1 m1
  refine l_newM (cs := zeroChk) T56 rfl fun b4 H14 hM => ?_
  refine l_putM T56 fun H15 hM => ?_
  refine goM ?_
  refine l_putM T3 fun H16 hM => ?_
  refine goM ?_
  obtain ⟨_, H17, c1, rv1, xv1, rfl, m0⟩ := hsm H16
  have p1 := m0.pre
  have r1 := rows_of (m0.fact .here)
  refine d_callG c1 (.inl p1) ?_
  replace hM := hM.grow p1
  refine goM ?_
  obtain ⟨g1, g2, H18, c2, m2⟩ := one_ H17 c rv1 f1 f2 0 { k with t := 3 } r1 ⟨hM.slG, hM.slG⟩ sf f3
  rw [e2] at c2 m2
  refine d_callG c2 (.inl m2.pre) ?_
  replace hM := hM.call2 m2
  have s9 := (hM.sl .here).cells
  have s10 := (hM.sl (.there .here)).cells
  refine goM ?_
  refine d_newM (cs := zeroChk) T56 rfl fun b5 H19 hM => ?_
  refine d_putM T56 fun H20 hM => ?_
  clear c1 c2 p1 r1 m2
  refine goM ?_
  -- no member's number
  obtain ⟨_, H21, c1, rv1, xv1, rfl, m0⟩ := hsm H20
  have p1 := m0.pre
  have r1 := rows_of (m0.fact .here)
  refine d_callG c1 (.inl p1) ?_
  replace hM := hM.grow p1
  refine goM ?_
  obtain ⟨h1, h2, H22, c2, m2⟩ := one_ H21 c rv1 u1 u2 2 k r1 ⟨hM.slG, hM.slG⟩ sf ff
  rw [e3] at c2 m2
  refine d_callG c2 (.inl m2.pre) ?_
  replace hM := hM.call2 m2
  have s11 := (hM.sl .here).cells
  have s12 := (hM.sl (.there .here)).cells
  refine goM ?_
  refine d_newM (cs := zeroChk) T56 rfl fun b6 H23 hM => ?_
  refine d_putM T56 fun H24 hM => ?_
  clear c1 c2 p1 r1 m2
  refine goM ?_
  -- what came
  rw [e1] at fo
  generalize trainK c 0 k = k' at *
  have c1 := sameK_ H24 a1 a2 d1 d2 k' k' ⟨hM.slG, hM.slG⟩ ⟨hM.slG, hM.slG⟩ fo
  rw [kEq_self] at c1
  refine l_callG c1 ?_
  replace ht1 : k'.t = 1 := ht1
  refine goM ?_
  refine l_callG (num_ _ _) ?_
  refine goM ?_
  refine l_callG (num_ _ _) ?_
  refine goM ?_
  refine l_callG (num_ _ _) ?_
  refine goM ?_
  exact end_1 (by first | exact .inl rfl | exact .inr rfl) ⟨rfl, hM.pre⟩
end Go.Proofs.Ytjageapgbpdlhaa.VM
