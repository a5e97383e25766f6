/- The statements' helpers: rows of data that are copied and compared. -/
import Derived.Test.YtjageapgbpdlhaaIntA
import Derived.Test.YtjageapgbpdlhaaVmZ
namespace Go.Proofs.Ytjageapgbpdlhaa.VM
open Go
set_option linter.unusedVariables false
set_option linter.unusedSimpArgs false
attribute [local irreducible] wq wqL wqD wqE wqO Th Bk EndR
set_option maxHeartbeats 8000000

def rowC (cs : List V) (p : V × Int) : Prop := cs = [p.1, .int .i64 p.2]
def RowAt (H : Heap) (p : V × Int) (r : List Int × Int) : Prop := Sl 1 intC H p.1 r.1 ∧ p.2 = r.2
def RowsAt (H : Heap) (rv : List (V × Int)) (rs : List (List Int × Int)) : Prop := rv.length = rs.length ∧ ∀ (k : Nat) p r, rv[k]? = some p → rs[k]? = some r → RowAt H p r
/-- rows of data lie there -/
def Rows (H : Heap) (v : V) (rs : List (List Int × Int)) : Prop := ∃ rv, Sl 2 rowC H v rv ∧ RowsAt H rv rs

theorem RowAt.mono {H H' : Heap} {p : V × Int} {r : List Int × Int} (hp : H <+: H') (h : RowAt H p r) : RowAt H' p r := ⟨h.1.mono hp, h.2⟩
theorem RowsAt.mono {H H' : Heap} {rv : List (V × Int)} {rs : List (List Int × Int)} (hp : H <+: H') (h : RowsAt H rv rs) : RowsAt H' rv rs := ⟨h.1, fun k p r a b => (h.2 k p r a b).mono hp⟩
theorem Rows.mono {H H' : Heap} {v : V} {rs : List (List Int × Int)} (hp : H <+: H') (h : Rows H v rs) : Rows H' v rs := by
  obtain ⟨rv, h1, h2⟩ := h
  exact ⟨rv, h1.mono hp, h2.mono hp⟩

theorem row_append {B H : Heap} {v : V} {rv : List (V × Int)} (h : Mine 2 rowC B H v rv) (x : V) (y : Int) (hl : rv.length ≤ 2 ^ 40) :
    ∃ v' H', newsOf T (T 26).get! 28 (.slc H.length 0 1 1 true 2) (H ++ [.row [x, .int .i64 y] true]) = some (1, [x, .int .i64 y]) ∧ appendV (T 26).get! v 1 [x, .int .i64 y] (H ++ [.row [x, .int .i64 y] true]) = some (v', H') ∧ Mine 2 rowC B H' v' (rv ++ [(x, y)]) ∧ Keep v (H ++ [.row [x, .int .i64 y] true]) H' ∧ Moved v (H ++ [.row [x, .int .i64 y] true]) v' := by
  obtain ⟨v', H', h1, h2, h3, h4⟩ := (h.pre (List.prefix_append H [.row [x, .int .i64 y] true])).app (ie := (T 26).get!) rfl (Cells.one (R := rowC) (cs := [x, .int .i64 y]) (x := (x, y)) rfl rfl) ⟨by show (rv.length + 1) * 32 ≤ _; omega, by simp; omega⟩
  exact ⟨v', H', news_row T28 rfl (by decide) rfl, h1, h2, h3, h4⟩

theorem copyRows_ (H : Heap) (v : V) (rs : List (List Int × Int)) (hv : Rows H v rs) (hl : rs.length ≤ 2 ^ 40) (hx : ∀ r ∈ rs, r.1.length * 8 ≤ 2 ^ 47) : ∃ u H', Call Try.prog 14 [v] H u H' ∧ H <+: H' ∧ Rows H' u rs := by
  suffices h : ∃ u H', (H <+: H' ∧ Rows H' u rs) ∧ Call Try.prog 14 [v] H u H' by
    obtain ⟨u, H', h1, h2⟩ := h
    exact ⟨u, H', h2, h1⟩
  refine call_wq fit mixed Try.func14 rfl rfl rfl (by kernel_rfl) ?_
  obtain ⟨rv, hrv, hrl, hrr⟩ := hv
  obtain ⟨n, hn⟩ : ∃ n, rv.length = n := ⟨_, rfl⟩
  have hlen := hrv.len T28 rfl
  rw [hn] at hlen hrl
  replace hrl := hrl.symm
  repeat (first | refine l_go ?_ | refine d_go ?_ | refine l_onG ?_ | refine l_offG ?_ | refine d_onG ?_ | refine d_offG ?_ | refine wq_seq ?_ | refine wq_line ?_ | refine wq_draw (by decide +kernel) ?_ | refine wq_block ?_ | refine l_nil ?_ | refine d_nil ?_ | refine wq_skip ?_ | refine wq_ret ?_ | refine wq_exit ?_ | refine th_normal ?_ | refine th_ret ?_ | refine th_exit ?_ | refine bk_normal ?_ | refine bk_ret ?_ | refine bk_exit ?_ | refine bk_other rfl ?_)
  refine wq_loop (fun c ρ hp => ∃ k u out, k ≤ n ∧ c = n - k ∧ Mine 2 rowC H hp u out ∧ out.length = k ∧ (∀ (j : Nat) p r, out[j]? = some p → rs[j]? = some r → RowAt hp p r ∧ Apart u p.1) ∧ ρ 0 = v ∧ ρ 3 = u ∧ ρ 4 = .int .i64 (k : Nat)) ⟨0, .nils, [], Nat.zero_le _, rfl, Mine.nil (List.prefix_refl _), rfl, by simp, rfl, rfl, rfl⟩ ?_
  rintro _ ρ hp ⟨k, u, out, hk, rfl, hm, hol, hout, h0, h3, h4⟩
  repeat (first | refine l_go ?_ | refine d_go ?_ | refine l_onG ?_ | refine l_offG ?_ | refine d_onG ?_ | refine d_offG ?_ | refine wq_seq ?_ | refine wq_line ?_ | refine wq_draw (by decide +kernel) ?_ | refine wq_block ?_ | refine l_nil ?_ | refine d_nil ?_ | refine wq_skip ?_ | refine wq_ret ?_ | refine wq_exit ?_ | refine th_normal ?_ | refine th_ret ?_ | refine th_exit ?_ | refine bk_normal ?_ | refine bk_ret ?_ | refine bk_exit ?_ | refine bk_other rfl ?_)
  refine cond_go (fun hb => ?_) (fun hb => ?_)
  · have hk' : k < n := by simpa using hb
    clear hb
    obtain ⟨⟨px, y⟩, hpk⟩ : ∃ p, rv[k]? = some p := ⟨rv[k]'(by omega), by simp⟩
    obtain ⟨⟨xs, y'⟩, hrk⟩ : ∃ r, rs[k]? = some r := ⟨rs[k]'(by omega), by simp⟩
    obtain ⟨hxs, hy⟩ := hrr k _ _ hpk hrk
    obtain rfl : y = y' := hy
    have hxl := hx _ (List.mem_iff_getElem?.2 ⟨k, hrk⟩)
    obtain ⟨b, o, _, hi, rfl, _, hlo, _⟩ := (hrv.mono hm.1).get T28 rfl T26 rfl hpk
    have ho : loadV T 26 hp b o = some (.agg [px, .int .i64 y]) := loadV_agg T26 rfl hlo
    -- the row's own place
    obtain ⟨hp1, hhp1⟩ : ∃ hp1, hp ++ [.row [px, .int .i64 y] true] = hp1 := ⟨_, rfl⟩
    have q1 : hp <+: hp1 := by rw [← hhp1]; exact List.prefix_append _ _
    have hx1 : Sl 1 intC hp1 px xs := hxs.mono (hm.1.trans q1)
    obtain ⟨news, x', hp2, n1, a1, hm2, b', hb', hbl⟩ := int_copy hp1 px xs hx1 hxl
    have l1 : loadV T 24 (hp1 ++ [.row [] true]) hp.length 0 = some px := loadV_one T24 rfl (loadN_pre (List.prefix_append _ _) (by rw [← hhp1, loadN_app0]; rfl))
    have hg1 : hp1[hp.length]? = some (.row [px, .int .i64 y] true) := by rw [← hhp1]; simp
    have hg2 : hp2[hp.length]? = some (.row [px, .int .i64 y] true) := pre_get hm2.1 hg1
    obtain ⟨hc1, hc2⟩ := hm2.sl.cells
    have hst := cell_store (off := 0) T24 rfl hg2 (by simp) hc1 hc2
    obtain ⟨hp3, hhp3⟩ : ∃ hp3, hp2.set hp.length (.row ([px, .int .i64 y].set 0 x') true) = hp3 := ⟨_, rfl⟩
    rw [hhp3] at hst
    have q3 : hp <+: hp3 := by rw [← hhp3]; exact pre_set (q1.trans hm2.1) (Nat.le_refl _)
    have hlt : hp.length < hp2.length := (List.getElem?_eq_some_iff.1 hg2).1
    have hg3 : hp3[hp.length]? = some (.row [x', .int .i64 y] true) := by rw [← hhp3, List.getElem?_set_self hlt]; rfl
    have hll : hp1.length = hp.length + 1 := by rw [← hhp1]; simp
    have hl3 : hp3.length = hp2.length := by rw [← hhp3]; simp
    have hx3 : Sl 1 intC hp3 x' xs := hm2.sl.fr fun c hc hcb => by
      rw [hb'] at hcb
      cases hcb
      rw [← hhp3, List.getElem?_set_ne (by omega)]
    have l3 : loadV T 26 hp3 hp.length 0 = some (.agg [x', .int .i64 y]) := by
      refine loadV_agg T26 rfl ?_
      unfold Heap.loadN
      rw [hg3]; rfl
    obtain ⟨u', hp4, n2, a2, hm4, kp, mv⟩ := row_append (hm.pre q3) x' y (by omega)
    have hb2 : b' < hp2.length := hm2.sl.lt hb'
    have q4 := List.prefix_append hp3 [Blk.row [x', .int .i64 y] true]
    have hnew : RowAt hp4 (x', y) (xs, y) ∧ Apart u' x' := by
      have hap : Apart u x' := fun c1 c2 e1 e2 => by
        have := (hm.blk e1).2
        rw [hb'] at e2; cases e2; omega
      exact ⟨⟨kp.sl (hx3.mono q4) hap, rfl⟩, mv.apart (hx3.mono q4) hap⟩
    have hall : ∀ (j : Nat) p r, (out ++ [(x', y)])[j]? = some p → rs[j]? = some r → RowAt hp4 p r ∧ Apart u' p.1 := fun j p r hj hr => by
      by_cases hjk : j < k
      · rw [List.getElem?_append_left (by omega)] at hj
        obtain ⟨r1, r2⟩ := hout j p r hj hr
        have r3 := r1.mono (q3.trans q4)
        exact ⟨⟨kp.sl r3.1 r2, r3.2⟩, mv.apart r3.1 r2⟩
      · rw [List.getElem?_append_right (by omega)] at hj
        have hjj : j = k := by
          have := (List.getElem?_eq_some_iff.1 hj).1
          simp at this; omega
        subst hjj
        rw [hrk] at hr
        cases hr
        simp [hol] at hj
        subst hj
        exact hnew
    have hw := wrap_succ (n := k) (by omega)
    clear hnew hb2 hx3 hl3 hll hg3 hlt q3 q4 hg1 hg2 hhp3 hx1 q1 hlo hpk hrk hxs hxl hm kp mv hout
    repeat (first | refine l_goB ?_ | refine d_goB ?_ | refine l_onG ?_ | refine l_offG ?_ | refine d_onG ?_ | refine d_offG ?_ | refine wq_seq ?_ | refine wq_line ?_ | refine wq_draw (by decide +kernel) ?_ | refine wq_block ?_ | refine l_nil ?_ | refine d_nil ?_ | refine wq_skip ?_ | refine wq_ret ?_ | refine wq_exit ?_ | refine th_normal ?_ | refine th_ret ?_ | refine th_exit ?_ | refine bk_normal ?_ | refine bk_ret ?_ | refine bk_exit ?_ | refine bk_other rfl ?_)
    refine l_heap (h' := hp1) hhp1 ?_
    repeat (first | refine l_go ?_ | refine d_go ?_ | refine l_onG ?_ | refine l_offG ?_ | refine d_onG ?_ | refine d_offG ?_ | refine wq_seq ?_ | refine wq_line ?_ | refine wq_draw (by decide +kernel) ?_ | refine wq_block ?_ | refine l_nil ?_ | refine d_nil ?_ | refine wq_skip ?_ | refine wq_ret ?_ | refine wq_exit ?_ | refine th_normal ?_ | refine th_ret ?_ | refine th_exit ?_ | refine bk_normal ?_ | refine bk_ret ?_ | refine bk_exit ?_ | refine bk_other rfl ?_)
    refine l_appendG n1 a1 ?_
    refine l_go ?_
    refine l_step (s_store (by simp only [beq_self_eq_true, bne_self_eq_false, ev_tmp, ev_const, ev_func, V.of, V.ofs, put_app, put_none, rho0_app, reduceIte, Nat.reduceEqDiff, reduceCtorEq, List.getD_cons_zero, List.getD_cons_succ, evs, optEv, evParts, Option.map_some, List.cons_append, List.nil_append, List.append_nil, List.append_assoc, Nat.zero_add, Nat.add_zero, *]; first | done | rfl) (by simp only [beq_self_eq_true, bne_self_eq_false, ev_tmp, ev_const, ev_func, V.of, V.ofs, put_app, put_none, rho0_app, reduceIte, Nat.reduceEqDiff, reduceCtorEq, List.getD_cons_zero, List.getD_cons_succ, evs, optEv, evParts, Option.map_some, List.cons_append, List.nil_append, List.append_nil, List.append_assoc, Nat.zero_add, Nat.add_zero, *]; first | done | rfl) hst) ?_
    repeat (first | refine l_go ?_ | refine d_go ?_ | refine l_onG ?_ | refine l_offG ?_ | refine d_onG ?_ | refine d_offG ?_ | refine wq_seq ?_ | refine wq_line ?_ | refine wq_draw (by decide +kernel) ?_ | refine wq_block ?_ | refine l_nil ?_ | refine d_nil ?_ | refine wq_skip ?_ | refine wq_ret ?_ | refine wq_exit ?_ | refine th_normal ?_ | refine th_ret ?_ | refine th_exit ?_ | refine bk_normal ?_ | refine bk_ret ?_ | refine bk_exit ?_ | refine bk_other rfl ?_)
    refine l_appendG n2 a2 ?_
    repeat (first | refine l_go ?_ | refine d_go ?_ | refine l_onG ?_ | refine l_offG ?_ | refine d_onG ?_ | refine d_offG ?_ | refine wq_seq ?_ | refine wq_line ?_ | refine wq_draw (by decide +kernel) ?_ | refine wq_block ?_ | refine l_nil ?_ | refine d_nil ?_ | refine wq_skip ?_ | refine wq_ret ?_ | refine wq_exit ?_ | refine th_normal ?_ | refine th_ret ?_ | refine th_exit ?_ | refine bk_normal ?_ | refine bk_ret ?_ | refine bk_exit ?_ | refine bk_other rfl ?_)
    refine ⟨n - (k + 1), by omega, k + 1, u', _, hk', rfl, hm4, by simp [hol], hall, ?_⟩
    simp [put_app, put_none, *]
  · have hk' : k = n := by have : ¬ k < n := by simpa using hb
                           omega
    subst hk'
    clear hb
    have hp' := hm.1
    have hfin : Rows hp u rs := ⟨out, hm.sl, by omega, fun j p r a b => (hout j p r a b).1⟩
    clear hout hm
    repeat (first | refine l_go ?_ | refine d_go ?_ | refine l_onG ?_ | refine l_offG ?_ | refine d_onG ?_ | refine d_offG ?_ | refine wq_seq ?_ | refine wq_line ?_ | refine wq_draw (by decide +kernel) ?_ | refine wq_block ?_ | refine l_nil ?_ | refine d_nil ?_ | refine wq_skip ?_ | refine wq_ret ?_ | refine wq_exit ?_ | refine th_normal ?_ | refine th_ret ?_ | refine th_exit ?_ | refine bk_normal ?_ | refine bk_ret ?_ | refine bk_exit ?_ | refine bk_other rfl ?_)
    refine end_ret (by simp only [resRf, resRs, resR]; first | done | rfl) ⟨hp', ?_⟩
    simp only [put_app, put_none]
    simp only [Nat.reduceEqDiff, reduceIte, Option.some.injEq, reduceCtorEq, h3]
    exact hfin
end Go.Proofs.Ytjageapgbpdlhaa.VM
