/- Layer 7: the document's Grad. -/
import Derived.Test.YtjageapgbpdlhaaNetF
import Derived.Test.YtjageapgbpdlhaaNetH
namespace Go.Proofs.Ytjageapgbpdlhaa.VM
open Go
set_option linter.unusedVariables false
set_option linter.unusedSimpArgs false
attribute [local irreducible] wq wqL wqD wqE wqO Th Bk EndR
set_option maxHeartbeats 8000000

/-- out is G where D holds -/
def Fill (G : List Int) (D : Nat → Prop) (out : List Int) : Prop := out.length = G.length ∧ ∀ p, D p → out[p]? = G[p]?
theorem Fill.put {G out : List Int} {D D' : Nat → Prop} {q : Nat} {v : Int} (h : Fill G D out) (hv : G[q]? = some v) (hd : ∀ p, D' p → D p ∨ p = q) : Fill G D' (out.set q v) := by
  refine ⟨by rw [List.length_set]; exact h.1, fun p hp => ?_⟩
  by_cases hq : q = p
  · subst hq
    have : q < G.length := (List.getElem?_eq_some_iff.1 hv).1
    rw [List.getElem?_set_self (by rw [h.1]; exact this), hv]
  · rw [List.getElem?_set_ne hq]
    rcases hd p hp with h1 | h1
    · exact h.2 p h1
    · exact absurd h1.symm hq
theorem Fill.all {G out : List Int} {D : Nat → Prop} (h : Fill G D out) (hd : ∀ p, p < G.length → D p) : out = G := by
  apply List.ext_getElem?
  intro p
  by_cases hp : p < G.length
  · exact h.2 p (hd p hp)
  · rw [List.getElem?_eq_none (by rw [h.1]; omega), List.getElem?_eq_none (by omega)]
theorem flat_get {f : Nat → List Int} {n : Nat} (hf : ∀ k, (f k).length = n) {k j : Nat} (hj : j < n) : ∀ {h : Nat}, k < h → ((List.range h).flatMap f)[k * n + j]? = (f k)[j]?
  | 0, hk => by omega
  | h + 1, hk => by
    rw [← flat_snoc]
    by_cases hkh : k < h
    · have h1 : (k + 1) * n ≤ h * n := Nat.mul_le_mul_right _ hkh
      rw [Nat.add_mul] at h1
      rw [List.getElem?_append_left (by rw [flat_len hf]; omega)]
      exact flat_get hf hj hkh
    · obtain rfl : k = h := by omega
      rw [List.getElem?_append_right (by rw [flat_len hf]; omega), flat_len hf, Nat.add_sub_cancel_left]

theorem refGrad_bad (H : Heap) (i h y : Int) (w x : V) (ws xs : List Int) (hw : Sl 1 intC H w ws) (hx : Sl 1 intC H x xs) (lw : ws.length ≤ 2 ^ 47) (lx : xs.length ≤ 2 ^ 47) (hbad : (fits i h ws && feeds i xs && fixMay y) = false) :
    Call Try.prog 16 [.agg [.int .i64 i, .int .i64 h], w, .agg [x, .int .i64 y]] H (.tup [.nils, .int .i64 700]) H := by
  suffices hh : ∃ v H', (v = .tup [.nils, .int .i64 700] ∧ H <+: H') ∧ Call Try.prog 16 [.agg [.int .i64 i, .int .i64 h], w, .agg [x, .int .i64 y]] H v H' by
    obtain ⟨v, H', ⟨rfl, hp⟩, h4⟩ := hh
    exact h4.forget hp rfl
  refine call_wq fit mixed Try.func16 rfl rfl rfl (by kernel_rfl) ?_
  obtain ⟨H1, hH1⟩ : ∃ H1, H ++ [.row [.int .i64 i, .int .i64 h] true] ++ [.row [x, .int .i64 y] true] = H1 := ⟨_, rfl⟩
  have p1 : H <+: H1 := by rw [← hH1, List.append_assoc]; exact List.prefix_append _ _
  have l0 : loadV T 23 H1 H.length 0 = some (.agg [.int .i64 i, .int .i64 h]) := by
    refine loadV_agg T23 rfl ?_
    rw [← hH1, List.append_assoc, loadN_app0]; rfl
  have l1 : loadV T 26 H1 (H ++ [.row [.int .i64 i, .int .i64 h] true] : Heap).length 0 = some (.agg [x, .int .i64 y]) := by
    refine loadV_agg T26 rfl ?_
    rw [← hH1, loadN_app0]; rfl
  have c1 := refFits_ H1 i h w ws (hw.mono p1) lw
  have c2 := refRowMay_ H1 i h y x xs (hx.mono p1) lx
  clear hw hx lw lx
  cases hf : fits i h ws
  · rw [hf] at c1
    clear hbad hf
    repeat (first | refine l_go ?_ | refine d_go ?_ | refine l_onG ?_ | refine l_offG ?_ | refine d_onG ?_ | refine d_offG ?_ | refine wq_seq ?_ | refine wq_line ?_ | refine wq_draw (by decide +kernel) ?_ | refine wq_block ?_ | refine l_nil ?_ | refine d_nil ?_ | refine wq_skip ?_ | refine wq_ret ?_ | refine wq_exit ?_ | refine th_normal ?_ | refine th_ret ?_ | refine th_exit ?_ | refine bk_normal ?_ | refine bk_ret ?_ | refine bk_exit ?_ | refine bk_other rfl ?_)
    refine l_heap (h' := H1) hH1 ?_
    repeat (first | refine l_go ?_ | refine d_go ?_ | refine l_onG ?_ | refine l_offG ?_ | refine d_onG ?_ | refine d_offG ?_ | refine wq_seq ?_ | refine wq_line ?_ | refine wq_draw (by decide +kernel) ?_ | refine wq_block ?_ | refine l_nil ?_ | refine d_nil ?_ | refine wq_skip ?_ | refine wq_ret ?_ | refine wq_exit ?_ | refine th_normal ?_ | refine th_ret ?_ | refine th_exit ?_ | refine bk_normal ?_ | refine bk_ret ?_ | refine bk_exit ?_ | refine bk_other rfl ?_)
    refine l_callG c1 ?_
    repeat (first | refine l_go ?_ | refine d_go ?_ | refine l_onG ?_ | refine l_offG ?_ | refine d_onG ?_ | refine d_offG ?_ | refine wq_seq ?_ | refine wq_line ?_ | refine wq_draw (by decide +kernel) ?_ | refine wq_block ?_ | refine l_nil ?_ | refine d_nil ?_ | refine wq_skip ?_ | refine wq_ret ?_ | refine wq_exit ?_ | refine th_normal ?_ | refine th_ret ?_ | refine th_exit ?_ | refine bk_normal ?_ | refine bk_ret ?_ | refine bk_exit ?_ | refine bk_other rfl ?_)
    refine cond_go (fun hb => ?_) (fun hb => ?_)
    · repeat (first | refine l_go ?_ | refine d_go ?_ | refine l_onG ?_ | refine l_offG ?_ | refine d_onG ?_ | refine d_offG ?_ | refine wq_seq ?_ | refine wq_line ?_ | refine wq_draw (by decide +kernel) ?_ | refine wq_block ?_ | refine l_nil ?_ | refine d_nil ?_ | refine wq_skip ?_ | refine wq_ret ?_ | refine wq_exit ?_ | refine th_normal ?_ | refine th_ret ?_ | refine th_exit ?_ | refine bk_normal ?_ | refine bk_ret ?_ | refine bk_exit ?_ | refine bk_other rfl ?_)
      refine end_ret (by simp only [resRf, resRs, resR]; first | done | rfl) ⟨?_, p1⟩
      simp [put_app, put_none]
    · cases hb
  · have hy : (shapeMay i h && feeds i xs && fixMay y) = false := by
      rw [hf, Bool.true_and] at hbad
      rw [(fits_split hf).1, Bool.true_and]; exact hbad
    rw [hf] at c1
    rw [hy] at c2
    clear hbad hf hy
    repeat (first | refine l_go ?_ | refine d_go ?_ | refine l_onG ?_ | refine l_offG ?_ | refine d_onG ?_ | refine d_offG ?_ | refine wq_seq ?_ | refine wq_line ?_ | refine wq_draw (by decide +kernel) ?_ | refine wq_block ?_ | refine l_nil ?_ | refine d_nil ?_ | refine wq_skip ?_ | refine wq_ret ?_ | refine wq_exit ?_ | refine th_normal ?_ | refine th_ret ?_ | refine th_exit ?_ | refine bk_normal ?_ | refine bk_ret ?_ | refine bk_exit ?_ | refine bk_other rfl ?_)
    refine l_heap (h' := H1) hH1 ?_
    repeat (first | refine l_go ?_ | refine d_go ?_ | refine l_onG ?_ | refine l_offG ?_ | refine d_onG ?_ | refine d_offG ?_ | refine wq_seq ?_ | refine wq_line ?_ | refine wq_draw (by decide +kernel) ?_ | refine wq_block ?_ | refine l_nil ?_ | refine d_nil ?_ | refine wq_skip ?_ | refine wq_ret ?_ | refine wq_exit ?_ | refine th_normal ?_ | refine th_ret ?_ | refine th_exit ?_ | refine bk_normal ?_ | refine bk_ret ?_ | refine bk_exit ?_ | refine bk_other rfl ?_)
    refine l_callG c1 ?_
    repeat (first | refine l_go ?_ | refine d_go ?_ | refine l_onG ?_ | refine l_offG ?_ | refine d_onG ?_ | refine d_offG ?_ | refine wq_seq ?_ | refine wq_line ?_ | refine wq_draw (by decide +kernel) ?_ | refine wq_block ?_ | refine l_nil ?_ | refine d_nil ?_ | refine wq_skip ?_ | refine wq_ret ?_ | refine wq_exit ?_ | refine th_normal ?_ | refine th_ret ?_ | refine th_exit ?_ | refine bk_normal ?_ | refine bk_ret ?_ | refine bk_exit ?_ | refine bk_other rfl ?_)
    refine l_callG c2 ?_
    repeat (first | refine l_go ?_ | refine d_go ?_ | refine l_onG ?_ | refine l_offG ?_ | refine d_onG ?_ | refine d_offG ?_ | refine wq_seq ?_ | refine wq_line ?_ | refine wq_draw (by decide +kernel) ?_ | refine wq_block ?_ | refine l_nil ?_ | refine d_nil ?_ | refine wq_skip ?_ | refine wq_ret ?_ | refine wq_exit ?_ | refine th_normal ?_ | refine th_ret ?_ | refine th_exit ?_ | refine bk_normal ?_ | refine bk_ret ?_ | refine bk_exit ?_ | refine bk_other rfl ?_)
    refine cond_go (fun hb => ?_) (fun hb => ?_)
    · repeat (first | refine l_go ?_ | refine d_go ?_ | refine l_onG ?_ | refine l_offG ?_ | refine d_onG ?_ | refine d_offG ?_ | refine wq_seq ?_ | refine wq_line ?_ | refine wq_draw (by decide +kernel) ?_ | refine wq_block ?_ | refine l_nil ?_ | refine d_nil ?_ | refine wq_skip ?_ | refine wq_ret ?_ | refine wq_exit ?_ | refine th_normal ?_ | refine th_ret ?_ | refine th_exit ?_ | refine bk_normal ?_ | refine bk_ret ?_ | refine bk_exit ?_ | refine bk_other rfl ?_)
      refine end_ret (by simp only [resRf, resRs, resR]; first | done | rfl) ⟨?_, p1⟩
      simp [put_app, put_none]
    · cases hb

theorem refGrad_good (H : Heap) (i h : Nat) (y : Int) (w x : V) (ws xs : List Int) (hw : Sl 1 intC H w ws) (hx : Sl 1 intC H x xs) (hf : fits i h ws = true) (hfeed : feeds i xs = true) (hy : fixMay y = true) :
    ∃ u H', Call Try.prog 16 [.agg [.int .i64 i, .int .i64 h], w, .agg [x, .int .i64 y]] H (.tup [u, .int .i64 0]) H' ∧ Mine 1 intC H H' u (grad i h ws xs y) := by
  suffices hgoal : ∃ v H', (∃ u, v = .tup [u, .int .i64 0] ∧ Mine 1 intC H H' u (grad i h ws xs y)) ∧ Call Try.prog 16 [.agg [.int .i64 i, .int .i64 h], w, .agg [x, .int .i64 y]] H v H' by
    obtain ⟨_, H', ⟨u, rfl, h1⟩, h2⟩ := hgoal
    exact ⟨u, H', h2, h1⟩
  refine call_wq fit mixed Try.func16 rfl rfl rfl (by kernel_rfl) ?_
  obtain ⟨hsm, hvw, i', h', hi', hh', hi1, hi2, hh1, hh2, hs⟩ := fits_split hf
  obtain rfl : i = i' := Int.ofNat_inj.1 hi'
  obtain rfl : h = h' := Int.ofNat_inj.1 hh'
  obtain ⟨hxl, hvx⟩ := feeds_split hfeed
  have hxl' : xs.length = i := Int.ofNat_inj.1 hxl
  have hwl := vecMay_len hvw
  have hsmall := small_size hi2 hh2
  obtain ⟨rb, hrb⟩ : ∃ rb, (H ++ [.row [.int .i64 i, .int .i64 h] true] : Heap).length = rb := ⟨_, rfl⟩
  obtain ⟨H1, hH1⟩ : ∃ H1, H ++ [.row [.int .i64 i, .int .i64 h] true] ++ [.row [x, .int .i64 y] true] = H1 := ⟨_, rfl⟩
  have p1 : H <+: H1 := by rw [← hH1, List.append_assoc]; exact List.prefix_append _ _
  have q0 : ∀ H2, H1 <+: H2 → loadV T 24 H2 rb 0 = some x := fun H2 hp => by
    refine loadV_one T24 rfl (loadN_pre hp ?_)
    rw [← hH1, ← hrb, loadN_app0]; rfl
  have q1 : ∀ H2, H1 <+: H2 → loadV T 3 H2 rb 1 = some (.int .i64 y) := fun H2 hp => by
    refine loadV_one T3 rfl (loadN_pre hp ?_)
    rw [← hH1, ← hrb, loadN_app0]; rfl
  have q2 : ∀ H2, H1 <+: H2 → loadV T 3 H2 H.length 0 = some (.int .i64 i) := fun H2 hp => by
    refine loadV_one T3 rfl (loadN_pre hp ?_)
    rw [← hH1, List.append_assoc, loadN_app0]; rfl
  have q3 : ∀ H2, H1 <+: H2 → loadV T 3 H2 H.length 1 = some (.int .i64 h) := fun H2 hp => by
    refine loadV_one T3 rfl (loadN_pre hp ?_)
    rw [← hH1, List.append_assoc, loadN_app0]; rfl
  have q4 : ∀ H2, H1 <+: H2 → loadV T 23 H2 H.length 0 = some (.agg [.int .i64 i, .int .i64 h]) := fun H2 hp => by
    refine loadV_agg T23 rfl (loadN_pre hp ?_)
    rw [← hH1, List.append_assoc, loadN_app0]; rfl
  have lr : loadV T 26 H1 rb 0 = some (.agg [x, .int .i64 y]) := by
    refine loadV_agg T26 rfl ?_
    rw [← hH1, ← hrb, loadN_app0]; rfl
  have c1 := refFits_ H1 i h w ws (hw.mono p1) (by omega)
  have c2 := refRowMay_ H1 i h y x xs (hx.mono p1) (by omega)
  rw [hf] at c1
  rw [hsm, hfeed, hy] at c2
  have c3 := refOut_ H1 i h w x ws xs (hw.mono p1) (hx.mono p1) hf hfeed
  obtain ⟨u10, H2, c4, hm10⟩ := refHidden_ H1 i h w x ws xs (hw.mono p1) (hx.mono p1) hf hfeed
  obtain ⟨us, hus⟩ : ∃ us, units i h ws xs = us := ⟨_, rfl⟩
  have husm : ∀ z ∈ us, fixMay z = true := by
    rw [← hus]
    intro z hz
    obtain ⟨k, _, rfl⟩ := List.mem_map.1 hz
    exact plus_may _ _
  have husl : us.length = h := by rw [← hus]; simp [units]
  rw [hus] at hm10
  obtain ⟨u12, H3, c5, hm12⟩ := refActs_ H2 u10 us hm10.sl (by omega) husm
  obtain ⟨al, hal⟩ : ∃ al, acts us = al := ⟨_, rfl⟩
  have hall : al.length = h := by rw [← hal]; simp [acts, husl]
  rw [hal] at hm12
  obtain ⟨e, he⟩ : ∃ e, plus (outOf i h ws xs) (neg y) = e := ⟨_, rfl⟩
  have c6 : Call Try.prog 26 [.int .i64 (outOf i h ws xs), .int .i64 (IntKind.i64.wrap (0 - y))] H3 (.int .i64 e) H3 := by rw [← he]; exact refPlus_ H3 _ _
  have c7 := refsize_ H3 i h hi2 hh2
  have p13 : H1 <+: H3 := hm10.1.trans hm12.1
  have l1 := q4 H1 (List.prefix_refl _)
  have l2 := q0 H1 (List.prefix_refl _)
  have l3 := q1 H3 p13
  have l4 := q2 H3 p13
  have l5 := q3 H3 p13
  have l6 := q4 H3 p13
  obtain ⟨a, ha⟩ : ∃ a, h * (i + 1) = a := ⟨_, rfl⟩
  obtain ⟨n, hn⟩ : ∃ n, netSize i h = n := ⟨_, rfl⟩
  have hna : a + h + 1 = n := by rw [← hn, ← ha]; rfl
  rw [hn] at c7 hs
  have hsl10 := hm10.sl.mono hm12.1
  have hsl12 := hm12.sl
  have w1 : IntKind.i64.wrap ((i : Int) + 1) = ((i + 1 : Nat) : Int) := wrap_succ (by omega)
  have w2 : IntKind.i64.wrap ((h : Int) * ((i + 1 : Nat) : Int)) = (a : Int) := by rw [← Int.natCast_mul, ha]; exact wrap_nat (by omega)
  have w3 : IntKind.i64.wrap ((a : Int) + (h : Int)) = ((a + h : Nat) : Int) := by rw [← Int.natCast_add]; exact wrap_nat (by omega)
  -- what is to come out
  obtain ⟨G, hG⟩ : ∃ G, grad i h ws xs y = G := ⟨_, rfl⟩
  have hgr : G = (List.range h).flatMap (gradRow i h ws xs e us) ++ (al.map (fun a => times e a) ++ [e]) := by
    have hou : tells i h ws us = outOf i h ws xs := by rw [outOf, hus]
    rw [← hG]; unfold grad; simp only [hus, hou, he, hal]
  have hrl : ∀ k, (gradRow i h ws xs e us k).length = i + 1 := fun k => by simp [gradRow, hxl']
  have hfl := flat_len hrl h
  rw [ha] at hfl
  have hGl : G.length = n := by rw [hgr]; simp only [List.length_append, List.length_map, List.length_cons, List.length_nil, hfl, hall]; omega
  have g1 : ∀ k, k < h → ∀ j, j < i + 1 → G[k * (i + 1) + j]? = (gradRow i h ws xs e us k)[j]? := fun k hk j hj => by
    have hue := unit_end (i := i) hk
    rw [hgr, List.getElem?_append_left (by rw [hfl, ← ha]; omega)]
    exact flat_get hrl hj hk
  have g2 : ∀ k, k < h → G[a + k]? = some (times e (al.getD k 0)) := fun k hk => by
    rw [hgr, List.getElem?_append_right (by rw [hfl]; omega), hfl, Nat.add_sub_cancel_left, List.getElem?_append_left (by simp [hall, hk]), List.getElem?_map, getD_some (by omega)]
    rfl
  have g3 : G[a + h]? = some e := by
    rw [hgr, List.getElem?_append_right (by rw [hfl]; omega), hfl, Nat.add_sub_cancel_left, List.getElem?_append_right (by simp [hall])]
    simp [hall]
  rw [hG]
  have hm0 := int_make H3 n
  have p03 : H <+: H3 := p1.trans p13
  clear hgr hG hus hf hfeed hy hi' hh' hal he hm10 hm12 hsm hvx
  repeat (first | refine l_go ?_ | refine d_go ?_ | refine l_onG ?_ | refine l_offG ?_ | refine d_onG ?_ | refine d_offG ?_ | refine wq_seq ?_ | refine wq_line ?_ | refine wq_draw (by decide +kernel) ?_ | refine wq_block ?_ | refine l_nil ?_ | refine d_nil ?_ | refine wq_skip ?_ | refine wq_ret ?_ | refine wq_exit ?_ | refine th_normal ?_ | refine th_ret ?_ | refine th_exit ?_ | refine bk_normal ?_ | refine bk_ret ?_ | refine bk_exit ?_ | refine bk_other rfl ?_)
  refine l_heap (h' := H1) hH1 ?_
  rw [hrb]
  repeat (first | refine l_go ?_ | refine d_go ?_ | refine l_onG ?_ | refine l_offG ?_ | refine d_onG ?_ | refine d_offG ?_ | refine wq_seq ?_ | refine wq_line ?_ | refine wq_draw (by decide +kernel) ?_ | refine wq_block ?_ | refine l_nil ?_ | refine d_nil ?_ | refine wq_skip ?_ | refine wq_ret ?_ | refine wq_exit ?_ | refine th_normal ?_ | refine th_ret ?_ | refine th_exit ?_ | refine bk_normal ?_ | refine bk_ret ?_ | refine bk_exit ?_ | refine bk_other rfl ?_)
  refine l_callG c1 ?_
  repeat (first | refine l_go ?_ | refine d_go ?_ | refine l_onG ?_ | refine l_offG ?_ | refine d_onG ?_ | refine d_offG ?_ | refine wq_seq ?_ | refine wq_line ?_ | refine wq_draw (by decide +kernel) ?_ | refine wq_block ?_ | refine l_nil ?_ | refine d_nil ?_ | refine wq_skip ?_ | refine wq_ret ?_ | refine wq_exit ?_ | refine th_normal ?_ | refine th_ret ?_ | refine th_exit ?_ | refine bk_normal ?_ | refine bk_ret ?_ | refine bk_exit ?_ | refine bk_other rfl ?_)
  refine l_callG c2 ?_
  repeat (first | refine l_go ?_ | refine d_go ?_ | refine l_onG ?_ | refine l_offG ?_ | refine d_onG ?_ | refine d_offG ?_ | refine wq_seq ?_ | refine wq_line ?_ | refine wq_draw (by decide +kernel) ?_ | refine wq_block ?_ | refine l_nil ?_ | refine d_nil ?_ | refine wq_skip ?_ | refine wq_ret ?_ | refine wq_exit ?_ | refine th_normal ?_ | refine th_ret ?_ | refine th_exit ?_ | refine bk_normal ?_ | refine bk_ret ?_ | refine bk_exit ?_ | refine bk_other rfl ?_)
  refine cond_go (fun hb => ?_) (fun hb => ?_)
  · cases hb
  clear hb c1 c2
  refine wq_cut (fun ρ => ρ 1 = w ∧ ρ 3 = .ptr H.length 0 ∧ ρ 5 = .ptr rb 0) ⟨rfl, rfl, rfl⟩ ?_
  rintro ρ ⟨h1, h3, h5⟩
  repeat (first | refine l_go ?_ | refine d_go ?_ | refine l_onG ?_ | refine l_offG ?_ | refine d_onG ?_ | refine d_offG ?_ | refine wq_seq ?_ | refine wq_line ?_ | refine wq_draw (by decide +kernel) ?_ | refine wq_block ?_ | refine l_nil ?_ | refine d_nil ?_ | refine wq_skip ?_ | refine wq_ret ?_ | refine wq_exit ?_ | refine th_normal ?_ | refine th_ret ?_ | refine th_exit ?_ | refine bk_normal ?_ | refine bk_ret ?_ | refine bk_exit ?_ | refine bk_other rfl ?_)
  refine l_callG c3 ?_
  repeat (first | refine l_go ?_ | refine d_go ?_ | refine l_onG ?_ | refine l_offG ?_ | refine d_onG ?_ | refine d_offG ?_ | refine wq_seq ?_ | refine wq_line ?_ | refine wq_draw (by decide +kernel) ?_ | refine wq_block ?_ | refine l_nil ?_ | refine d_nil ?_ | refine wq_skip ?_ | refine wq_ret ?_ | refine wq_exit ?_ | refine th_normal ?_ | refine th_ret ?_ | refine th_exit ?_ | refine bk_normal ?_ | refine bk_ret ?_ | refine bk_exit ?_ | refine bk_other rfl ?_)
  refine l_callG c4 ?_
  repeat (first | refine l_go ?_ | refine d_go ?_ | refine l_onG ?_ | refine l_offG ?_ | refine d_onG ?_ | refine d_offG ?_ | refine wq_seq ?_ | refine wq_line ?_ | refine wq_draw (by decide +kernel) ?_ | refine wq_block ?_ | refine l_nil ?_ | refine d_nil ?_ | refine wq_skip ?_ | refine wq_ret ?_ | refine wq_exit ?_ | refine th_normal ?_ | refine th_ret ?_ | refine th_exit ?_ | refine bk_normal ?_ | refine bk_ret ?_ | refine bk_exit ?_ | refine bk_other rfl ?_)
  refine l_callG c5 ?_
  repeat (first | refine l_go ?_ | refine d_go ?_ | refine l_onG ?_ | refine l_offG ?_ | refine d_onG ?_ | refine d_offG ?_ | refine wq_seq ?_ | refine wq_line ?_ | refine wq_draw (by decide +kernel) ?_ | refine wq_block ?_ | refine l_nil ?_ | refine d_nil ?_ | refine wq_skip ?_ | refine wq_ret ?_ | refine wq_exit ?_ | refine th_normal ?_ | refine th_ret ?_ | refine th_exit ?_ | refine bk_normal ?_ | refine bk_ret ?_ | refine bk_exit ?_ | refine bk_other rfl ?_)
  refine l_callG c6 ?_
  repeat (first | refine l_go ?_ | refine d_go ?_ | refine l_onG ?_ | refine l_offG ?_ | refine d_onG ?_ | refine d_offG ?_ | refine wq_seq ?_ | refine wq_line ?_ | refine wq_draw (by decide +kernel) ?_ | refine wq_block ?_ | refine l_nil ?_ | refine d_nil ?_ | refine wq_skip ?_ | refine wq_ret ?_ | refine wq_exit ?_ | refine th_normal ?_ | refine th_ret ?_ | refine th_exit ?_ | refine bk_normal ?_ | refine bk_ret ?_ | refine bk_exit ?_ | refine bk_other rfl ?_)
  refine l_callG c7 ?_
  repeat (first | refine l_go ?_ | refine d_go ?_ | refine l_onG ?_ | refine l_offG ?_ | refine d_onG ?_ | refine d_offG ?_ | refine wq_seq ?_ | refine wq_line ?_ | refine wq_draw (by decide +kernel) ?_ | refine wq_block ?_ | refine l_nil ?_ | refine d_nil ?_ | refine wq_skip ?_ | refine wq_ret ?_ | refine wq_exit ?_ | refine th_normal ?_ | refine th_ret ?_ | refine th_exit ?_ | refine bk_normal ?_ | refine bk_ret ?_ | refine bk_exit ?_ | refine bk_other rfl ?_)
  refine l_makeG T24 rfl T3 ?_
  refine l_heap (h' := H3 ++ [.row (zeros [.int .i64 0] n) true]) rfl ?_
  repeat (first | refine l_go ?_ | refine d_go ?_ | refine l_onG ?_ | refine l_offG ?_ | refine d_onG ?_ | refine d_offG ?_ | refine wq_seq ?_ | refine wq_line ?_ | refine wq_draw (by decide +kernel) ?_ | refine wq_block ?_ | refine l_nil ?_ | refine d_nil ?_ | refine wq_skip ?_ | refine wq_ret ?_ | refine wq_exit ?_ | refine th_normal ?_ | refine th_ret ?_ | refine th_exit ?_ | refine bk_normal ?_ | refine bk_ret ?_ | refine bk_exit ?_ | refine bk_other rfl ?_)
  clear c3 c4 c5 c6 c7 l1 l2 l3 l4 l5 l6 lr
  refine wq_loop (fun c ρ hp => ∃ k out, k ≤ h ∧ c = h - k ∧ Mine 1 intC H3 hp (.slc H3.length 0 n n true 1) out ∧ Fill G (fun p => p < k * (i + 1) ∨ (a ≤ p ∧ p < a + k)) out ∧ ρ 1 = w ∧ ρ 3 = .ptr H.length 0 ∧ ρ 5 = .ptr rb 0 ∧ ρ 10 = u10 ∧ ρ 12 = u12 ∧ ρ 13 = .int .i64 e ∧ ρ 14 = .int .i64 a ∧ ρ 15 = .slc H3.length 0 n n true 1 ∧ ρ 16 = .int .i64 (k : Nat)) ⟨0, _, Nat.zero_le _, rfl, hm0, ⟨by simp [hGl], fun p hp => by omega⟩, h1, h3, h5, rfl, rfl, rfl, rfl, rfl, rfl⟩ ?_
  clear h1 h3 h5
  clear ρ
  rintro _ ρ hp ⟨k, out, hk, rfl, hm, hF, h1, h3, h5, h10, h12, h13, h14, h15, h16⟩
  have m1 := p13.trans hm.1
  have l1 := q3 hp m1
  repeat (first | refine l_go ?_ | refine d_go ?_ | refine l_onG ?_ | refine l_offG ?_ | refine d_onG ?_ | refine d_offG ?_ | refine wq_seq ?_ | refine wq_line ?_ | refine wq_draw (by decide +kernel) ?_ | refine wq_block ?_ | refine l_nil ?_ | refine d_nil ?_ | refine wq_skip ?_ | refine wq_ret ?_ | refine wq_exit ?_ | refine th_normal ?_ | refine th_ret ?_ | refine th_exit ?_ | refine bk_normal ?_ | refine bk_ret ?_ | refine bk_exit ?_ | refine bk_other rfl ?_)
  refine cond_go (fun hb => ?_) (fun hb => ?_)
  · have hk' : k < h := by simpa using hb
    clear hb
    have hue := unit_end (i := i) hk'
    have l0 := q2 hp m1
    have l2 := q0 hp m1
    have hol : out.length = n := by rw [hF.1, hGl]
    have hg1 := getD_some (xs := us) (k := k) (by omega)
    obtain ⟨b2, o2, _, hi2', rfl, _, hlo2, _⟩ := (hsl10.mono hm.1).get T24 rfl T3 rfl hg1
    have ho2 := loadV_one T3 rfl hlo2
    have hg2 := getD_some (xs := ws) (k := a + k) (by omega)
    obtain ⟨b3, o3, _, hi3, rfl, _, hlo3, _⟩ := (hw.mono (p1.trans m1)).get T24 rfl T3 rfl hg2
    have ho3 := loadV_one T3 rfl hlo3
    have c1 := refSlope_ hp (us.getD k 0) (husm _ (List.mem_iff_getElem?.2 ⟨k, hg1⟩))
    have c2 := refTimes_ hp e (ws.getD (a + k) 0)
    have c3 := refTimes_ hp (times e (ws.getD (a + k) 0)) (rise (us.getD k 0))
    obtain ⟨d, hd⟩ : ∃ d, times (times e (ws.getD (a + k) 0)) (rise (us.getD k 0)) = d := ⟨_, rfl⟩
    have hrow : gradRow i h ws xs e us k = xs.map (fun x => times d x) ++ [d] := by unfold gradRow; simp only [ha, hd]
    rw [hd] at c3
    obtain ⟨mm, hmm⟩ : ∃ mm, k * (i + 1) = mm := ⟨_, rfl⟩
    have w4 : IntKind.i64.wrap ((a : Int) + (k : Int)) = ((a + k : Nat) : Int) := by rw [← Int.natCast_add]; exact wrap_nat (by omega)
    have w5 : IntKind.i64.wrap ((k : Int) * ((i + 1 : Nat) : Int)) = (mm : Int) := by rw [← Int.natCast_mul, hmm]; exact wrap_nat (by omega)
    have w6 : IntKind.i64.wrap ((mm : Int) + (i : Int)) = ((mm + i : Nat) : Int) := by rw [← Int.natCast_add]; exact wrap_nat (by omega)
    have w7 := wrap_succ (n := k) (by omega)
    have hgk := g1 k hk'
    rw [hmm] at hgk hue hF
    have hma : mm + i < a := by omega
    clear g1 hd hg1 hg2 hlo2 hlo3
    repeat (first | refine l_go ?_ | refine d_go ?_ | refine l_onG ?_ | refine l_offG ?_ | refine d_onG ?_ | refine d_offG ?_ | refine wq_seq ?_ | refine wq_line ?_ | refine wq_draw (by decide +kernel) ?_ | refine wq_block ?_ | refine l_nil ?_ | refine d_nil ?_ | refine wq_skip ?_ | refine wq_ret ?_ | refine wq_exit ?_ | refine th_normal ?_ | refine th_ret ?_ | refine th_exit ?_ | refine bk_normal ?_ | refine bk_ret ?_ | refine bk_exit ?_ | refine bk_other rfl ?_)
    refine l_callG c1 ?_
    repeat (first | refine l_go ?_ | refine d_go ?_ | refine l_onG ?_ | refine l_offG ?_ | refine d_onG ?_ | refine d_offG ?_ | refine wq_seq ?_ | refine wq_line ?_ | refine wq_draw (by decide +kernel) ?_ | refine wq_block ?_ | refine l_nil ?_ | refine d_nil ?_ | refine wq_skip ?_ | refine wq_ret ?_ | refine wq_exit ?_ | refine th_normal ?_ | refine th_ret ?_ | refine th_exit ?_ | refine bk_normal ?_ | refine bk_ret ?_ | refine bk_exit ?_ | refine bk_other rfl ?_)
    refine l_callG c2 ?_
    repeat (first | refine l_go ?_ | refine d_go ?_ | refine l_onG ?_ | refine l_offG ?_ | refine d_onG ?_ | refine d_offG ?_ | refine wq_seq ?_ | refine wq_line ?_ | refine wq_draw (by decide +kernel) ?_ | refine wq_block ?_ | refine l_nil ?_ | refine d_nil ?_ | refine wq_skip ?_ | refine wq_ret ?_ | refine wq_exit ?_ | refine th_normal ?_ | refine th_ret ?_ | refine th_exit ?_ | refine bk_normal ?_ | refine bk_ret ?_ | refine bk_exit ?_ | refine bk_other rfl ?_)
    refine l_callG c3 ?_
    repeat (first | refine l_go ?_ | refine d_go ?_ | refine l_onG ?_ | refine l_offG ?_ | refine d_onG ?_ | refine d_offG ?_ | refine wq_seq ?_ | refine wq_line ?_ | refine wq_draw (by decide +kernel) ?_ | refine wq_block ?_ | refine l_nil ?_ | refine d_nil ?_ | refine wq_skip ?_ | refine wq_ret ?_ | refine wq_exit ?_ | refine th_normal ?_ | refine th_ret ?_ | refine th_exit ?_ | refine bk_normal ?_ | refine bk_ret ?_ | refine bk_exit ?_ | refine bk_other rfl ?_)
    refine wq_loop (fun c ρ hp => ∃ j out, j ≤ i ∧ c = i - j ∧ Mine 1 intC H3 hp (.slc H3.length 0 n n true 1) out ∧ Fill G (fun p => p < mm + j ∨ (a ≤ p ∧ p < a + k)) out ∧ ρ 1 = w ∧ ρ 3 = .ptr H.length 0 ∧ ρ 5 = .ptr rb 0 ∧ ρ 10 = u10 ∧ ρ 12 = u12 ∧ ρ 13 = .int .i64 e ∧ ρ 14 = .int .i64 a ∧ ρ 15 = .slc H3.length 0 n n true 1 ∧ ρ 16 = .int .i64 (k : Nat) ∧ ρ 19 = .int .i64 d ∧ ρ 20 = .int .i64 (j : Nat)) ⟨0, out, Nat.zero_le _, rfl, hm, by simpa using hF, h1, h3, h5, h10, h12, h13, h14, h15, h16, rfl, rfl⟩ ?_
    clear h1 h3 h5 h10 h12 h13 h14 h15 h16 c1 c2 c3 ho2 ho3 hi2' hi3 l0 l1 l2 hm hF m1 hol
    clear ρ
    clear out
    rintro _ ρ hp ⟨j, out, hj, rfl, hm, hF, h1, h3, h5, h10, h12, h13, h14, h15, h16, h19, h20⟩
    have m1 := p13.trans hm.1
    have l0 := q2 hp m1
    have hol : out.length = n := by rw [hF.1, hGl]
    repeat (first | refine l_go ?_ | refine d_go ?_ | refine l_onG ?_ | refine l_offG ?_ | refine d_onG ?_ | refine d_offG ?_ | refine wq_seq ?_ | refine wq_line ?_ | refine wq_draw (by decide +kernel) ?_ | refine wq_block ?_ | refine l_nil ?_ | refine d_nil ?_ | refine wq_skip ?_ | refine wq_ret ?_ | refine wq_exit ?_ | refine th_normal ?_ | refine th_ret ?_ | refine th_exit ?_ | refine bk_normal ?_ | refine bk_ret ?_ | refine bk_exit ?_ | refine bk_other rfl ?_)
    refine cond_go (fun hb => ?_) (fun hb => ?_)
    · have hj' : j < i := by simpa using hb
      clear hb
      have l2 := q0 hp m1
      have hg := getD_some (xs := xs) (k := j) (by omega)
      obtain ⟨b2, o2, _, hi2', rfl, _, hlo2, _⟩ := (hx.mono (p1.trans m1)).get T24 rfl T3 rfl hg
      have ho2 := loadV_one T3 rfl hlo2
      have c1 := refTimes_ hp d (xs.getD j 0)
      obtain ⟨b3, o3, H', hi3, hst, hm2⟩ := int_store hm (k := mm + j) (by omega) (times d (xs.getD j 0))
      have hF2 := hF.put (D' := fun p => p < mm + (j + 1) ∨ (a ≤ p ∧ p < a + k)) (q := mm + j) (v := times d (xs.getD j 0)) (by
        rw [hgk j (by omega), hrow, List.getElem?_append_left (by simp; omega), List.getElem?_map, hg]; rfl) (fun p hp => by omega)
      have w8 : IntKind.i64.wrap ((mm : Int) + (j : Int)) = ((mm + j : Nat) : Int) := by rw [← Int.natCast_add]; exact wrap_nat (by omega)
      have w9 := wrap_succ (n := j) (by omega)
      clear hgk hg hlo2 hm hF hrow hrl w7 w6 w4 g2 g3
      repeat (first | refine l_go ?_ | refine d_go ?_ | refine l_onG ?_ | refine l_offG ?_ | refine d_onG ?_ | refine d_offG ?_ | refine wq_seq ?_ | refine wq_line ?_ | refine wq_draw (by decide +kernel) ?_ | refine wq_block ?_ | refine l_nil ?_ | refine d_nil ?_ | refine wq_skip ?_ | refine wq_ret ?_ | refine wq_exit ?_ | refine th_normal ?_ | refine th_ret ?_ | refine th_exit ?_ | refine bk_normal ?_ | refine bk_ret ?_ | refine bk_exit ?_ | refine bk_other rfl ?_)
      refine d_call0G c1 ?_
      repeat (first | refine l_go ?_ | refine d_go ?_ | refine l_onG ?_ | refine l_offG ?_ | refine d_onG ?_ | refine d_offG ?_ | refine wq_seq ?_ | refine wq_line ?_ | refine wq_draw (by decide +kernel) ?_ | refine wq_block ?_ | refine l_nil ?_ | refine d_nil ?_ | refine wq_skip ?_ | refine wq_ret ?_ | refine wq_exit ?_ | refine th_normal ?_ | refine th_ret ?_ | refine th_exit ?_ | refine bk_normal ?_ | refine bk_ret ?_ | refine bk_exit ?_ | refine bk_other rfl ?_)
      refine ⟨i - (j + 1), by omega, j + 1, _, hj', rfl, hm2, hF2, ?_⟩
      simp [put_app, put_none, *]
    · have hj' : j = i := by have : ¬ j < i := by simpa using hb
                             omega
      subst hj'
      clear hb
      obtain ⟨b3, o3, H4, hi3, hst3, hm3⟩ := int_store hm (k := mm + j) (by omega) d
      have hF3 := hF.put (D' := fun p => p < mm + (j + 1) ∨ (a ≤ p ∧ p < a + k)) (q := mm + j) (v := d) (by
        rw [hgk j (by omega), hrow, List.getElem?_append_right (by simp; omega)]; simp [hxl']) (fun p hp => by omega)
      have hg1 := getD_some (xs := al) (k := k) (by omega)
      obtain ⟨b2, o2, _, hi2', rfl, _, hlo2, _⟩ := (hsl12.mono hm3.1).get T24 rfl T3 rfl hg1
      have ho2 := loadV_one T3 rfl hlo2
      have c1 := refTimes_ H4 e (al.getD k 0)
      obtain ⟨b4, o4, H5, hi4, hst4, hm4⟩ := int_store hm3 (k := a + k) (by simp; omega) (times e (al.getD k 0))
      have hF4 := hF3.put (D' := fun p => p < (k + 1) * (j + 1) ∨ (a ≤ p ∧ p < a + (k + 1))) (q := a + k) (g2 k hk') (fun p hp => by
        have : (k + 1) * (j + 1) = mm + (j + 1) := by rw [Nat.add_mul, hmm]; omega
        rw [this] at hp; omega)
      clear hgk hg1 hlo2 hm hm3 hF hF3 hrow hrl g2 g3
      repeat (first | refine l_go ?_ | refine d_go ?_ | refine l_onG ?_ | refine l_offG ?_ | refine d_onG ?_ | refine d_offG ?_ | refine wq_seq ?_ | refine wq_line ?_ | refine wq_draw (by decide +kernel) ?_ | refine wq_block ?_ | refine l_nil ?_ | refine d_nil ?_ | refine wq_skip ?_ | refine wq_ret ?_ | refine wq_exit ?_ | refine th_normal ?_ | refine th_ret ?_ | refine th_exit ?_ | refine bk_normal ?_ | refine bk_ret ?_ | refine bk_exit ?_ | refine bk_other rfl ?_)
      refine l_callG c1 ?_
      repeat (first | refine l_go ?_ | refine d_go ?_ | refine l_onG ?_ | refine l_offG ?_ | refine d_onG ?_ | refine d_offG ?_ | refine wq_seq ?_ | refine wq_line ?_ | refine wq_draw (by decide +kernel) ?_ | refine wq_block ?_ | refine l_nil ?_ | refine d_nil ?_ | refine wq_skip ?_ | refine wq_ret ?_ | refine wq_exit ?_ | refine th_normal ?_ | refine th_ret ?_ | refine th_exit ?_ | refine bk_normal ?_ | refine bk_ret ?_ | refine bk_exit ?_ | refine bk_other rfl ?_)
      refine ⟨h - (k + 1), by omega, k + 1, _, hk', rfl, hm4, hF4, ?_⟩
      simp [put_app, put_none, *]
  · have hk' : k = h := by have : ¬ k < h := by simpa using hb
                           omega
    subst hk'
    clear hb
    have hol : out.length = n := by rw [hF.1, hGl]
    rw [ha] at hF
    obtain ⟨b3, o3, H4, hi3, hst3, hm3⟩ := int_store hm (k := a + k) (by omega) e
    have hF3 := hF.put (D' := fun p => p < n) (q := a + k) g3 (fun p hp => by omega)
    have hout := hF3.all (fun p hp => by omega)
    rw [hout] at hm3
    have hm4 := hm3.low p03
    clear g1 g2 g3 hF hF3 hm hm3 hout hrl
    repeat (first | refine l_go ?_ | refine d_go ?_ | refine l_onG ?_ | refine l_offG ?_ | refine d_onG ?_ | refine d_offG ?_ | refine wq_seq ?_ | refine wq_line ?_ | refine wq_draw (by decide +kernel) ?_ | refine wq_block ?_ | refine l_nil ?_ | refine d_nil ?_ | refine wq_skip ?_ | refine wq_ret ?_ | refine wq_exit ?_ | refine th_normal ?_ | refine th_ret ?_ | refine th_exit ?_ | refine bk_normal ?_ | refine bk_ret ?_ | refine bk_exit ?_ | refine bk_other rfl ?_)
    refine end_ret (by simp only [resRf, resRs, resR]; first | done | rfl) ⟨_, ?_, hm4⟩
    simp [put_app, put_none, *]
end Go.Proofs.Ytjageapgbpdlhaa.VM
