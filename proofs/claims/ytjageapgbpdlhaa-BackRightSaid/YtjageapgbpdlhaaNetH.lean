/- Layer 7: the program's Grad where all fits. -/
import Derived.Test.YtjageapgbpdlhaaNetG
namespace Go.Proofs.Ytjageapgbpdlhaa.VM
open Go
set_option linter.unusedVariables false
set_option linter.unusedSimpArgs false
attribute [local irreducible] wq wqL wqD wqE wqO Th Bk EndR
set_option maxHeartbeats 8000000

theorem flat_snoc (f : Nat → List Int) (k : Nat) : (List.range k).flatMap f ++ f k = (List.range (k + 1)).flatMap f := by
  rw [List.range_succ, List.flatMap_append]; simp
theorem flat_len {f : Nat → List Int} {n : Nat} (hf : ∀ k, (f k).length = n) : ∀ k, ((List.range k).flatMap f).length = k * n
  | 0 => by simp
  | k + 1 => by rw [← flat_snoc, List.length_append, flat_len hf k, hf, Nat.add_mul]; omega

theorem grad_good (H : Heap) (i h : Nat) (y : Int) (w x : V) (ws xs : List Int) (hw : Sl 1 intC H w ws) (hx : Sl 1 intC H x xs) (hf : fits i h ws = true) (hfeed : feeds i xs = true) (hy : fixMay y = true) :
    ∃ u H', Call Try.prog 15 [.agg [.int .i64 i, .int .i64 h], w, .agg [x, .int .i64 y]] H (.tup [u, .int .i64 0]) H' ∧ Mine 1 intC H H' u (grad i h ws xs y) := by
  suffices hgoal : ∃ v H', (∃ u, v = .tup [u, .int .i64 0] ∧ Mine 1 intC H H' u (grad i h ws xs y)) ∧ Call Try.prog 15 [.agg [.int .i64 i, .int .i64 h], w, .agg [x, .int .i64 y]] H v H' by
    obtain ⟨_, H', ⟨u, rfl, h1⟩, h2⟩ := hgoal
    exact ⟨u, H', h2, h1⟩
  refine call_wq fit mixed Try.func15 rfl rfl rfl (by kernel_rfl) ?_
  obtain ⟨hsm, hvw, i', h', hi', hh', hi1, hi2, hh1, hh2, hs⟩ := fits_split hf
  obtain rfl : i = i' := Int.ofNat_inj.1 hi'
  obtain rfl : h = h' := Int.ofNat_inj.1 hh'
  obtain ⟨hxl, hvx⟩ := feeds_split hfeed
  have hxl' : xs.length = i := Int.ofNat_inj.1 hxl
  have hwl := vecMay_len hvw
  have hsmall := small_size hi2 hh2
  obtain ⟨H1, hH1⟩ : ∃ H1, H ++ [.row [.int .i64 i, .int .i64 h] true] ++ [.row [x, .int .i64 y] true] = H1 := ⟨_, rfl⟩
  have p1 : H <+: H1 := by rw [← hH1, List.append_assoc]; exact List.prefix_append _ _
  have l0 : loadV T 23 H1 H.length 0 = some (.agg [.int .i64 i, .int .i64 h]) := by
    refine loadV_agg T23 rfl ?_
    rw [← hH1, List.append_assoc, loadN_app0]; rfl
  obtain ⟨rb, hrb⟩ : ∃ rb, (H ++ [.row [.int .i64 i, .int .i64 h] true] : Heap).length = rb := ⟨_, rfl⟩
  have q0 : ∀ H2, H1 <+: H2 → loadV T 24 H2 rb 0 = some x := fun H2 hp => by
    refine loadV_one T24 rfl (loadN_pre hp ?_)
    rw [← hH1, ← hrb, loadN_app0]; rfl
  have q1 : ∀ H2, H1 <+: H2 → loadV T 3 H2 rb 1 = some (.int .i64 y) := fun H2 hp => by
    refine loadV_one T3 rfl (loadN_pre hp ?_)
    rw [← hH1, ← hrb, loadN_app0]; rfl
  obtain ⟨b, H2, c1, p2, hn⟩ := new_ H1 i h w x ws xs (hw.mono p1) (hx.mono p1) (by omega) (by omega)
  rw [hf, hfeed] at c1
  have c2 := fixMay_ H2 y
  rw [hy] at c2
  have l1 := q0 H1 (List.prefix_refl _)
  have l2 := q1 H2 p2
  have l3 := q0 H2 p2
  obtain ⟨u10, H3, c3, hm10⟩ := units_ H2 b i h w x ws xs hn (hw.mono (p1.trans p2)) (hx.mono (p1.trans p2)) hs hi2 hh2 hxl'
  have p3 : H2 <+: H3 := hm10.1
  have p13 : H1 <+: H3 := p2.trans p3
  have p03 : H <+: H3 := p1.trans p13
  have l4 := q1 H3 p13
  obtain ⟨us, hus⟩ : ∃ us, units i h ws xs = us := ⟨_, rfl⟩
  rw [hus] at hm10
  have husl : us.length = h := by rw [← hus]; simp [units]
  have c4 := tells_ H3 b i h w u10 ws us (hn.mono p3) (hw.mono p03) hm10.sl hs hi2 hh2 husl
  have c5 := fixAnd_ H3 (tells i h ws us) (IntKind.i64.wrap (0 - y))
  obtain ⟨e, he⟩ : ∃ e, plus (tells i h ws us) (neg y) = e := ⟨_, rfl⟩
  have c5' : Call Try.prog 45 [.int .i64 (tells i h ws us), .int .i64 (IntKind.i64.wrap (0 - y))] H3 (.int .i64 e) H3 := by rw [← he]; exact c5
  obtain ⟨la, c6, hla⟩ := last_ H3 b i h w ws (hn.mono p3) (hw.mono p03) hs hi2 hh2
  have hlenu := hm10.sl.len T24 rfl
  rw [husl] at hlenu
  have hgr : grad i h ws xs y = (List.range h).flatMap (gradRow i h ws xs e us) ++ ((acts us).map (fun a => times e a) ++ [e]) := by
    unfold grad; simp only [hus, he]
  have hrl : ∀ k, (gradRow i h ws xs e us k).length = i + 1 := fun k => by simp [gradRow, hxl']
  rw [hgr]
  have hH1' := hH1
  clear c5 he hgr hus hf hfeed hy hi' hh'
  repeat (first | refine l_go ?_ | refine d_go ?_ | refine l_onG ?_ | refine l_offG ?_ | refine d_onG ?_ | refine d_offG ?_ | refine wq_seq ?_ | refine wq_line ?_ | refine wq_draw (by decide +kernel) ?_ | refine wq_block ?_ | refine l_nil ?_ | refine d_nil ?_ | refine wq_skip ?_ | refine wq_ret ?_ | refine wq_exit ?_ | refine th_normal ?_ | refine th_ret ?_ | refine th_exit ?_ | refine bk_normal ?_ | refine bk_ret ?_ | refine bk_exit ?_ | refine bk_other rfl ?_)
  refine l_heap (h' := H1) hH1' ?_
  rw [hrb]
  repeat (first | refine l_go ?_ | refine d_go ?_ | refine l_onG ?_ | refine l_offG ?_ | refine d_onG ?_ | refine d_offG ?_ | refine wq_seq ?_ | refine wq_line ?_ | refine wq_draw (by decide +kernel) ?_ | refine wq_block ?_ | refine l_nil ?_ | refine d_nil ?_ | refine wq_skip ?_ | refine wq_ret ?_ | refine wq_exit ?_ | refine th_normal ?_ | refine th_ret ?_ | refine th_exit ?_ | refine bk_normal ?_ | refine bk_ret ?_ | refine bk_exit ?_ | refine bk_other rfl ?_)
  refine l_callG c1 ?_
  repeat (first | refine l_go ?_ | refine d_go ?_ | refine l_onG ?_ | refine l_offG ?_ | refine d_onG ?_ | refine d_offG ?_ | refine wq_seq ?_ | refine wq_line ?_ | refine wq_draw (by decide +kernel) ?_ | refine wq_block ?_ | refine l_nil ?_ | refine d_nil ?_ | refine wq_skip ?_ | refine wq_ret ?_ | refine wq_exit ?_ | refine th_normal ?_ | refine th_ret ?_ | refine th_exit ?_ | refine bk_normal ?_ | refine bk_ret ?_ | refine bk_exit ?_ | refine bk_other rfl ?_)
  refine l_callG c2 ?_
  repeat (first | refine l_go ?_ | refine d_go ?_ | refine l_onG ?_ | refine l_offG ?_ | refine d_onG ?_ | refine d_offG ?_ | refine wq_seq ?_ | refine wq_line ?_ | refine wq_draw (by decide +kernel) ?_ | refine wq_block ?_ | refine l_nil ?_ | refine d_nil ?_ | refine wq_skip ?_ | refine wq_ret ?_ | refine wq_exit ?_ | refine th_normal ?_ | refine th_ret ?_ | refine th_exit ?_ | refine bk_normal ?_ | refine bk_ret ?_ | refine bk_exit ?_ | refine bk_other rfl ?_)
  refine cond_go (fun hb => ?_) (fun hb => ?_)
  · cases hb
  clear hb c1 c2 l0 l1
  refine wq_cut (fun ρ => ρ 5 = .ptr rb 0 ∧ ρ 8 = .ptr b 0) ⟨rfl, rfl⟩ ?_
  rintro ρ ⟨h5, h8⟩
  repeat (first | refine l_go ?_ | refine d_go ?_ | refine l_onG ?_ | refine l_offG ?_ | refine d_onG ?_ | refine d_offG ?_ | refine wq_seq ?_ | refine wq_line ?_ | refine wq_draw (by decide +kernel) ?_ | refine wq_block ?_ | refine l_nil ?_ | refine d_nil ?_ | refine wq_skip ?_ | refine wq_ret ?_ | refine wq_exit ?_ | refine th_normal ?_ | refine th_ret ?_ | refine th_exit ?_ | refine bk_normal ?_ | refine bk_ret ?_ | refine bk_exit ?_ | refine bk_other rfl ?_)
  refine l_callG c3 ?_
  repeat (first | refine l_go ?_ | refine d_go ?_ | refine l_onG ?_ | refine l_offG ?_ | refine d_onG ?_ | refine d_offG ?_ | refine wq_seq ?_ | refine wq_line ?_ | refine wq_draw (by decide +kernel) ?_ | refine wq_block ?_ | refine l_nil ?_ | refine d_nil ?_ | refine wq_skip ?_ | refine wq_ret ?_ | refine wq_exit ?_ | refine th_normal ?_ | refine th_ret ?_ | refine th_exit ?_ | refine bk_normal ?_ | refine bk_ret ?_ | refine bk_exit ?_ | refine bk_other rfl ?_)
  refine d_call0G c4 ?_
  repeat (first | refine l_go ?_ | refine d_go ?_ | refine l_onG ?_ | refine l_offG ?_ | refine d_onG ?_ | refine d_offG ?_ | refine wq_seq ?_ | refine wq_line ?_ | refine wq_draw (by decide +kernel) ?_ | refine wq_block ?_ | refine l_nil ?_ | refine d_nil ?_ | refine wq_skip ?_ | refine wq_ret ?_ | refine wq_exit ?_ | refine th_normal ?_ | refine th_ret ?_ | refine th_exit ?_ | refine bk_normal ?_ | refine bk_ret ?_ | refine bk_exit ?_ | refine bk_other rfl ?_)
  refine d_call0G c5' ?_
  repeat (first | refine l_go ?_ | refine d_go ?_ | refine l_onG ?_ | refine l_offG ?_ | refine d_onG ?_ | refine d_offG ?_ | refine wq_seq ?_ | refine wq_line ?_ | refine wq_draw (by decide +kernel) ?_ | refine wq_block ?_ | refine l_nil ?_ | refine d_nil ?_ | refine wq_skip ?_ | refine wq_ret ?_ | refine wq_exit ?_ | refine th_normal ?_ | refine th_ret ?_ | refine th_exit ?_ | refine bk_normal ?_ | refine bk_ret ?_ | refine bk_exit ?_ | refine bk_other rfl ?_)
  refine l_callG c6 ?_
  repeat (first | refine l_go ?_ | refine d_go ?_ | refine l_onG ?_ | refine l_offG ?_ | refine d_onG ?_ | refine d_offG ?_ | refine wq_seq ?_ | refine wq_line ?_ | refine wq_draw (by decide +kernel) ?_ | refine wq_block ?_ | refine l_nil ?_ | refine d_nil ?_ | refine wq_skip ?_ | refine wq_ret ?_ | refine wq_exit ?_ | refine th_normal ?_ | refine th_ret ?_ | refine th_exit ?_ | refine bk_normal ?_ | refine bk_ret ?_ | refine bk_exit ?_ | refine bk_other rfl ?_)
  clear l2 l3 l4 c3 c4 c5' c6 hlenu
  refine wq_loop (fun c ρ hp => ∃ k v, k ≤ h ∧ c = h - k ∧ Mine 1 intC H3 hp v ((List.range k).flatMap (gradRow i h ws xs e us)) ∧ ρ 5 = .ptr rb 0 ∧ ρ 10 = u10 ∧ ρ 11 = .int .i64 e ∧ ρ 12 = la ∧ ρ 14 = v ∧ ρ 54 = u10 ∧ ρ 55 = .int .i64 h ∧ ρ 56 = .int .i64 (k : Nat)) ⟨0, .nils, Nat.zero_le _, rfl, Mine.nil (List.prefix_refl _), h5, rfl, rfl, rfl, rfl, rfl, rfl, rfl⟩ ?_
  clear h5 h8
  clear ρ
  rintro _ ρ hp ⟨k, v, hk, rfl, hm, h5, h10, h11, h12, h14, h54, h55, h56⟩
  have l1 := q0 hp (p13.trans hm.1)
  repeat (first | refine l_go ?_ | refine d_go ?_ | refine l_onG ?_ | refine l_offG ?_ | refine d_onG ?_ | refine d_offG ?_ | refine wq_seq ?_ | refine wq_line ?_ | refine wq_draw (by decide +kernel) ?_ | refine wq_block ?_ | refine l_nil ?_ | refine d_nil ?_ | refine wq_skip ?_ | refine wq_ret ?_ | refine wq_exit ?_ | refine th_normal ?_ | refine th_ret ?_ | refine th_exit ?_ | refine bk_normal ?_ | refine bk_ret ?_ | refine bk_exit ?_ | refine bk_other rfl ?_)
  refine cond_go (fun hb => ?_) (fun hb => ?_)
  · have hk' : k < h := by simpa using hb
    clear hb
    have hg1 := getD_some (xs := us) (k := k) (by omega)
    obtain ⟨b2, o2, _, hi2', rfl, _, hlo2, _⟩ := (hm10.sl.mono hm.1).get T24 rfl T3 rfl hg1
    have ho2 := loadV_one T3 rfl hlo2
    have hg2 : ((ws.drop (h * (i + 1))).take h)[k]? = some (ws.getD (h * (i + 1) + k) 0) := by
      rw [List.getElem?_take, if_pos hk', List.getElem?_drop]
      exact getD_some (by rw [hs]; unfold netSize; omega)
    obtain ⟨b3, o3, _, hi3, rfl, _, hlo3, _⟩ := (hla.mono hm.1).get T24 rfl T3 rfl hg2
    have ho3 := loadV_one T3 rfl hlo3
    have c1 := fixTimes_ hp e (ws.getD (h * (i + 1) + k) 0)
    have c2 := actRise_ hp (us.getD k 0)
    have c3 := fixTimes_ hp (times e (ws.getD (h * (i + 1) + k) 0)) (rise (us.getD k 0))
    obtain ⟨d, hd⟩ : ∃ d, times (times e (ws.getD (h * (i + 1) + k) 0)) (rise (us.getD k 0)) = d := ⟨_, rfl⟩
    have hrow : gradRow i h ws xs e us k = xs.map (fun x => times d x) ++ [d] := by unfold gradRow; simp only [hd]
    rw [hd] at c3
    have hlen := ((hx.mono p03).mono hm.1).len T24 rfl
    rw [hxl'] at hlen
    have hw1 := wrap_succ (n := k) (by omega)
    have hout := flat_len hrl k
    have hkm : k * (i + 1) ≤ 12 := Nat.le_trans (Nat.mul_le_mul_right _ (Nat.le_of_lt hk')) hsmall
    repeat (first | refine l_go ?_ | refine d_go ?_ | refine l_onG ?_ | refine l_offG ?_ | refine d_onG ?_ | refine d_offG ?_ | refine wq_seq ?_ | refine wq_line ?_ | refine wq_draw (by decide +kernel) ?_ | refine wq_block ?_ | refine l_nil ?_ | refine d_nil ?_ | refine wq_skip ?_ | refine wq_ret ?_ | refine wq_exit ?_ | refine th_normal ?_ | refine th_ret ?_ | refine th_exit ?_ | refine bk_normal ?_ | refine bk_ret ?_ | refine bk_exit ?_ | refine bk_other rfl ?_)
    refine l_callG c1 ?_
    repeat (first | refine l_go ?_ | refine d_go ?_ | refine l_onG ?_ | refine l_offG ?_ | refine d_onG ?_ | refine d_offG ?_ | refine wq_seq ?_ | refine wq_line ?_ | refine wq_draw (by decide +kernel) ?_ | refine wq_block ?_ | refine l_nil ?_ | refine d_nil ?_ | refine wq_skip ?_ | refine wq_ret ?_ | refine wq_exit ?_ | refine th_normal ?_ | refine th_ret ?_ | refine th_exit ?_ | refine bk_normal ?_ | refine bk_ret ?_ | refine bk_exit ?_ | refine bk_other rfl ?_)
    refine l_callG c2 ?_
    repeat (first | refine l_go ?_ | refine d_go ?_ | refine l_onG ?_ | refine l_offG ?_ | refine d_onG ?_ | refine d_offG ?_ | refine wq_seq ?_ | refine wq_line ?_ | refine wq_draw (by decide +kernel) ?_ | refine wq_block ?_ | refine l_nil ?_ | refine d_nil ?_ | refine wq_skip ?_ | refine wq_ret ?_ | refine wq_exit ?_ | refine th_normal ?_ | refine th_ret ?_ | refine th_exit ?_ | refine bk_normal ?_ | refine bk_ret ?_ | refine bk_exit ?_ | refine bk_other rfl ?_)
    refine l_callG c3 ?_
    repeat (first | refine l_go ?_ | refine d_go ?_ | refine l_onG ?_ | refine l_offG ?_ | refine d_onG ?_ | refine d_offG ?_ | refine wq_seq ?_ | refine wq_line ?_ | refine wq_draw (by decide +kernel) ?_ | refine wq_block ?_ | refine l_nil ?_ | refine d_nil ?_ | refine wq_skip ?_ | refine wq_ret ?_ | refine wq_exit ?_ | refine th_normal ?_ | refine th_ret ?_ | refine th_exit ?_ | refine bk_normal ?_ | refine bk_ret ?_ | refine bk_exit ?_ | refine bk_other rfl ?_)
    refine wq_loop (fun c ρ hp => ∃ j v, j ≤ i ∧ c = i - j ∧ Mine 1 intC H3 hp v ((List.range k).flatMap (gradRow i h ws xs e us) ++ (xs.take j).map (fun x => times d x)) ∧ ρ 5 = .ptr rb 0 ∧ ρ 10 = u10 ∧ ρ 11 = .int .i64 e ∧ ρ 12 = la ∧ ρ 14 = v ∧ ρ 17 = .int .i64 d ∧ ρ 54 = u10 ∧ ρ 55 = .int .i64 h ∧ ρ 56 = .int .i64 (k : Nat) ∧ ρ 71 = x ∧ ρ 72 = .int .i64 i ∧ ρ 73 = .int .i64 (j : Nat)) ⟨0, v, Nat.zero_le _, rfl, by simpa using hm, h5, h10, h11, h12, h14, rfl, h54, h55, h56, rfl, rfl, rfl⟩ ?_
    clear h5 h10 h11 h12 h14 h54 h55 h56 ho2 ho3 hi2' hi3 hlo2 hlo3 c1 c2 c3 hlen l1 hm
    clear ρ
    rintro _ ρ hp ⟨j, v, hj, rfl, hm, h5, h10, h11, h12, h14, h17, h54, h55, h56, h71, h72, h73⟩
    repeat (first | refine l_go ?_ | refine d_go ?_ | refine l_onG ?_ | refine l_offG ?_ | refine d_onG ?_ | refine d_offG ?_ | refine wq_seq ?_ | refine wq_line ?_ | refine wq_draw (by decide +kernel) ?_ | refine wq_block ?_ | refine l_nil ?_ | refine d_nil ?_ | refine wq_skip ?_ | refine wq_ret ?_ | refine wq_exit ?_ | refine th_normal ?_ | refine th_ret ?_ | refine th_exit ?_ | refine bk_normal ?_ | refine bk_ret ?_ | refine bk_exit ?_ | refine bk_other rfl ?_)
    refine cond_go (fun hb => ?_) (fun hb => ?_)
    · have hj' : j < i := by simpa using hb
      clear hb
      have hg := getD_some (xs := xs) (k := j) (by omega)
      obtain ⟨b2, o2, _, hi2', rfl, _, hlo2, _⟩ := (hx.mono (p03.trans hm.1)).get T24 rfl T3 rfl hg
      have ho2 := loadV_one T3 rfl hlo2
      have c1 := fixTimes_ hp d (xs.getD j 0)
      obtain ⟨v', H', n1, a1, m1⟩ := int_append hm (times d (xs.getD j 0)) (by simp [hout]; omega)
      have hnext : (List.range k).flatMap (gradRow i h ws xs e us) ++ (xs.take j).map (fun x => times d x) ++ [times d (xs.getD j 0)] = (List.range k).flatMap (gradRow i h ws xs e us) ++ (xs.take (j + 1)).map (fun x => times d x) := by
        rw [List.take_add_one, hg, List.append_assoc]; simp
      rw [hnext] at m1
      have hw2 := wrap_succ (n := j) (by omega)
      clear hnext hg hlo2 hm hw1 hout hkm hrow hd hrl
      repeat (first | refine l_go ?_ | refine d_go ?_ | refine l_onG ?_ | refine l_offG ?_ | refine d_onG ?_ | refine d_offG ?_ | refine wq_seq ?_ | refine wq_line ?_ | refine wq_draw (by decide +kernel) ?_ | refine wq_block ?_ | refine l_nil ?_ | refine d_nil ?_ | refine wq_skip ?_ | refine wq_ret ?_ | refine wq_exit ?_ | refine th_normal ?_ | refine th_ret ?_ | refine th_exit ?_ | refine bk_normal ?_ | refine bk_ret ?_ | refine bk_exit ?_ | refine bk_other rfl ?_)
      refine l_callG c1 ?_
      repeat (first | refine l_go ?_ | refine d_go ?_ | refine l_onG ?_ | refine l_offG ?_ | refine d_onG ?_ | refine d_offG ?_ | refine wq_seq ?_ | refine wq_line ?_ | refine wq_draw (by decide +kernel) ?_ | refine wq_block ?_ | refine l_nil ?_ | refine d_nil ?_ | refine wq_skip ?_ | refine wq_ret ?_ | refine wq_exit ?_ | refine th_normal ?_ | refine th_ret ?_ | refine th_exit ?_ | refine bk_normal ?_ | refine bk_ret ?_ | refine bk_exit ?_ | refine bk_other rfl ?_)
      refine l_appendG n1 a1 ?_
      repeat (first | refine l_go ?_ | refine d_go ?_ | refine l_onG ?_ | refine l_offG ?_ | refine d_onG ?_ | refine d_offG ?_ | refine wq_seq ?_ | refine wq_line ?_ | refine wq_draw (by decide +kernel) ?_ | refine wq_block ?_ | refine l_nil ?_ | refine d_nil ?_ | refine wq_skip ?_ | refine wq_ret ?_ | refine wq_exit ?_ | refine th_normal ?_ | refine th_ret ?_ | refine th_exit ?_ | refine bk_normal ?_ | refine bk_ret ?_ | refine bk_exit ?_ | refine bk_other rfl ?_)
      refine ⟨i - (j + 1), by omega, j + 1, v', hj', rfl, m1, ?_⟩
      simp [put_app, put_none, *]
    · have hj' : j = i := by have : ¬ j < i := by simpa using hb
                             omega
      subst hj'
      rw [List.take_of_length_le (by omega)] at hm
      obtain ⟨v', H', n1, a1, m1⟩ := int_append hm d (by simp [hout]; omega)
      rw [List.append_assoc, ← hrow, flat_snoc] at m1
      clear hb hout hkm hrow hd hrl hm
      repeat (first | refine l_go ?_ | refine d_go ?_ | refine l_onG ?_ | refine l_offG ?_ | refine d_onG ?_ | refine d_offG ?_ | refine wq_seq ?_ | refine wq_line ?_ | refine wq_draw (by decide +kernel) ?_ | refine wq_block ?_ | refine l_nil ?_ | refine d_nil ?_ | refine wq_skip ?_ | refine wq_ret ?_ | refine wq_exit ?_ | refine th_normal ?_ | refine th_ret ?_ | refine th_exit ?_ | refine bk_normal ?_ | refine bk_ret ?_ | refine bk_exit ?_ | refine bk_other rfl ?_)
      refine l_appendG n1 a1 ?_
      repeat (first | refine l_go ?_ | refine d_go ?_ | refine l_onG ?_ | refine l_offG ?_ | refine d_onG ?_ | refine d_offG ?_ | refine wq_seq ?_ | refine wq_line ?_ | refine wq_draw (by decide +kernel) ?_ | refine wq_block ?_ | refine l_nil ?_ | refine d_nil ?_ | refine wq_skip ?_ | refine wq_ret ?_ | refine wq_exit ?_ | refine th_normal ?_ | refine th_ret ?_ | refine th_exit ?_ | refine bk_normal ?_ | refine bk_ret ?_ | refine bk_exit ?_ | refine bk_other rfl ?_)
      refine ⟨h - (k + 1), by omega, k + 1, v', hk', rfl, m1, ?_⟩
      simp [put_app, put_none, *]
  · have hk' : k = h := by have : ¬ k < h := by simpa using hb
                           omega
    subst hk'
    clear hb l1
    obtain ⟨u90, H5, c1, hm5⟩ := acts_ hp u10 us (hm10.sl.mono hm.1) (by omega)
    have hml := hm.pre hm5.1
    have hap : Apart v u90 := fun b1 c1 e1 e2 => by
      have a1 := hm.blk e1
      have a2 := hm5.blk e2
      omega
    have hlen := hm5.sl.len T24 rfl
    have hal : (acts us).length = k := by simp [acts, husl]
    rw [hal] at hlen
    have hsl := hm5.sl
    obtain ⟨al, has⟩ : ∃ al, acts us = al := ⟨_, rfl⟩
    rw [has] at hsl hal ⊢
    have hout := flat_len hrl k
    repeat (first | refine l_go ?_ | refine d_go ?_ | refine l_onG ?_ | refine l_offG ?_ | refine d_onG ?_ | refine d_offG ?_ | refine wq_seq ?_ | refine wq_line ?_ | refine wq_draw (by decide +kernel) ?_ | refine wq_block ?_ | refine l_nil ?_ | refine d_nil ?_ | refine wq_skip ?_ | refine wq_ret ?_ | refine wq_exit ?_ | refine th_normal ?_ | refine th_ret ?_ | refine th_exit ?_ | refine bk_normal ?_ | refine bk_ret ?_ | refine bk_exit ?_ | refine bk_other rfl ?_)
    refine l_callG c1 ?_
    repeat (first | refine l_go ?_ | refine d_go ?_ | refine l_onG ?_ | refine l_offG ?_ | refine d_onG ?_ | refine d_offG ?_ | refine wq_seq ?_ | refine wq_line ?_ | refine wq_draw (by decide +kernel) ?_ | refine wq_block ?_ | refine l_nil ?_ | refine d_nil ?_ | refine wq_skip ?_ | refine wq_ret ?_ | refine wq_exit ?_ | refine th_normal ?_ | refine th_ret ?_ | refine th_exit ?_ | refine bk_normal ?_ | refine bk_ret ?_ | refine bk_exit ?_ | refine bk_other rfl ?_)
    refine wq_loop (fun c ρ hp => ∃ j v, j ≤ k ∧ c = k - j ∧ Mine 1 intC H3 hp v ((List.range k).flatMap (gradRow i k ws xs e us) ++ (al.take j).map (fun x => times e x)) ∧ Sl 1 intC hp u90 al ∧ Apart v u90 ∧ ρ 11 = .int .i64 e ∧ ρ 14 = v ∧ ρ 90 = u90 ∧ ρ 91 = .int .i64 k ∧ ρ 92 = .int .i64 (j : Nat)) ⟨0, v, Nat.zero_le _, rfl, by simpa using hml, hsl, hap, h11, h14, rfl, rfl, rfl⟩ ?_
    clear h5 h10 h11 h12 h14 h54 h55 h56 c1 hlen hm hml hsl hap hm5
    clear ρ
    rintro _ ρ hp ⟨j, v, hj, rfl, hm, hsl, hap, h11, h14, h90, h91, h92⟩
    repeat (first | refine l_go ?_ | refine d_go ?_ | refine l_onG ?_ | refine l_offG ?_ | refine d_onG ?_ | refine d_offG ?_ | refine wq_seq ?_ | refine wq_line ?_ | refine wq_draw (by decide +kernel) ?_ | refine wq_block ?_ | refine l_nil ?_ | refine d_nil ?_ | refine wq_skip ?_ | refine wq_ret ?_ | refine wq_exit ?_ | refine th_normal ?_ | refine th_ret ?_ | refine th_exit ?_ | refine bk_normal ?_ | refine bk_ret ?_ | refine bk_exit ?_ | refine bk_other rfl ?_)
    refine cond_go (fun hb => ?_) (fun hb => ?_)
    · have hj' : j < k := by simpa using hb
      clear hb
      have hg := getD_some (xs := al) (k := j) (by omega)
      obtain ⟨b2, o2, _, hi2', rfl, _, hlo2, _⟩ := hsl.get T24 rfl T3 rfl hg
      have ho2 := loadV_one T3 rfl hlo2
      have c1 := fixTimes_ hp e (al.getD j 0)
      obtain ⟨v', H', n1, a1, m1, s1, ap1⟩ := int_append2 hm hsl hap (times e (al.getD j 0)) (by simp [hout]; omega)
      have hnext : (List.range k).flatMap (gradRow i k ws xs e us) ++ (al.take j).map (fun x => times e x) ++ [times e (al.getD j 0)] = (List.range k).flatMap (gradRow i k ws xs e us) ++ (al.take (j + 1)).map (fun x => times e x) := by
        rw [List.take_add_one, hg, List.append_assoc]; simp
      rw [hnext] at m1
      have hw2 := wrap_succ (n := j) (by omega)
      clear hnext hg hlo2 hm hsl hap hout hrl
      repeat (first | refine l_go ?_ | refine d_go ?_ | refine l_onG ?_ | refine l_offG ?_ | refine d_onG ?_ | refine d_offG ?_ | refine wq_seq ?_ | refine wq_line ?_ | refine wq_draw (by decide +kernel) ?_ | refine wq_block ?_ | refine l_nil ?_ | refine d_nil ?_ | refine wq_skip ?_ | refine wq_ret ?_ | refine wq_exit ?_ | refine th_normal ?_ | refine th_ret ?_ | refine th_exit ?_ | refine bk_normal ?_ | refine bk_ret ?_ | refine bk_exit ?_ | refine bk_other rfl ?_)
      refine l_callG c1 ?_
      repeat (first | refine l_go ?_ | refine d_go ?_ | refine l_onG ?_ | refine l_offG ?_ | refine d_onG ?_ | refine d_offG ?_ | refine wq_seq ?_ | refine wq_line ?_ | refine wq_draw (by decide +kernel) ?_ | refine wq_block ?_ | refine l_nil ?_ | refine d_nil ?_ | refine wq_skip ?_ | refine wq_ret ?_ | refine wq_exit ?_ | refine th_normal ?_ | refine th_ret ?_ | refine th_exit ?_ | refine bk_normal ?_ | refine bk_ret ?_ | refine bk_exit ?_ | refine bk_other rfl ?_)
      refine l_appendG n1 a1 ?_
      repeat (first | refine l_go ?_ | refine d_go ?_ | refine l_onG ?_ | refine l_offG ?_ | refine d_onG ?_ | refine d_offG ?_ | refine wq_seq ?_ | refine wq_line ?_ | refine wq_draw (by decide +kernel) ?_ | refine wq_block ?_ | refine l_nil ?_ | refine d_nil ?_ | refine wq_skip ?_ | refine wq_ret ?_ | refine wq_exit ?_ | refine th_normal ?_ | refine th_ret ?_ | refine th_exit ?_ | refine bk_normal ?_ | refine bk_ret ?_ | refine bk_exit ?_ | refine bk_other rfl ?_)
      refine ⟨k - (j + 1), by omega, j + 1, v', hj', rfl, m1, s1, ap1, ?_⟩
      simp [put_app, put_none, *]
    · have hj' : j = k := by have : ¬ j < k := by simpa using hb
                             omega
      subst hj'
      rw [List.take_of_length_le (by omega)] at hm
      obtain ⟨v', H', n1, a1, m1⟩ := int_append hm e (by simp [hout]; omega)
      have m2 := m1.low p03
      rw [List.append_assoc] at m2
      clear hb hout hrl hm m1
      repeat (first | refine l_go ?_ | refine d_go ?_ | refine l_onG ?_ | refine l_offG ?_ | refine d_onG ?_ | refine d_offG ?_ | refine wq_seq ?_ | refine wq_line ?_ | refine wq_draw (by decide +kernel) ?_ | refine wq_block ?_ | refine l_nil ?_ | refine d_nil ?_ | refine wq_skip ?_ | refine wq_ret ?_ | refine wq_exit ?_ | refine th_normal ?_ | refine th_ret ?_ | refine th_exit ?_ | refine bk_normal ?_ | refine bk_ret ?_ | refine bk_exit ?_ | refine bk_other rfl ?_)
      refine l_appendG n1 a1 ?_
      repeat (first | refine l_go ?_ | refine d_go ?_ | refine l_onG ?_ | refine l_offG ?_ | refine d_onG ?_ | refine d_offG ?_ | refine wq_seq ?_ | refine wq_line ?_ | refine wq_draw (by decide +kernel) ?_ | refine wq_block ?_ | refine l_nil ?_ | refine d_nil ?_ | refine wq_skip ?_ | refine wq_ret ?_ | refine wq_exit ?_ | refine th_normal ?_ | refine th_ret ?_ | refine th_exit ?_ | refine bk_normal ?_ | refine bk_ret ?_ | refine bk_exit ?_ | refine bk_other rfl ?_)
      refine end_ret (by simp only [resRf, resRs, resR]; first | done | rfl) ⟨v', ?_, m2⟩
      simp [put_app, put_none]
end Go.Proofs.Ytjageapgbpdlhaa.VM
