/- Chapter 7: the statement BackForms. -/
import Derived.Test.YtjageapgbpdlhaaBackE
namespace Go.Proofs.Ytjageapgbpdlhaa.VM
open Go
set_option linter.unusedVariables false
set_option linter.unusedSimpArgs false
attribute [local irreducible] wq wqL wqD wqE wqO Th Bk EndR
set_option maxHeartbeats 8000000

theorem bad_ws (d : Int) (h : 1 ≤ d) : gradOk 2 2 (givenW.set 0 (-1073741824 - d)) [1, 2] 3 = false := by
  have : vecMay (givenW.set 0 (-1073741824 - d)) = false := by
    unfold vecMay
    rw [Bool.and_eq_false_iff]
    right
    rw [List.all_eq_false]
    refine ⟨-1073741824 - d, by simp [givenW], ?_⟩
    simp [within]; omega
  simp [gradOk, fits, this]
theorem bad_xs (d : Int) (h : 1 ≤ d) : gradOk 2 2 givenW [1073741824 + d, 2] 3 = false := by
  have : feeds 2 [1073741824 + d, 2] = false := by simp [feeds, vecMay, within]; omega
  simp [gradOk, this]
theorem bad_y (y : Int) (h : y < -1073741824 ∨ 1073741824 < y) : gradOk 2 2 givenW [1, 2] y = false := by
  have : fixMay y = false := by simp [within]; omega
  simp [gradOk, this]

/-- Grad of what does not fit -/
theorem grad_no (H : Heap) (i h y : Int) (w x : V) (ws xs : List Int) (hw : Sl 1 intC H w ws) (hx : Sl 1 intC H x xs) (lw : ws.length ≤ 2 ^ 47) (lx : xs.length ≤ 2 ^ 47) (hok : gradOk i h ws xs y = false) :
    Call Try.prog 15 [.agg [.int .i64 i, .int .i64 h], w, .agg [x, .int .i64 y]] H (.tup [.nils, .int .i64 700]) H := grad_bad H i h y w x ws xs hw hx lw lx hok

theorem law_backForms {D : Type} (K : Heap) (vs : List V) (ds : List (DataW D)) (ro : Ro K) (h : RdAll T K [3, 3] vs ds) : ∃ K', Call Try.prog 5 vs K (.bool true) K' := by
  obtain ⟨v, vs, d1, ds, rfl, rfl, hv, h⟩ := rdAll_cons h
  obtain ⟨u, vs, d2, ds, rfl, rfl, hu, h⟩ := rdAll_cons h
  obtain ⟨rfl, rfl⟩ := rdAll_nil h
  obtain ⟨n, rfl, hn⟩ := hv.int T3 rfl
  obtain ⟨m, rfl, hm⟩ := hu.int T3 rfl
  clear hu hv hm hn h
  refine ⟨K, ?_⟩
  refine call_plain fit mixed Try.func5 rfl rfl rfl (by kernel_rfl) rfl ?_
  obtain ⟨y, hy, hy0, hy1⟩ := and_mask m 1023 (by decide) (by decide)
  replace hy : IntKind.i64.wrap ((BitVec.ofInt IntKind.i64.bits m &&& BitVec.ofInt IntKind.i64.bits 1023).toNat : Int) = y := hy
  obtain ⟨d, hd⟩ : ∃ d, 1 + y = d := ⟨_, rfl⟩
  have hdd : 1 ≤ d ∧ d ≤ 1024 := by omega
  have hd1 : IntKind.i64.wrap (1 + y) = d := by rw [hd]; exact wrap_i64 (by omega) (by omega)
  have w0 : IntKind.i64.wrap (-1073741824 - d) = -1073741824 - d := wrap_i64 (by omega) (by omega)
  have w1 : IntKind.i64.wrap (1073741824 + d) = 1073741824 + d := wrap_i64 (by omega) (by omega)
  have c0 := awake7_ K
  obtain ⟨w, H1, c1, m1⟩ := given_ K
  obtain ⟨H2, hH2⟩ : ∃ H2, H1 ++ [.row [.int .i64 2, .int .i64 2] true] = H2 := ⟨_, rfl⟩
  obtain ⟨H3, hH3⟩ : ∃ H3, H2 ++ [.row [.int .i64 1, .int .i64 2] true] = H3 := ⟨_, rfl⟩
  obtain ⟨H4, hH4⟩ : ∃ H4, H3 ++ [.row [.slc H2.length 0 2 2 true 1, .int .i64 3] true] = H4 := ⟨_, rfl⟩
  have n2 : H1.length < H2.length := by rw [← hH2]; simp
  have n3 : H2.length < H3.length := by rw [← hH3]; simp
  have n4 : H3.length < H4.length := by rw [← hH4]; simp
  have p2 : H1 <+: H2 := by rw [← hH2]; exact List.prefix_append _ _
  have p3 : H2 <+: H3 := by rw [← hH3]; exact List.prefix_append _ _
  have p4 : H3 <+: H4 := by rw [← hH4]; exact List.prefix_append _ _
  have p14 : H1 <+: H4 := p2.trans (p3.trans p4)
  have p04 : K <+: H4 := m1.1.trans p14
  have g1 : H4[H1.length]? = some (.row [.int .i64 2, .int .i64 2] true) := pre_get (p3.trans p4) (by rw [← hH2]; simp)
  have g2 : H4[H2.length]? = some (.row [.int .i64 1, .int .i64 2] true) := pre_get p4 (by rw [← hH3]; simp)
  have g3 : H4[H3.length]? = some (.row [.slc H2.length 0 2 2 true 1, .int .i64 3] true) := by rw [← hH4]; simp
  obtain ⟨_, hm1⟩ := m1
  have hown : ∃ b, K.length ≤ b ∧ Own 1 intC H1 b w givenW := by
    rcases hm1 with ⟨_, h⟩ | h
    · cases h
    · exact h
  obtain ⟨b, hbK, ho1⟩ := hown
  have hb1 := ho1.lt
  have ho := ho1.pre p14
  have hsw := ho.sl
  -- the inputs lie there as long as their block is not turned
  have hxs : ∀ H, H[H2.length]? = some (.row [.int .i64 1, .int .i64 2] true) → Sl 1 intC H (.slc H2.length 0 2 2 true 1) [1, 2] := fun H hg => .inr ⟨H2.length, 0, 2, true, _, true, rfl, by decide, hg, by decide, fun k x hx => by
    match k, hx with
    | 0, hx => cases hx; rfl
    | 1, hx => cases hx; rfl
    | k + 2, hx => simp at hx⟩
  clear ho1 hm1 hd hy0 hy1
  have hset : ∀ (c : Nat) (k : Blk), K.length ≤ c → K <+: H4.set c k := fun c k hc => pre_set p04 hc
  have hKn : K.length ≤ H1.length := by omega
  repeat (first | refine l_go ?_ | refine d_go ?_ | refine l_onG ?_ | refine l_offG ?_ | refine d_onG ?_ | refine d_offG ?_ | refine wq_seq ?_ | refine wq_line ?_ | refine wq_draw (by decide +kernel) ?_ | refine wq_block ?_ | refine l_nil ?_ | refine d_nil ?_ | refine wq_skip ?_ | refine wq_ret ?_ | refine wq_exit ?_ | refine th_normal ?_ | refine th_ret ?_ | refine th_exit ?_ | refine bk_normal ?_ | refine bk_ret ?_ | refine bk_exit ?_ | refine bk_other rfl ?_)
  refine l_callG c0 ?_
  repeat (first | refine l_go ?_ | refine d_go ?_ | refine l_onG ?_ | refine l_offG ?_ | refine d_onG ?_ | refine d_offG ?_ | refine wq_seq ?_ | refine wq_line ?_ | refine wq_draw (by decide +kernel) ?_ | refine wq_block ?_ | refine l_nil ?_ | refine d_nil ?_ | refine wq_skip ?_ | refine wq_ret ?_ | refine wq_exit ?_ | refine th_normal ?_ | refine th_ret ?_ | refine th_exit ?_ | refine bk_normal ?_ | refine bk_ret ?_ | refine bk_exit ?_ | refine bk_other rfl ?_)
  refine cond_go (fun hb => ?_) (fun hb => ?_)
  · cases hb
  clear hb c0
  repeat (first | refine l_go ?_ | refine d_go ?_ | refine l_onG ?_ | refine l_offG ?_ | refine d_onG ?_ | refine d_offG ?_ | refine wq_seq ?_ | refine wq_line ?_ | refine wq_draw (by decide +kernel) ?_ | refine wq_block ?_ | refine l_nil ?_ | refine d_nil ?_ | refine wq_skip ?_ | refine wq_ret ?_ | refine wq_exit ?_ | refine th_normal ?_ | refine th_ret ?_ | refine th_exit ?_ | refine bk_normal ?_ | refine bk_ret ?_ | refine bk_exit ?_ | refine bk_other rfl ?_)
  refine l_callG c1 ?_
  repeat (first | refine l_goB ?_ | refine d_goB ?_ | refine l_onG ?_ | refine l_offG ?_ | refine d_onG ?_ | refine d_offG ?_ | refine wq_seq ?_ | refine wq_line ?_ | refine wq_draw (by decide +kernel) ?_ | refine wq_block ?_ | refine l_nil ?_ | refine d_nil ?_ | refine wq_skip ?_ | refine wq_ret ?_ | refine wq_exit ?_ | refine th_normal ?_ | refine th_ret ?_ | refine th_exit ?_ | refine bk_normal ?_ | refine bk_ret ?_ | refine bk_exit ?_ | refine bk_other rfl ?_)
  refine l_heap (h' := H2) hH2 ?_
  refine l_go ?_
  refine l_heap (h' := H3) hH3 ?_
  repeat (first | refine l_go ?_ | refine d_go ?_ | refine l_onG ?_ | refine l_offG ?_ | refine d_onG ?_ | refine d_offG ?_ | refine wq_seq ?_ | refine wq_line ?_ | refine wq_draw (by decide +kernel) ?_ | refine wq_block ?_ | refine l_nil ?_ | refine d_nil ?_ | refine wq_skip ?_ | refine wq_ret ?_ | refine wq_exit ?_ | refine th_normal ?_ | refine th_ret ?_ | refine th_exit ?_ | refine bk_normal ?_ | refine bk_ret ?_ | refine bk_exit ?_ | refine bk_other rfl ?_)
  refine wq_heap (h' := H4) hH4 ?_
  clear c1 hH2 hH3 hH4
  refine cond_go (fun hb => ?_) (fun hb => ?_)
  · clear hb
    refine wq_cut (fun ρ => ρ 0 = .int .i64 n ∧ ρ 5 = .int .i64 d ∧ ρ 6 = .ptr H1.length 0 ∧ ρ 7 = w ∧ ρ 8 = .ptr H3.length 0 ∧ ρ 24 = .int .u64 ((IntKind.u64.wrap n).tmod 6)) ⟨rfl, rfl, rfl, rfl, rfl, rfl⟩ ?_
    rintro ρ ⟨h0, h5, h6, h7, h8, h24⟩
    have hst := cell_store (off := 1) (v := .int .i64 1) T3 rfl g1 (by simp) rfl rfl
    obtain ⟨H5, hH5⟩ : ∃ H5, H4.set H1.length (.row ([V.int .i64 2, .int .i64 2].set 1 (.int .i64 1)) true) = H5 := ⟨_, rfl⟩
    rw [hH5] at hst
    have k1 : H5[H1.length]? = some (.row [.int .i64 2, .int .i64 1] true) := by rw [← hH5, List.getElem?_set_self (by omega)]; rfl
    have k2 : H5[H2.length]? = some (.row [.int .i64 1, .int .i64 2] true) := by rw [← hH5, List.getElem?_set_ne (by omega)]; exact g2
    have k3 : H5[H3.length]? = some (.row [.slc H2.length 0 2 2 true 1, .int .i64 3] true) := by rw [← hH5, List.getElem?_set_ne (by omega)]; exact g3
    have s5 : Sl 1 intC H5 w givenW := hsw.fr fun c hc hcb => by rw [ho.blk] at hcb; cases hcb; rw [← hH5, List.getElem?_set_ne (by omega)]
    have l1 := ld_agg T23 rfl k1 rfl
    have l2 := ld_agg T26 rfl k3 rfl
    have c2 := grad_no H5 2 1 3 w _ givenW [1, 2] s5 (hxs H5 k2) (by decide) (by decide) (by decide +kernel)
    have pend : K <+: H5 := by rw [← hH5]; exact hset _ _ (by omega)
    clear k1 k2 k3 s5 hxs hset
    repeat (first | refine l_go ?_ | refine d_go ?_ | refine l_onG ?_ | refine l_offG ?_ | refine d_onG ?_ | refine d_offG ?_ | refine wq_seq ?_ | refine wq_line ?_ | refine wq_draw (by decide +kernel) ?_ | refine wq_block ?_ | refine l_nil ?_ | refine d_nil ?_ | refine wq_skip ?_ | refine wq_ret ?_ | refine wq_exit ?_ | refine th_normal ?_ | refine th_ret ?_ | refine th_exit ?_ | refine bk_normal ?_ | refine bk_ret ?_ | refine bk_exit ?_ | refine bk_other rfl ?_)
    refine l_callG c2 ?_
    repeat (first | refine l_go ?_ | refine d_go ?_ | refine l_onG ?_ | refine l_offG ?_ | refine d_onG ?_ | refine d_offG ?_ | refine wq_seq ?_ | refine wq_line ?_ | refine wq_draw (by decide +kernel) ?_ | refine wq_block ?_ | refine l_nil ?_ | refine d_nil ?_ | refine wq_skip ?_ | refine wq_ret ?_ | refine wq_exit ?_ | refine th_normal ?_ | refine th_ret ?_ | refine th_exit ?_ | refine bk_normal ?_ | refine bk_ret ?_ | refine bk_exit ?_ | refine bk_other rfl ?_)
    refine l_callG (num_ _ _) ?_
    repeat (first | refine l_go ?_ | refine d_go ?_ | refine l_onG ?_ | refine l_offG ?_ | refine d_onG ?_ | refine d_offG ?_ | refine wq_seq ?_ | refine wq_line ?_ | refine wq_draw (by decide +kernel) ?_ | refine wq_block ?_ | refine l_nil ?_ | refine d_nil ?_ | refine wq_skip ?_ | refine wq_ret ?_ | refine wq_exit ?_ | refine th_normal ?_ | refine th_ret ?_ | refine th_exit ?_ | refine bk_normal ?_ | refine bk_ret ?_ | refine bk_exit ?_ | refine bk_other rfl ?_)
    refine end_ret (by simp only [resRf, resRs, resR]; first | done | rfl) ⟨?_, pend⟩
    simp [put_app, put_none]
  · clear hb
    refine wq_cut (fun ρ => ρ 0 = .int .i64 n ∧ ρ 5 = .int .i64 d ∧ ρ 6 = .ptr H1.length 0 ∧ ρ 7 = w ∧ ρ 8 = .ptr H3.length 0 ∧ ρ 24 = .int .u64 ((IntKind.u64.wrap n).tmod 6)) ⟨rfl, rfl, rfl, rfl, rfl, rfl⟩ ?_
    rintro ρ ⟨h0, h5, h6, h7, h8, h24⟩
    repeat (first | refine l_go ?_ | refine d_go ?_ | refine l_onG ?_ | refine l_offG ?_ | refine d_onG ?_ | refine d_offG ?_ | refine wq_seq ?_ | refine wq_line ?_ | refine wq_draw (by decide +kernel) ?_ | refine wq_block ?_ | refine l_nil ?_ | refine d_nil ?_ | refine wq_skip ?_ | refine wq_ret ?_ | refine wq_exit ?_ | refine th_normal ?_ | refine th_ret ?_ | refine th_exit ?_ | refine bk_normal ?_ | refine bk_ret ?_ | refine bk_exit ?_ | refine bk_other rfl ?_)
    refine cond_go (fun hb => ?_) (fun hb => ?_)
    · clear hb
      refine wq_cut (fun ρ => ρ 0 = .int .i64 n ∧ ρ 5 = .int .i64 d ∧ ρ 6 = .ptr H1.length 0 ∧ ρ 7 = w ∧ ρ 8 = .ptr H3.length 0 ∧ ρ 24 = .int .u64 ((IntKind.u64.wrap n).tmod 6)) ⟨h0, h5, h6, h7, h8, h24⟩ ?_
      clear h0 h5 h6 h7 h8 h24
      clear ρ
      rintro ρ ⟨h0, h5, h6, h7, h8, h24⟩
      obtain ⟨w', hsl, s5⟩ := hsw.rest (l := 1) (by decide)
      replace hsl : sliceV 1 w (some (.int .i64 1)) none none = some w' := hsl
      have l1 := ld_agg T23 rfl g1 rfl
      have l2 := ld_agg T26 rfl g3 rfl
      have c2 := grad_no H4 2 2 3 w' _ _ [1, 2] s5 (hxs H4 g2) (by decide) (by decide) (by decide +kernel)
      have pend := p04
      clear hxs hset
      repeat (first | refine l_go ?_ | refine d_go ?_ | refine l_onG ?_ | refine l_offG ?_ | refine d_onG ?_ | refine d_offG ?_ | refine wq_seq ?_ | refine wq_line ?_ | refine wq_draw (by decide +kernel) ?_ | refine wq_block ?_ | refine l_nil ?_ | refine d_nil ?_ | refine wq_skip ?_ | refine wq_ret ?_ | refine wq_exit ?_ | refine th_normal ?_ | refine th_ret ?_ | refine th_exit ?_ | refine bk_normal ?_ | refine bk_ret ?_ | refine bk_exit ?_ | refine bk_other rfl ?_)
      refine l_callG c2 ?_
      repeat (first | refine l_go ?_ | refine d_go ?_ | refine l_onG ?_ | refine l_offG ?_ | refine d_onG ?_ | refine d_offG ?_ | refine wq_seq ?_ | refine wq_line ?_ | refine wq_draw (by decide +kernel) ?_ | refine wq_block ?_ | refine l_nil ?_ | refine d_nil ?_ | refine wq_skip ?_ | refine wq_ret ?_ | refine wq_exit ?_ | refine th_normal ?_ | refine th_ret ?_ | refine th_exit ?_ | refine bk_normal ?_ | refine bk_ret ?_ | refine bk_exit ?_ | refine bk_other rfl ?_)
      refine l_callG (num_ _ _) ?_
      repeat (first | refine l_go ?_ | refine d_go ?_ | refine l_onG ?_ | refine l_offG ?_ | refine d_onG ?_ | refine d_offG ?_ | refine wq_seq ?_ | refine wq_line ?_ | refine wq_draw (by decide +kernel) ?_ | refine wq_block ?_ | refine l_nil ?_ | refine d_nil ?_ | refine wq_skip ?_ | refine wq_ret ?_ | refine wq_exit ?_ | refine th_normal ?_ | refine th_ret ?_ | refine th_exit ?_ | refine bk_normal ?_ | refine bk_ret ?_ | refine bk_exit ?_ | refine bk_other rfl ?_)
      refine end_ret (by simp only [resRf, resRs, resR]; first | done | rfl) ⟨?_, pend⟩
      simp [put_app, put_none]
    · clear hb
      refine wq_cut (fun ρ => ρ 0 = .int .i64 n ∧ ρ 5 = .int .i64 d ∧ ρ 6 = .ptr H1.length 0 ∧ ρ 7 = w ∧ ρ 8 = .ptr H3.length 0 ∧ ρ 24 = .int .u64 ((IntKind.u64.wrap n).tmod 6)) ⟨h0, h5, h6, h7, h8, h24⟩ ?_
      clear h0 h5 h6 h7 h8 h24
      clear ρ
      rintro ρ ⟨h0, h5, h6, h7, h8, h24⟩
      repeat (first | refine l_go ?_ | refine d_go ?_ | refine l_onG ?_ | refine l_offG ?_ | refine d_onG ?_ | refine d_offG ?_ | refine wq_seq ?_ | refine wq_line ?_ | refine wq_draw (by decide +kernel) ?_ | refine wq_block ?_ | refine l_nil ?_ | refine d_nil ?_ | refine wq_skip ?_ | refine wq_ret ?_ | refine wq_exit ?_ | refine th_normal ?_ | refine th_ret ?_ | refine th_exit ?_ | refine bk_normal ?_ | refine bk_ret ?_ | refine bk_exit ?_ | refine bk_other rfl ?_)
      refine cond_go (fun hb => ?_) (fun hb => ?_)
      · clear hb
        refine wq_cut (fun ρ => ρ 0 = .int .i64 n ∧ ρ 5 = .int .i64 d ∧ ρ 6 = .ptr H1.length 0 ∧ ρ 7 = w ∧ ρ 8 = .ptr H3.length 0 ∧ ρ 24 = .int .u64 ((IntKind.u64.wrap n).tmod 6)) ⟨h0, h5, h6, h7, h8, h24⟩ ?_
        clear h0 h5 h6 h7 h8 h24
        clear ρ
        rintro ρ ⟨h0, h5, h6, h7, h8, h24⟩
        obtain ⟨hix, hput⟩ := own_store ho T24 rfl T3 rfl (k := 0) (by decide)
        replace hix : idxV T 24 w 0 = some (.ptr b 0) := hix
        obtain ⟨H5, hst, ho5, fr⟩ := hput (.int .i64 (-1073741824 - d)) (-1073741824 - d) rfl rfl rfl
        replace hst : storeV T 3 H4 b 0 (.int .i64 (-1073741824 - d)) = some H5 := hst
        have k1 : H5[H1.length]? = some (.row [.int .i64 2, .int .i64 2] true) := by rw [fr.2 _ (by omega) (by omega)]; exact g1
        have k2 : H5[H2.length]? = some (.row [.int .i64 1, .int .i64 2] true) := by rw [fr.2 _ (by omega) (by omega)]; exact g2
        have k3 : H5[H3.length]? = some (.row [.slc H2.length 0 2 2 true 1, .int .i64 3] true) := by rw [fr.2 _ (by omega) (by omega)]; exact g3
        have l1 := ld_agg T23 rfl k1 rfl
        have l2 := ld_agg T26 rfl k3 rfl
        have c2 := grad_no H5 2 2 3 w _ _ [1, 2] ho5.sl (hxs H5 k2) (by simp [givenW]) (by decide) (bad_ws d hdd.1)
        have pend : K <+: H5 := fr.pre p04 hbK
        clear k1 k2 k3 hxs hset
        repeat (first | refine l_go ?_ | refine d_go ?_ | refine l_onG ?_ | refine l_offG ?_ | refine d_onG ?_ | refine d_offG ?_ | refine wq_seq ?_ | refine wq_line ?_ | refine wq_draw (by decide +kernel) ?_ | refine wq_block ?_ | refine l_nil ?_ | refine d_nil ?_ | refine wq_skip ?_ | refine wq_ret ?_ | refine wq_exit ?_ | refine th_normal ?_ | refine th_ret ?_ | refine th_exit ?_ | refine bk_normal ?_ | refine bk_ret ?_ | refine bk_exit ?_ | refine bk_other rfl ?_)
        refine l_callG c2 ?_
        repeat (first | refine l_go ?_ | refine d_go ?_ | refine l_onG ?_ | refine l_offG ?_ | refine d_onG ?_ | refine d_offG ?_ | refine wq_seq ?_ | refine wq_line ?_ | refine wq_draw (by decide +kernel) ?_ | refine wq_block ?_ | refine l_nil ?_ | refine d_nil ?_ | refine wq_skip ?_ | refine wq_ret ?_ | refine wq_exit ?_ | refine th_normal ?_ | refine th_ret ?_ | refine th_exit ?_ | refine bk_normal ?_ | refine bk_ret ?_ | refine bk_exit ?_ | refine bk_other rfl ?_)
        refine l_callG (num_ _ _) ?_
        repeat (first | refine l_go ?_ | refine d_go ?_ | refine l_onG ?_ | refine l_offG ?_ | refine d_onG ?_ | refine d_offG ?_ | refine wq_seq ?_ | refine wq_line ?_ | refine wq_draw (by decide +kernel) ?_ | refine wq_block ?_ | refine l_nil ?_ | refine d_nil ?_ | refine wq_skip ?_ | refine wq_ret ?_ | refine wq_exit ?_ | refine th_normal ?_ | refine th_ret ?_ | refine th_exit ?_ | refine bk_normal ?_ | refine bk_ret ?_ | refine bk_exit ?_ | refine bk_other rfl ?_)
        refine end_ret (by simp only [resRf, resRs, resR]; first | done | rfl) ⟨?_, pend⟩
        simp [put_app, put_none]
      · clear hb
        refine wq_cut (fun ρ => ρ 0 = .int .i64 n ∧ ρ 5 = .int .i64 d ∧ ρ 6 = .ptr H1.length 0 ∧ ρ 7 = w ∧ ρ 8 = .ptr H3.length 0 ∧ ρ 24 = .int .u64 ((IntKind.u64.wrap n).tmod 6)) ⟨h0, h5, h6, h7, h8, h24⟩ ?_
        clear h0 h5 h6 h7 h8 h24
        clear ρ
        rintro ρ ⟨h0, h5, h6, h7, h8, h24⟩
        repeat (first | refine l_go ?_ | refine d_go ?_ | refine l_onG ?_ | refine l_offG ?_ | refine d_onG ?_ | refine d_offG ?_ | refine wq_seq ?_ | refine wq_line ?_ | refine wq_draw (by decide +kernel) ?_ | refine wq_block ?_ | refine l_nil ?_ | refine d_nil ?_ | refine wq_skip ?_ | refine wq_ret ?_ | refine wq_exit ?_ | refine th_normal ?_ | refine th_ret ?_ | refine th_exit ?_ | refine bk_normal ?_ | refine bk_ret ?_ | refine bk_exit ?_ | refine bk_other rfl ?_)
        refine cond_go (fun hb => ?_) (fun hb => ?_)
        · clear hb
          refine wq_cut (fun ρ => ρ 0 = .int .i64 n ∧ ρ 5 = .int .i64 d ∧ ρ 6 = .ptr H1.length 0 ∧ ρ 7 = w ∧ ρ 8 = .ptr H3.length 0 ∧ ρ 24 = .int .u64 ((IntKind.u64.wrap n).tmod 6)) ⟨h0, h5, h6, h7, h8, h24⟩ ?_
          clear h0 h5 h6 h7 h8 h24
          clear ρ
          rintro ρ ⟨h0, h5, h6, h7, h8, h24⟩
          have hst := cell_store (off := 0) (v := .nils) T24 rfl g3 (by simp) rfl rfl
          obtain ⟨H5, hH5⟩ : ∃ H5, H4.set H3.length (.row ([V.slc H2.length 0 2 2 true 1, .int .i64 3].set 0 .nils) true) = H5 := ⟨_, rfl⟩
          rw [hH5] at hst
          have k1 : H5[H1.length]? = some (.row [.int .i64 2, .int .i64 2] true) := by rw [← hH5, List.getElem?_set_ne (by omega)]; exact g1
          have k3 : H5[H3.length]? = some (.row [.nils, .int .i64 3] true) := by rw [← hH5, List.getElem?_set_self (by omega)]; rfl
          have s5 : Sl 1 intC H5 w givenW := hsw.fr fun c hc hcb => by rw [ho.blk] at hcb; cases hcb; rw [← hH5, List.getElem?_set_ne (by omega)]
          have l1 := ld_agg T23 rfl k1 rfl
          have l2 := ld_agg T26 rfl k3 rfl
          have c2 := grad_no H5 2 2 3 w .nils givenW [] s5 (.inl ⟨rfl, rfl⟩) (by decide) (by decide) (by decide +kernel)
          have pend : K <+: H5 := by rw [← hH5]; exact hset _ _ (by omega)
          clear k1 k3 s5 hxs hset
          repeat (first | refine l_go ?_ | refine d_go ?_ | refine l_onG ?_ | refine l_offG ?_ | refine d_onG ?_ | refine d_offG ?_ | refine wq_seq ?_ | refine wq_line ?_ | refine wq_draw (by decide +kernel) ?_ | refine wq_block ?_ | refine l_nil ?_ | refine d_nil ?_ | refine wq_skip ?_ | refine wq_ret ?_ | refine wq_exit ?_ | refine th_normal ?_ | refine th_ret ?_ | refine th_exit ?_ | refine bk_normal ?_ | refine bk_ret ?_ | refine bk_exit ?_ | refine bk_other rfl ?_)
          refine l_callG c2 ?_
          repeat (first | refine l_go ?_ | refine d_go ?_ | refine l_onG ?_ | refine l_offG ?_ | refine d_onG ?_ | refine d_offG ?_ | refine wq_seq ?_ | refine wq_line ?_ | refine wq_draw (by decide +kernel) ?_ | refine wq_block ?_ | refine l_nil ?_ | refine d_nil ?_ | refine wq_skip ?_ | refine wq_ret ?_ | refine wq_exit ?_ | refine th_normal ?_ | refine th_ret ?_ | refine th_exit ?_ | refine bk_normal ?_ | refine bk_ret ?_ | refine bk_exit ?_ | refine bk_other rfl ?_)
          refine l_callG (num_ _ _) ?_
          repeat (first | refine l_go ?_ | refine d_go ?_ | refine l_onG ?_ | refine l_offG ?_ | refine d_onG ?_ | refine d_offG ?_ | refine wq_seq ?_ | refine wq_line ?_ | refine wq_draw (by decide +kernel) ?_ | refine wq_block ?_ | refine l_nil ?_ | refine d_nil ?_ | refine wq_skip ?_ | refine wq_ret ?_ | refine wq_exit ?_ | refine th_normal ?_ | refine th_ret ?_ | refine th_exit ?_ | refine bk_normal ?_ | refine bk_ret ?_ | refine bk_exit ?_ | refine bk_other rfl ?_)
          refine end_ret (by simp only [resRf, resRs, resR]; first | done | rfl) ⟨?_, pend⟩
          simp [put_app, put_none]
        · clear hb
          refine wq_cut (fun ρ => ρ 0 = .int .i64 n ∧ ρ 5 = .int .i64 d ∧ ρ 6 = .ptr H1.length 0 ∧ ρ 7 = w ∧ ρ 8 = .ptr H3.length 0 ∧ ρ 24 = .int .u64 ((IntKind.u64.wrap n).tmod 6)) ⟨h0, h5, h6, h7, h8, h24⟩ ?_
          clear h0 h5 h6 h7 h8 h24
          clear ρ
          rintro ρ ⟨h0, h5, h6, h7, h8, h24⟩
          repeat (first | refine l_go ?_ | refine d_go ?_ | refine l_onG ?_ | refine l_offG ?_ | refine d_onG ?_ | refine d_offG ?_ | refine wq_seq ?_ | refine wq_line ?_ | refine wq_draw (by decide +kernel) ?_ | refine wq_block ?_ | refine l_nil ?_ | refine d_nil ?_ | refine wq_skip ?_ | refine wq_ret ?_ | refine wq_exit ?_ | refine th_normal ?_ | refine th_ret ?_ | refine th_exit ?_ | refine bk_normal ?_ | refine bk_ret ?_ | refine bk_exit ?_ | refine bk_other rfl ?_)
          refine cond_go (fun hb => ?_) (fun hb => ?_)
          · clear hb
            refine wq_cut (fun ρ => ρ 0 = .int .i64 n ∧ ρ 5 = .int .i64 d ∧ ρ 6 = .ptr H1.length 0 ∧ ρ 7 = w ∧ ρ 8 = .ptr H3.length 0 ∧ ρ 24 = .int .u64 ((IntKind.u64.wrap n).tmod 6)) ⟨h0, h5, h6, h7, h8, h24⟩ ?_
            clear h0 h5 h6 h7 h8 h24
            clear ρ
            rintro ρ ⟨h0, h5, h6, h7, h8, h24⟩
            have lx0 := ld_cell (q := 0) T24 rfl g3 rfl
            have hst := cell_store (off := 0) (v := .int .i64 (1073741824 + d)) T3 rfl g2 (by simp) rfl rfl
            obtain ⟨H5, hH5⟩ : ∃ H5, H4.set H2.length (.row ([V.int .i64 1, .int .i64 2].set 0 (.int .i64 (1073741824 + d))) true) = H5 := ⟨_, rfl⟩
            rw [hH5] at hst
            have k1 : H5[H1.length]? = some (.row [.int .i64 2, .int .i64 2] true) := by rw [← hH5, List.getElem?_set_ne (by omega)]; exact g1
            have k2 : H5[H2.length]? = some (.row [.int .i64 (1073741824 + d), .int .i64 2] true) := by rw [← hH5, List.getElem?_set_self (by omega)]; rfl
            have k3 : H5[H3.length]? = some (.row [.slc H2.length 0 2 2 true 1, .int .i64 3] true) := by rw [← hH5, List.getElem?_set_ne (by omega)]; exact g3
            have s5 : Sl 1 intC H5 w givenW := hsw.fr fun c hc hcb => by rw [ho.blk] at hcb; cases hcb; rw [← hH5, List.getElem?_set_ne (by omega)]
            have sx : Sl 1 intC H5 (.slc H2.length 0 2 2 true 1) [1073741824 + d, 2] := .inr ⟨H2.length, 0, 2, true, _, true, rfl, by simp, k2, by simp, fun k x hx => by
              match k, hx with
              | 0, hx => cases hx; rfl
              | 1, hx => cases hx; rfl
              | k + 2, hx => simp at hx⟩
            have l1 := ld_agg T23 rfl k1 rfl
            have l2 := ld_agg T26 rfl k3 rfl
            have c2 := grad_no H5 2 2 3 w _ givenW _ s5 sx (by decide) (by simp) (bad_xs d hdd.1)
            have pend : K <+: H5 := by rw [← hH5]; exact hset _ _ (by omega)
            clear k1 k2 k3 s5 sx hxs hset
            repeat (first | refine l_go ?_ | refine d_go ?_ | refine l_onG ?_ | refine l_offG ?_ | refine d_onG ?_ | refine d_offG ?_ | refine wq_seq ?_ | refine wq_line ?_ | refine wq_draw (by decide +kernel) ?_ | refine wq_block ?_ | refine l_nil ?_ | refine d_nil ?_ | refine wq_skip ?_ | refine wq_ret ?_ | refine wq_exit ?_ | refine th_normal ?_ | refine th_ret ?_ | refine th_exit ?_ | refine bk_normal ?_ | refine bk_ret ?_ | refine bk_exit ?_ | refine bk_other rfl ?_)
            refine l_callG c2 ?_
            repeat (first | refine l_go ?_ | refine d_go ?_ | refine l_onG ?_ | refine l_offG ?_ | refine d_onG ?_ | refine d_offG ?_ | refine wq_seq ?_ | refine wq_line ?_ | refine wq_draw (by decide +kernel) ?_ | refine wq_block ?_ | refine l_nil ?_ | refine d_nil ?_ | refine wq_skip ?_ | refine wq_ret ?_ | refine wq_exit ?_ | refine th_normal ?_ | refine th_ret ?_ | refine th_exit ?_ | refine bk_normal ?_ | refine bk_ret ?_ | refine bk_exit ?_ | refine bk_other rfl ?_)
            refine l_callG (num_ _ _) ?_
            repeat (first | refine l_go ?_ | refine d_go ?_ | refine l_onG ?_ | refine l_offG ?_ | refine d_onG ?_ | refine d_offG ?_ | refine wq_seq ?_ | refine wq_line ?_ | refine wq_draw (by decide +kernel) ?_ | refine wq_block ?_ | refine l_nil ?_ | refine d_nil ?_ | refine wq_skip ?_ | refine wq_ret ?_ | refine wq_exit ?_ | refine th_normal ?_ | refine th_ret ?_ | refine th_exit ?_ | refine bk_normal ?_ | refine bk_ret ?_ | refine bk_exit ?_ | refine bk_other rfl ?_)
            refine end_ret (by simp only [resRf, resRs, resR]; first | done | rfl) ⟨?_, pend⟩
            simp [put_app, put_none]
          · clear hb
            refine wq_cut (fun ρ => ρ 0 = .int .i64 n ∧ ρ 5 = .int .i64 d ∧ ρ 6 = .ptr H1.length 0 ∧ ρ 7 = w ∧ ρ 8 = .ptr H3.length 0 ∧ ρ 24 = .int .u64 ((IntKind.u64.wrap n).tmod 6)) ⟨h0, h5, h6, h7, h8, h24⟩ ?_
            clear h0 h5 h6 h7 h8 h24
            clear ρ
            rintro ρ ⟨h0, h5, h6, h7, h8, h24⟩
            repeat (first | refine l_goB ?_ | refine d_goB ?_ | refine l_onG ?_ | refine l_offG ?_ | refine d_onG ?_ | refine d_offG ?_ | refine wq_seq ?_ | refine wq_line ?_ | refine wq_draw (by decide +kernel) ?_ | refine wq_block ?_ | refine l_nil ?_ | refine d_nil ?_ | refine wq_skip ?_ | refine wq_ret ?_ | refine wq_exit ?_ | refine th_normal ?_ | refine th_ret ?_ | refine th_exit ?_ | refine bk_normal ?_ | refine bk_ret ?_ | refine bk_exit ?_ | refine bk_other rfl ?_)
            obtain ⟨z, hz, hz0, hz1⟩ := and_mask n 1 (by decide) (by decide)
            replace hz : IntKind.i64.wrap ((BitVec.ofInt IntKind.i64.bits n &&& BitVec.ofInt IntKind.i64.bits 1).toNat : Int) = z := hz
            obtain ⟨H5, hH5⟩ : ∃ H5, H4 ++ [.row [.int .i64 (-1073741824 - d), .int .i64 (1073741824 + d)] true] = H5 := ⟨_, rfl⟩
            have p5 : H4 <+: H5 := by rw [← hH5]; exact List.prefix_append _ _
            have n5 : H4.length < H5.length := by rw [← hH5]; simp
            have g4 : H5[H4.length]? = some (.row [.int .i64 (-1073741824 - d), .int .i64 (1073741824 + d)] true) := by rw [← hH5]; simp
            have fin : ∀ yy : Int, (yy < -1073741824 ∨ 1073741824 < yy) → ∃ H6, storeV T 3 H5 H3.length 1 (.int .i64 yy) = some H6 ∧ loadV T 23 H6 H1.length 0 = some (.agg [.int .i64 2, .int .i64 2]) ∧ loadV T 26 H6 H3.length 0 = some (.agg [.slc H2.length 0 2 2 true 1, .int .i64 yy]) ∧ K <+: H6 ∧
                Call Try.prog 15 [.agg [.int .i64 2, .int .i64 2], w, .agg [.slc H2.length 0 2 2 true 1, .int .i64 yy]] H6 (.tup [.nils, .int .i64 700]) H6 := fun yy hyy => by
              have hst := cell_store (off := 1) (v := .int .i64 yy) T3 rfl (pre_get p5 g3) (by simp) rfl rfl
              have k1 : (H5.set H3.length (.row ([V.slc H2.length 0 2 2 true 1, .int .i64 3].set 1 (.int .i64 yy)) true))[H1.length]? = some (.row [.int .i64 2, .int .i64 2] true) := by rw [List.getElem?_set_ne (by omega)]; exact pre_get p5 g1
              have k2 : (H5.set H3.length (.row ([V.slc H2.length 0 2 2 true 1, .int .i64 3].set 1 (.int .i64 yy)) true))[H2.length]? = some (.row [.int .i64 1, .int .i64 2] true) := by rw [List.getElem?_set_ne (by omega)]; exact pre_get p5 g2
              have k3 : (H5.set H3.length (.row ([V.slc H2.length 0 2 2 true 1, .int .i64 3].set 1 (.int .i64 yy)) true))[H3.length]? = some (.row [.slc H2.length 0 2 2 true 1, .int .i64 yy] true) := by rw [List.getElem?_set_self (by omega)]; rfl
              have s5 : Sl 1 intC (H5.set H3.length (.row ([V.slc H2.length 0 2 2 true 1, .int .i64 3].set 1 (.int .i64 yy)) true)) w givenW := (hsw.mono p5).fr fun c hc hcb => by rw [ho.blk] at hcb; cases hcb; rw [List.getElem?_set_ne (by omega)]
              exact ⟨_, hst, ld_agg T23 rfl k1 rfl, ld_agg T26 rfl k3 rfl, pre_set (p04.trans p5) (by omega), grad_no _ 2 2 yy w _ givenW [1, 2] s5 (hxs _ k2) (by decide) (by decide) (bad_y yy hyy)⟩
            have hz01 : z = 0 ∨ z = 1 := by omega
            refine l_go ?_
            refine l_heap (h' := H5) hH5 ?_
            rcases hz01 with e | e
            · subst e
              have l0 := ld_cell (q := 0) T3 rfl g4 rfl
              obtain ⟨H6, hst, l1, l2, pend, c2⟩ := fin (-1073741824 - d) (by omega)
              clear fin hxs hset g1 g2 g3 g4 hz0 hz1 hdd
              repeat (first | refine l_go ?_ | refine d_go ?_ | refine l_onG ?_ | refine l_offG ?_ | refine d_onG ?_ | refine d_offG ?_ | refine wq_seq ?_ | refine wq_line ?_ | refine wq_draw (by decide +kernel) ?_ | refine wq_block ?_ | refine l_nil ?_ | refine d_nil ?_ | refine wq_skip ?_ | refine wq_ret ?_ | refine wq_exit ?_ | refine th_normal ?_ | refine th_ret ?_ | refine th_exit ?_ | refine bk_normal ?_ | refine bk_ret ?_ | refine bk_exit ?_ | refine bk_other rfl ?_)
              refine l_callG c2 ?_
              repeat (first | refine l_go ?_ | refine d_go ?_ | refine l_onG ?_ | refine l_offG ?_ | refine d_onG ?_ | refine d_offG ?_ | refine wq_seq ?_ | refine wq_line ?_ | refine wq_draw (by decide +kernel) ?_ | refine wq_block ?_ | refine l_nil ?_ | refine d_nil ?_ | refine wq_skip ?_ | refine wq_ret ?_ | refine wq_exit ?_ | refine th_normal ?_ | refine th_ret ?_ | refine th_exit ?_ | refine bk_normal ?_ | refine bk_ret ?_ | refine bk_exit ?_ | refine bk_other rfl ?_)
              refine l_callG (num_ _ _) ?_
              repeat (first | refine l_go ?_ | refine d_go ?_ | refine l_onG ?_ | refine l_offG ?_ | refine d_onG ?_ | refine d_offG ?_ | refine wq_seq ?_ | refine wq_line ?_ | refine wq_draw (by decide +kernel) ?_ | refine wq_block ?_ | refine l_nil ?_ | refine d_nil ?_ | refine wq_skip ?_ | refine wq_ret ?_ | refine wq_exit ?_ | refine th_normal ?_ | refine th_ret ?_ | refine th_exit ?_ | refine bk_normal ?_ | refine bk_ret ?_ | refine bk_exit ?_ | refine bk_other rfl ?_)
              refine end_ret (by simp only [resRf, resRs, resR]; first | done | rfl) ⟨?_, pend⟩
              simp [put_app, put_none]
            · subst e
              have l0 := ld_cell (q := 1) T3 rfl g4 rfl
              obtain ⟨H6, hst, l1, l2, pend, c2⟩ := fin (1073741824 + d) (by omega)
              clear fin hxs hset g1 g2 g3 g4 hz0 hz1 hdd
              repeat (first | refine l_go ?_ | refine d_go ?_ | refine l_onG ?_ | refine l_offG ?_ | refine d_onG ?_ | refine d_offG ?_ | refine wq_seq ?_ | refine wq_line ?_ | refine wq_draw (by decide +kernel) ?_ | refine wq_block ?_ | refine l_nil ?_ | refine d_nil ?_ | refine wq_skip ?_ | refine wq_ret ?_ | refine wq_exit ?_ | refine th_normal ?_ | refine th_ret ?_ | refine th_exit ?_ | refine bk_normal ?_ | refine bk_ret ?_ | refine bk_exit ?_ | refine bk_other rfl ?_)
              refine l_callG c2 ?_
              repeat (first | refine l_go ?_ | refine d_go ?_ | refine l_onG ?_ | refine l_offG ?_ | refine d_onG ?_ | refine d_offG ?_ | refine wq_seq ?_ | refine wq_line ?_ | refine wq_draw (by decide +kernel) ?_ | refine wq_block ?_ | refine l_nil ?_ | refine d_nil ?_ | refine wq_skip ?_ | refine wq_ret ?_ | refine wq_exit ?_ | refine th_normal ?_ | refine th_ret ?_ | refine th_exit ?_ | refine bk_normal ?_ | refine bk_ret ?_ | refine bk_exit ?_ | refine bk_other rfl ?_)
              refine l_callG (num_ _ _) ?_
              repeat (first | refine l_go ?_ | refine d_go ?_ | refine l_onG ?_ | refine l_offG ?_ | refine d_onG ?_ | refine d_offG ?_ | refine wq_seq ?_ | refine wq_line ?_ | refine wq_draw (by decide +kernel) ?_ | refine wq_block ?_ | refine l_nil ?_ | refine d_nil ?_ | refine wq_skip ?_ | refine wq_ret ?_ | refine wq_exit ?_ | refine th_normal ?_ | refine th_ret ?_ | refine th_exit ?_ | refine bk_normal ?_ | refine bk_ret ?_ | refine bk_exit ?_ | refine bk_other rfl ?_)
              refine end_ret (by simp only [resRf, resRs, resR]; first | done | rfl) ⟨?_, pend⟩
              simp [put_app, put_none]
end Go.Proofs.Ytjageapgbpdlhaa.VM
