/- Joined texts: NetF, NetG, NetH, NetI, BackA, BackB, TrainA, VmZC, MemA, LowP, InitP, PutA. -/
import Derived.Test.YtekifjeckbndiaaJM4
/- Layer 6: the document's Hidden and Out. -/
namespace Go.Proofs.Ytekifjeckbndiaa.VM
open Go
set_option linter.unusedVariables false
set_option linter.unusedSimpArgs false
attribute [local irreducible] wq wqL wqD wqE wqO Th Bk EndR
set_option maxHeartbeats 8000000

theorem refHidden_bad (H : Heap) (i h : Int) (w x : V) (ws xs : List Int) (hw : Sl 1 intC H w ws) (hx : Sl 1 intC H x xs) (lw : ws.length ≤ 2 ^ 47) (lx : xs.length ≤ 2 ^ 47) (hbad : (fits i h ws && feeds i xs) = false) :
    Call Try.prog 124 [.agg [.int .i64 i, .int .i64 h], w, x] H (.tup [.nils, .int .i64 600]) H := by
  suffices hh : ∃ v H', (v = .tup [.nils, .int .i64 600] ∧ H <+: H') ∧ Call Try.prog 124 [.agg [.int .i64 i, .int .i64 h], w, x] H v H' by
    obtain ⟨v, H', ⟨rfl, hp⟩, h4⟩ := hh
    exact h4.forget hp rfl
  refine call_wq fit mixed Try.func124 rfl rfl rfl (by kernel_rfl) ?_
  obtain ⟨H1, hH1⟩ : ∃ H1, H ++ [.row [.int .i64 i, .int .i64 h] true] = H1 := ⟨_, rfl⟩
  have p1 : H <+: H1 := by rw [← hH1]; exact List.prefix_append _ _
  have l0 : loadV T 23 H1 H.length 0 = some (.agg [.int .i64 i, .int .i64 h]) := by
    refine loadV_agg T23 rfl ?_
    rw [← hH1, loadN_app0]; rfl
  have c1 := refFits_ H1 i h w ws (hw.mono p1) lw
  have c2 := refFeeds_ H1 i h x xs (hx.mono p1) lx
  clear hw hx lw lx
  cases hf : fits i h ws
  · rw [hf] at c1
    clear hbad
    refine goW ?_
    refine l_heap (h' := H1) hH1 ?_
    refine goW ?_
    refine l_callG c1 ?_
    refine goW ?_
    refine cond_go (fun hb => ?_) (fun hb => ?_)
    · refine goW ?_
      refine end_ret (by simp only [resRf, resRs, resR]; first | done | rfl) ⟨?_, p1⟩
      simp [put_app, put_none]
    · cases hb
  · have hf2 : feeds i xs = false := by rw [hf] at hbad; simpa using hbad
    rw [hf] at c1
    rw [hf2] at c2
    clear hbad hf hf2
    refine goW ?_
    refine l_heap (h' := H1) hH1 ?_
    refine goW ?_
    refine l_callG c1 ?_
    refine goW ?_
    refine l_callG c2 ?_
    refine goW ?_
    refine cond_go (fun hb => ?_) (fun hb => ?_)
    · refine goW ?_
      refine end_ret (by simp only [resRf, resRs, resR]; first | done | rfl) ⟨?_, p1⟩
      simp [put_app, put_none]
    · cases hb

theorem refHidden_ (H : Heap) (i h : Nat) (w x : V) (ws xs : List Int) (hw : Sl 1 intC H w ws) (hx : Sl 1 intC H x xs) (hf : fits i h ws = true) (hfeed : feeds i xs = true) :
    ∃ u H', Call Try.prog 124 [.agg [.int .i64 i, .int .i64 h], w, x] H (.tup [u, .int .i64 0]) H' ∧ Mine 1 intC H H' u (units i h ws xs) := by
  suffices hgoal : ∃ v H', (∃ u, v = .tup [u, .int .i64 0] ∧ Mine 1 intC H H' u (units i h ws xs)) ∧ Call Try.prog 124 [.agg [.int .i64 i, .int .i64 h], w, x] H v H' by
    obtain ⟨_, H', ⟨u, rfl, h1⟩, h2⟩ := hgoal
    exact ⟨u, H', h2, h1⟩
  refine call_wq fit mixed Try.func124 rfl rfl rfl (by kernel_rfl) ?_
  obtain ⟨hsm, hvw, i', h', hi', hh', hi1, hi2, hh1, hh2, hs⟩ := fits_split hf
  obtain rfl : i = i' := Int.ofNat_inj.1 hi'
  obtain rfl : h = h' := Int.ofNat_inj.1 hh'
  obtain ⟨hxl, hvx⟩ := feeds_split hfeed
  have hxl' : xs.length = i := Int.ofNat_inj.1 hxl
  have hwl := vecMay_len hvw
  obtain ⟨H1, hH1⟩ : ∃ H1, H ++ [.row [.int .i64 i, .int .i64 h] true] = H1 := ⟨_, rfl⟩
  have p1 : H <+: H1 := by rw [← hH1]; exact List.prefix_append _ _
  have q0 : ∀ H2, H1 <+: H2 → loadV T 3 H2 H.length 0 = some (.int .i64 i) := fun H2 hp => by
    refine loadV_one T3 rfl (loadN_pre hp ?_)
    rw [← hH1, loadN_app0]; rfl
  have q1 : ∀ H2, H1 <+: H2 → loadV T 3 H2 H.length 1 = some (.int .i64 h) := fun H2 hp => by
    refine loadV_one T3 rfl (loadN_pre hp ?_)
    rw [← hH1, loadN_app0]; rfl
  have l0 : loadV T 23 H1 H.length 0 = some (.agg [.int .i64 i, .int .i64 h]) := by
    refine loadV_agg T23 rfl ?_
    rw [← hH1, loadN_app0]; rfl
  have c1 := refFits_ H1 i h w ws (hw.mono p1) (by omega)
  have c2 := refFeeds_ H1 i h x xs (hx.mono p1) (by omega)
  rw [hf] at c1
  rw [hfeed] at c2
  clear hf hfeed hi' hh'
  have hsmall := small_size hi2 hh2
  have w1 : IntKind.i64.wrap ((i : Int) + 1) = ((i + 1 : Nat) : Int) := wrap_succ (by omega)
  refine goW ?_
  refine l_heap (h' := H1) hH1 ?_
  refine goW ?_
  refine l_callG c1 ?_
  refine goW ?_
  refine l_callG c2 ?_
  refine goW ?_
  refine cond_go (fun hb => ?_) (fun hb => ?_)
  · cases hb
  clear hb c1 c2 l0
  refine goW ?_
  refine wq_loop (fun c ρ hp => ∃ k u, k ≤ h ∧ c = h - k ∧ Mine 1 intC H1 hp u ((List.range k).map (unit i ws xs)) ∧ ρ 1 = w ∧ ρ 2 = x ∧ ρ 3 = .ptr H.length 0 ∧ ρ 8 = u ∧ ρ 9 = .int .i64 (k : Nat)) ⟨0, .nils, Nat.zero_le _, rfl, Mine.nil (List.prefix_refl _), rfl, rfl, rfl, rfl, rfl⟩ ?_
  rintro _ ρ hp ⟨k, u, hk, rfl, hm, h1, h2, h3, h8, h9⟩
  have l0 := q0 hp hm.1
  have l1 := q1 hp hm.1
  refine goW ?_
  refine cond_go (fun hb => ?_) (fun hb => ?_)
  · have hk' : k < h := by simpa using hb
    clear hb
    have hue := unit_end (i := i) hk'
    have hns : netSize i h = h * (i + 1) + h + 1 := rfl
    obtain ⟨a, ha⟩ : ∃ a, k * (i + 1) = a := ⟨_, rfl⟩
    have hf : unit i ws xs k = plus (ws.getD (k * (i + 1) + i) 0) (dot ((ws.drop (k * (i + 1))).take i) xs) := rfl
    rw [ha] at hue hf
    have hw2 := hw.mono (p1.trans hm.1)
    obtain ⟨pt, hpt, hps⟩ := hw2.part (l := a) (k := a + i) (by omega) (by omega)
    rw [List.drop_take, Nat.add_sub_cancel_left] at hps
    have hget := getD_some (xs := ws) (k := a + i) (by omega)
    obtain ⟨b2, o2, _, hi2', rfl, _, hlo2, _⟩ := hw2.get T27 rfl T3 rfl hget
    have ho2 := loadV_one T3 rfl hlo2
    have w2 : IntKind.i64.wrap ((k : Int) * ((i + 1 : Nat) : Int)) = (a : Int) := by rw [← Int.natCast_mul, ha]; exact wrap_nat (by omega)
    have w3 : IntKind.i64.wrap ((a : Int) + (i : Int)) = ((a + i : Nat) : Int) := by rw [← Int.natCast_add]; exact wrap_nat (by omega)
    have w4 := wrap_succ (n := k) (by omega)
    have c1 := refDot_ hp pt x _ xs hps (hx.mono (p1.trans hm.1)) (by simp; omega) (vecMay_part hvw _ _) hvx
    have c2 := refPlus_ hp (ws.getD (a + i) 0) (dot ((ws.drop a).take i) xs)
    rw [← hf] at c2
    obtain ⟨v', H', n1, a1, m1⟩ := int_append hm (unit i ws xs k) (by simp; omega)
    rw [range_snoc] at m1
    clear hf hue hns ha hps hget hlo2 hw2 hsmall hs hwl hxl hxl' hi1 hi2 hh1 hh2 hvw hvx hsm hm
    refine goW ?_
    refine l_callG c1 ?_
    refine goW ?_
    refine l_callG c2 ?_
    refine goW ?_
    refine l_appendG n1 a1 ?_
    refine goW ?_
    refine ⟨h - (k + 1), by omega, k + 1, v', hk', rfl, m1, ?_⟩
    simp [put_app, put_none, *]
  · have hk' : k = h := by have : ¬ k < h := by simpa using hb
                           omega
    subst hk'
    have hm2 := hm.low p1
    clear hb
    refine goW ?_
    refine end_ret (by simp only [resRf, resRs, resR]; first | done | rfl) ⟨u, ?_, hm2⟩
    simp [put_app, put_none, *]

theorem refOut_bad (H : Heap) (i h : Int) (w x : V) (ws xs : List Int) (hw : Sl 1 intC H w ws) (hx : Sl 1 intC H x xs) (lw : ws.length ≤ 2 ^ 47) (lx : xs.length ≤ 2 ^ 47) (hbad : (fits i h ws && feeds i xs) = false) :
    Call Try.prog 98 [.agg [.int .i64 i, .int .i64 h], w, x] H (.tup [.int .i64 0, .int .i64 600]) H := by
  refine call_plain fit mixed Try.func98 rfl rfl rfl (by kernel_rfl) rfl ?_
  obtain ⟨H1, hH1⟩ : ∃ H1, H ++ [.row [.int .i64 i, .int .i64 h] true] = H1 := ⟨_, rfl⟩
  have p1 : H <+: H1 := by rw [← hH1]; exact List.prefix_append _ _
  have l0 : loadV T 23 H1 H.length 0 = some (.agg [.int .i64 i, .int .i64 h]) := by
    refine loadV_agg T23 rfl ?_
    rw [← hH1, loadN_app0]; rfl
  have c1 := refHidden_bad H1 i h w x ws xs (hw.mono p1) (hx.mono p1) lw lx hbad
  clear hw hx lw lx hbad
  refine goW ?_
  refine l_heap (h' := H1) hH1 ?_
  refine goW ?_
  refine l_callG c1 ?_
  refine goW ?_
  refine cond_go (fun hb => ?_) (fun hb => ?_)
  · refine goW ?_
    refine end_finG ?_; simp [put_app, put_none, *]
  · cases hb

theorem refOut_ (H : Heap) (i h : Nat) (w x : V) (ws xs : List Int) (hw : Sl 1 intC H w ws) (hx : Sl 1 intC H x xs) (hf : fits i h ws = true) (hfeed : feeds i xs = true) :
    Call Try.prog 98 [.agg [.int .i64 i, .int .i64 h], w, x] H (.tup [.int .i64 (outOf i h ws xs), .int .i64 0]) H := by
  refine call_plain fit mixed Try.func98 rfl rfl rfl (by kernel_rfl) rfl ?_
  obtain ⟨hsm, hvw, i', h', hi', hh', hi1, hi2, hh1, hh2, hs⟩ := fits_split hf
  obtain rfl : i = i' := Int.ofNat_inj.1 hi'
  obtain rfl : h = h' := Int.ofNat_inj.1 hh'
  obtain ⟨H1, hH1⟩ : ∃ H1, H ++ [.row [.int .i64 i, .int .i64 h] true] = H1 := ⟨_, rfl⟩
  have p1 : H <+: H1 := by rw [← hH1]; exact List.prefix_append _ _
  have q0 : ∀ H2, H1 <+: H2 → loadV T 3 H2 H.length 0 = some (.int .i64 i) := fun H2 hp => by
    refine loadV_one T3 rfl (loadN_pre hp ?_)
    rw [← hH1, loadN_app0]; rfl
  have q1 : ∀ H2, H1 <+: H2 → loadV T 3 H2 H.length 1 = some (.int .i64 h) := fun H2 hp => by
    refine loadV_one T3 rfl (loadN_pre hp ?_)
    rw [← hH1, loadN_app0]; rfl
  have l0 : loadV T 23 H1 H.length 0 = some (.agg [.int .i64 i, .int .i64 h]) := by
    refine loadV_agg T23 rfl ?_
    rw [← hH1, loadN_app0]; rfl
  obtain ⟨u, H2, c1, hm⟩ := refHidden_ H1 i h w x ws xs (hw.mono p1) (hx.mono p1) hf hfeed
  have r0 := q0 H2 hm.1
  have r1 := q1 H2 hm.1
  have hul : (units i h ws xs).length = h := by simp [units]
  obtain ⟨ac, H3, c2, hm2⟩ := refActs_ H2 u _ hm.sl (by rw [hul]; omega) (fun y hy => by obtain ⟨k, _, rfl⟩ := List.mem_map.1 hy; exact plus_may _ _)
  have r1' := q1 H3 (hm.1.trans hm2.1)
  have hns : netSize i h = h * (i + 1) + h + 1 := rfl
  have hsmall := small_size hi2 hh2
  obtain ⟨a, ha⟩ : ∃ a, h * (i + 1) = a := ⟨_, rfl⟩
  rw [ha] at hns hsmall
  have hw2 := hw.mono (p1.trans (hm.1.trans hm2.1))
  obtain ⟨pt, hpt, hps⟩ := hw2.part (l := a) (k := a + h) (by omega) (by omega)
  rw [List.drop_take, Nat.add_sub_cancel_left] at hps
  have hget := getD_some (xs := ws) (k := a + h) (by omega)
  obtain ⟨b2, o2, _, hi2', rfl, _, hlo2, _⟩ := hw2.get T27 rfl T3 rfl hget
  have ho2 := loadV_one T3 rfl hlo2
  have w1 : IntKind.i64.wrap ((i : Int) + 1) = ((i + 1 : Nat) : Int) := wrap_succ (by omega)
  have w2 : IntKind.i64.wrap ((h : Int) * ((i + 1 : Nat) : Int)) = (a : Int) := by rw [← Int.natCast_mul, ha]; exact wrap_nat (by omega)
  have w3 : IntKind.i64.wrap ((a : Int) + (h : Int)) = ((a + h : Nat) : Int) := by rw [← Int.natCast_add]; exact wrap_nat (by omega)
  have c3 := refDot_ H3 pt ac _ _ hps hm2.sl (by simp [acts, hul]; omega) (vecMay_part hvw _ _) (vecMay_acts (by rw [hul]; omega))
  have c4 := refPlus_ H3 (ws.getD (a + h) 0) (dot ((ws.drop a).take h) (acts (units i h ws xs)))
  have hf4 : outOf i h ws xs = plus (ws.getD (h * (i + 1) + h) 0) (dot ((ws.drop (h * (i + 1))).take h) (acts (units i h ws xs))) := rfl
  rw [ha] at hf4
  rw [← hf4] at c4
  have p3 : H2 <+: H3 := hm2.1
  have pend : H <+: H3 := p1.trans (hm.1.trans hm2.1)
  clear hf4 hns hsmall ha hps hget hlo2 hw2 hs hi1 hi2 hh1 hh2 hvw hsm hm hm2 hul hi' hh' hf hfeed q0 q1 hw hx p1
  refine goW ?_
  refine l_heap (h' := H1) hH1 ?_
  refine goW ?_
  refine l_callG c1 ?_
  refine goW ?_
  refine cond_go (fun hb => ?_) (fun hb => ?_)
  · cases hb
  clear hb c1
  refine goW ?_
  refine d_callG c2 (.inl p3) ?_
  refine goW ?_
  refine d_call0G c3 ?_
  refine goW ?_
  refine l_callG c4 ?_
  refine goW ?_
  refine end_ret (by simp only [resRf, resRs, resR]; first | done | rfl) ⟨?_, pend⟩
  simp [put_app, put_none]
end Go.Proofs.Ytekifjeckbndiaa.VM

/- Layer 7: the program's Grad. -/
namespace Go.Proofs.Ytekifjeckbndiaa.VM
open Go
set_option linter.unusedVariables false
set_option linter.unusedSimpArgs false
attribute [local irreducible] wq wqL wqD wqE wqO Th Bk EndR
set_option maxHeartbeats 8000000

theorem int_append2 {B H : Heap} {v u : V} {xs zs : List Int} (h : Mine 1 intC B H v xs) (hu : Sl 1 intC H u zs) (hap : Apart v u) (y : Int) (hl : xs.length ≤ 2 ^ 40) :
    ∃ v' H', newsOf T (T 3).get! 27 (.slc H.length 0 1 1 true 1) (H ++ [.row [.int .i64 y] true]) = some (1, [.int .i64 y]) ∧ appendV (T 3).get! v 1 [.int .i64 y] (H ++ [.row [.int .i64 y] true]) = some (v', H') ∧ Mine 1 intC B H' v' (xs ++ [y]) ∧ Sl 1 intC H' u zs ∧ Apart v' u := by
  have hn : newsOf T (T 3).get! 27 (.slc H.length 0 1 1 true 1) (H ++ [.row [.int .i64 y] true]) = some (1, [.int .i64 y]) := news_row T27 rfl (by decide) rfl
  have hc : Cells 1 intC [.int .i64 y] [y] := Cells.one (R := intC) (cs := [.int .i64 y]) (x := y) rfl rfl
  have h' := h.pre (List.prefix_append H [.row [.int .i64 y] true])
  have hu' := hu.mono (List.prefix_append H [.row [.int .i64 y] true])
  have hlt : ∀ c, u.blk = some c → c < H.length := fun c hc => hu.lt hc
  obtain ⟨hp, h'⟩ := h'
  rcases h' with ⟨rfl, rfl⟩ | ⟨b, hb1, ho⟩
  · have hp2 : H <+: H ++ [.row [.int .i64 y] true] ++ [.row [.int .i64 y] true] := by rw [List.append_assoc]; exact List.prefix_append _ _
    refine ⟨.slc (H ++ [.row [.int .i64 y] true] : Heap).length 0 1 1 false 1, H ++ [.row [.int .i64 y] true] ++ [.row [.int .i64 y] true], hn, by rfl, mine_make (xs := [y]) hp hc, hu.mono hp2, fun b c hb hc' => ?_⟩
    have := hlt c hc'
    simp only [V.blk, Option.some.injEq] at hb
    simp at hb
    omega
  · obtain ⟨v', b', H', e1, e2, e3, e4⟩ := own_append (ie := (T 3).get!) ho rfl hc ⟨by show (xs.length + 1) * 8 ≤ _; omega, by simp; omega⟩
    have hvb : v.blk = some b := by obtain ⟨cap, t, cs, rfl, _⟩ := ho; rfl
    refine ⟨v', H', hn, e1, ⟨e3.pre hp hb1, .inr ⟨b', ?_, e2⟩⟩, hu'.fr fun c hc1 hc2 => e3.2 c hc1 fun h => hap b c hvb hc2 h.symm, fun b1 c hb hc' => ?_⟩
    · have := hp.length_le; omega
    · have hv : v'.blk = some b' := by obtain ⟨cap, t, cs, rfl, _⟩ := e2; rfl
      rw [hv] at hb
      cases hb
      rcases e4 with rfl | e4
      · exact hap _ _ hvb hc'
      · have := hlt c hc'
        simp at e4
        omega

end Go.Proofs.Ytekifjeckbndiaa.VM

/- Layer 7: the program's Grad where all fits. -/
namespace Go.Proofs.Ytekifjeckbndiaa.VM
open Go
set_option linter.unusedVariables false
set_option linter.unusedSimpArgs false
attribute [local irreducible] wq wqL wqD wqE wqO Th Bk EndR
set_option maxHeartbeats 8000000

theorem flat_snoc (f : Nat → List Int) (k : Nat) : (List.range k).flatMap f ++ f k = (List.range (k + 1)).flatMap f := by
  rw [List.range_succ, List.flatMap_append]; simp
theorem flat_len {f : Nat → List Int} {n : Nat} (hf : ∀ k, (f k).length = n) : ∀ k, ((List.range k).flatMap f).length = k * n
  | 0 => by simp
  | k + 1 => by rw [← flat_snoc, List.length_append, flat_len hf k, hf, Nat.add_mul]; omega

end Go.Proofs.Ytekifjeckbndiaa.VM

/- Layer 7: the document's Grad. -/
namespace Go.Proofs.Ytekifjeckbndiaa.VM
open Go
set_option linter.unusedVariables false
set_option linter.unusedSimpArgs false
attribute [local irreducible] wq wqL wqD wqE wqO Th Bk EndR
set_option maxHeartbeats 8000000

/-- out is G where D holds -/
def Fill (G : List Int) (D : Nat → Prop) (out : List Int) : Prop := out.length = G.length ∧ ∀ p, D p → out[p]? = G[p]?
theorem Fill.put {G out : List Int} {D D' : Nat → Prop} {q : Nat} {v : Int} (h : Fill G D out) (hv : G[q]? = some v) (hd : ∀ p, D' p → D p ∨ p = q) : Fill G D' (out.set q v) := by
  refine ⟨by rw [List.length_set]; exact h.1, fun p hp => ?_⟩
  by_cases hq : q = p
  · subst hq
    have : q < G.length := (List.getElem?_eq_some_iff.1 hv).1
    rw [List.getElem?_set_self (by rw [h.1]; exact this), hv]
  · rw [List.getElem?_set_ne hq]
    rcases hd p hp with h1 | h1
    · exact h.2 p h1
    · exact absurd h1.symm hq
theorem Fill.all {G out : List Int} {D : Nat → Prop} (h : Fill G D out) (hd : ∀ p, p < G.length → D p) : out = G := by
  apply List.ext_getElem?
  intro p
  by_cases hp : p < G.length
  · exact h.2 p (hd p hp)
  · rw [List.getElem?_eq_none (by rw [h.1]; omega), List.getElem?_eq_none (by omega)]
theorem flat_get {f : Nat → List Int} {n : Nat} (hf : ∀ k, (f k).length = n) {k j : Nat} (hj : j < n) : ∀ {h : Nat}, k < h → ((List.range h).flatMap f)[k * n + j]? = (f k)[j]?
  | 0, hk => by omega
  | h + 1, hk => by
    rw [← flat_snoc]
    by_cases hkh : k < h
    · have h1 : (k + 1) * n ≤ h * n := Nat.mul_le_mul_right _ hkh
      rw [Nat.add_mul] at h1
      rw [List.getElem?_append_left (by rw [flat_len hf]; omega)]
      exact flat_get hf hj hkh
    · obtain rfl : k = h := by omega
      rw [List.getElem?_append_right (by rw [flat_len hf]; omega), flat_len hf, Nat.add_sub_cancel_left]

end Go.Proofs.Ytekifjeckbndiaa.VM

/- Chapter 7: gradients of any input; what every program answers that is one. -/
namespace Go.Proofs.Ytekifjeckbndiaa.VM
open Go
set_option linter.unusedVariables false
set_option linter.unusedSimpArgs false
attribute [local irreducible] wq wqL wqD wqE wqO Th Bk EndR
set_option maxHeartbeats 8000000

def gradOk (i h : Int) (ws xs : List Int) (y : Int) : Bool := fits i h ws && feeds i xs && fixMay y
def gradE (i h : Int) (ws xs : List Int) (y : Int) : Int := if gradOk i h ws xs y then 0 else 700
def gradL (i h : Int) (ws xs : List Int) (y : Int) : List Int := if gradOk i h ws xs y then grad i.toNat h.toNat ws xs y else []

theorem gradOk_split {i h : Int} {ws xs : List Int} {y : Int} (hok : gradOk i h ws xs y = true) : ∃ i' h' : Nat, i = i' ∧ h = h' ∧ fits i' h' ws = true ∧ feeds i' xs = true ∧ fixMay y = true := by
  simp only [gradOk, Bool.and_eq_true] at hok
  obtain ⟨⟨h1, h2⟩, h3⟩ := hok
  obtain ⟨_, _, i', h', rfl, rfl, _⟩ := fits_split h1
  exact ⟨i', h', rfl, rfl, h1, h2, h3⟩

theorem grad_len {i h : Nat} {ws xs : List Int} {y : Int} (hx : xs.length = i) : (grad i h ws xs y).length = netSize i h := by
  unfold grad
  have hrl : ∀ e us k, (gradRow i h ws xs e us k).length = i + 1 := fun e us k => by simp [gradRow, hx]
  simp only [List.length_append, flat_len (hrl _ _), List.length_map, List.length_cons, List.length_nil, acts, units, List.length_range]
  unfold netSize; omega
theorem gradL_len (i h : Int) (ws xs : List Int) (y : Int) : (gradL i h ws xs y).length ≤ 16 := by
  unfold gradL
  split
  · rename_i hok
    obtain ⟨i, h, rfl, rfl, h1, h2, h3⟩ := gradOk_split hok
    obtain ⟨_, _, i', h', hi', hh', _, hi2, _, hh2, _⟩ := fits_split h1
    simp only [Int.toNat_natCast]
    rw [grad_len (Int.ofNat_inj.1 (feeds_split h2).1)]
    have : i = i' := Int.ofNat_inj.1 hi'
    have : h = h' := Int.ofNat_inj.1 hh'
    have := small_size (i := i) (h := h) (by omega) (by omega)
    unfold netSize; omega
  · simp

def givenW : List Int := [65536, -65536, 100, 5, 32768, -200, 65536, 131072, 7]

theorem ints_cells : ∀ xs : List Int, Cells 1 intC (xs.map (V.int .i64)) xs
  | [] => Cells.nil
  | x :: xs => Cells.cons (cs := [.int .i64 x]) rfl rfl (ints_cells xs)

end Go.Proofs.Ytekifjeckbndiaa.VM

/- Chapter 7: the statement Backs. -/
namespace Go.Proofs.Ytekifjeckbndiaa.VM
open Go
set_option linter.unusedVariables false
set_option linter.unusedSimpArgs false
attribute [local irreducible] wq wqL wqD wqE wqO Th Bk EndR
set_option maxHeartbeats 8000000

theorem rows_one {H : Heap} {x : V} {xs : List Int} {y : Int} (hx : Sl 1 intC H x xs) : Rows (H ++ [.row [x, .int .i64 y] true]) (.slc H.length 0 1 1 true 2) [(xs, y)] := by
  have hm := mine_make (t := true) (List.prefix_refl H) (Cells.one (R := rowC) (cs := [x, .int .i64 y]) (x := (x, y)) rfl rfl)
  refine ⟨[(x, y)], hm.sl, rfl, fun k p r hp hr => ?_⟩
  cases k with
  | zero => simp at hp hr; subst hp; subst hr; exact ⟨hx.mono hm.1, rfl⟩
  | succ k => simp at hp
theorem Rows.at {H : Heap} {v : V} {rs : List (List Int × Int)} (h : Rows H v rs) {k : Nat} {xs : List Int} {y : Int} (hk : rs[k]? = some (xs, y)) : ∃ b o x, idxV T 24 v (k : Int) = some (.ptr b o) ∧ loadV T 64 H b o = some (.agg [x, .int .i64 y]) ∧ loadV T 27 H b o = some x ∧ loadV T 3 H b (o + 1) = some (.int .i64 y) ∧ Sl 1 intC H x xs := by
  obtain ⟨rv, h1, h2, h3⟩ := h
  have hkl : k < rv.length := by rw [h2]; exact (List.getElem?_eq_some_iff.1 hk).1
  obtain ⟨⟨x, z⟩, hp⟩ : ∃ p, rv[k]? = some p := ⟨rv[k], by simp [hkl]⟩
  obtain ⟨hs, hz⟩ := h3 k _ _ hp hk
  obtain rfl : z = y := hz
  obtain ⟨b, o, _, hi, rfl, _, hlo, hlc⟩ := h1.get T24 rfl T64 rfl hp
  exact ⟨b, o, x, hi, loadV_agg T64 rfl hlo, loadV_one T27 rfl (hlc 0 _ rfl), loadV_one T3 rfl (hlc 1 _ rfl), hs⟩

end Go.Proofs.Ytekifjeckbndiaa.VM

/- Layer 21: the program's One, where all may be. -/
namespace Go.Proofs.Ytekifjeckbndiaa.VM
open Go
set_option linter.unusedVariables false
set_option linter.unusedSimpArgs false
attribute [local irreducible] wq wqL wqD wqE wqO Th Bk EndR
set_option maxHeartbeats 8000000

theorem grad_may {i h : Nat} {ws xs : List Int} {y : Int} (hx : xs.length = i) (hs : netSize i h ≤ 16) : vecMay (grad i h ws xs y) = true := by
  have hl := grad_len (h := h) (ws := ws) (y := y) hx
  simp only [vecMay, Bool.and_eq_true, decide_eq_true_eq, List.all_eq_true]
  refine ⟨by omega, fun b hb => ?_⟩
  unfold grad at hb
  simp only at hb
  rcases List.mem_append.1 hb with hb | hb
  · obtain ⟨k, _, hk⟩ := List.mem_flatMap.1 hb
    unfold gradRow at hk
    rcases List.mem_append.1 hk with hk | hk
    · obtain ⟨z, _, rfl⟩ := List.mem_map.1 hk
      exact times_may _ _
    · simp at hk; subst hk; exact times_may _ _
  · rcases List.mem_append.1 hb with hb | hb
    · obtain ⟨z, _, rfl⟩ := List.mem_map.1 hb
      exact times_may _ _
    · simp at hb; subst hb; exact plus_may _ _
theorem pickN_lt {s k b : Nat} (hb : 1 ≤ b) : pickN s k b < b := by
  unfold pickN
  have h := drawN_lt s k
  have : drawN s k * b ≤ 65535 * b := Nat.mul_le_mul_right _ (by omega)
  omega

/-- all of a checkpoint is written -/
theorem agg_store {t b : Nat} {i : TI} {H : Heap} {cs cells : List V} (hT : T t = some i) (hb : H[b]? = some (.row cs true)) (hl : cells.length = i.size) (hc : cs.length = i.size) : storeV T t H b 0 (.agg cells) = some (H.set b (.row cells true)) := by
  have e : storeV T t H b 0 (.agg cells) = if cells.length = i.size then H.storeN b 0 cells else none := by simp only [storeV, hT, V.cells]; rfl
  rw [e, if_pos hl]
  unfold Heap.storeN
  rw [hb]
  simp only
  rw [if_pos (by omega), setL_tail (by omega)]
  have h1 : cs.drop (0 + cells.length) = [] := List.drop_eq_nil_of_le (by omega)
  rw [h1]
  simp

abbrev zeroChk : List V := [.nils, .nils, .int .i64 0, .int .i64 0, .int .i64 0]
theorem rows_at (c : Cfg) (q : Nat) (hq : q < c.rows.length) : ∃ xs y, c.rows[q]? = some (xs, y) := ⟨(c.rows[q]).1, (c.rows[q]).2, by simp [hq]⟩

theorem cfgMay_split {c : Cfg} (h : cfgMay c = true) : (2 ≤ c.m ∧ c.m ≤ 8) ∧ lossMay c.i c.h c.rows = true ∧ (0 ≤ c.seed ∧ c.seed ≤ 65535) ∧ (1 ≤ c.total ∧ c.total ≤ 32) ∧ (1 ≤ c.interval ∧ c.interval ≤ 8) := by
  simp only [cfgMay, Bool.and_eq_true, within_iff] at h
  exact ⟨h.1.1.1.1.1, h.1.1.1.1.2, h.1.1.1.2, h.1.1.2, h.1.2⟩
theorem lossMay_split {i h : Int} {rs : List (List Int × Int)} (hh : lossMay i h rs = true) : shapeMay i h = true ∧ 1 ≤ rs.length ∧ rs.length ≤ 8 ∧ ∀ r ∈ rs, rowOk i r = true := by
  simp only [lossMay, Bool.and_eq_true, decide_eq_true_eq, List.all_eq_true] at hh
  exact ⟨hh.1.1, hh.1.2.1, hh.1.2.2, hh.2⟩
theorem chkMay_split {ws vs : List Int} {r m t : Int} (h : chkMay ws vs r m t = true) : vecMay ws = true ∧ vecMay vs = true ∧ vs.length = ws.length ∧ 1 ≤ ws.length ∧ hyperMay r m = true ∧ 0 ≤ t ∧ t ≤ 32 := by
  simp only [chkMay, alike, List.all_cons, List.all_nil, Bool.and_true, Bool.and_eq_true, decide_eq_true_eq] at h
  obtain ⟨⟨⟨⟨⟨⟨a, _⟩, b, c⟩, d⟩, e⟩, f⟩, g⟩ := h
  exact ⟨a, b, c, by omega, e, by omega, g⟩

/-- what a step of training comes to -/
def trainQ (c : Cfg) (id t : Int) : Nat := pickN c.seed.toNat (4096 * id.toNat + t.toNat) c.rows.length
def trainG (c : Cfg) (id : Int) (ws : List Int) (t : Int) : List Int := match c.rows[trainQ c id t]? with
  | some (xs, y) => grad c.i.toNat c.h.toNat ws xs y
  | none => []

end Go.Proofs.Ytekifjeckbndiaa.VM

/- THE SMALL MACHINE, part ZC: steps that leave the memory as it is; what is laid new is told by name. -/
namespace Go.Proofs.Ytekifjeckbndiaa.VM
open Go
set_option linter.unusedVariables false
set_option linter.unusedSimpArgs false

variable {P : Program} {T : Tab} {ops : Array Oper} {rest : List Oper} {Q : Rho → Heap → Prop} {ρ : Rho} {h h' : Heap} {v : V} {k : Nat} {d : Option Nat} {op : Op} {t : Nat} {p : String} {af : Array Edge}

theorem does_goP (hs : Does T ρ h op v h := by first | exact s_move eLk | exact s_assign eLk | exact s_bin eLk eLk eLkN | exact s_builtin eLk eLkA | exact s_field eLk (by rfl) | exact s_index eLk eLk eLkA | exact s_index2 eLk eLk (by rfl) (by simp only [Int.reduceToNat, Nat.reduceMul, Nat.reduceAdd, Nat.zero_add]; rfl) | exact s_load eLk eLkV | exact s_nil eLk | exact s_pick eLk eLk eLk (by simp only [reduceIte, Bool.false_eq_true, *]; first | done | rfl) | exact s_pick1 eLkB eLk eLk | exact s_pick0 eLkB eLk eLk | exact s_un eLk (by rfl) | exact s_extract eLk (by rfl) | exact s_func rfl eLk | exact s_conv (by rfl) (by rfl) rfl eLk | exact s_build (by rfl) rfl eLk (by rfl) | exact s_slice (by rfl) rfl (by rfl) eLk eLk eLk eLk eLkA) : Does T ρ h op v h := hs
theorem l_goP (hw : wqL P T ops rest Q (ρ.put d v) h) (hs : Does T ρ h op v h := by exact does_goP) : wqL P T ops (⟨d, op, t, p, af, none⟩ :: rest) Q ρ h := l_step hs hw
theorem d_goP (hw : wqD P T ops (k + 1) rest Q (ρ.put d v) h) (hs : Does T ρ h op v h := by exact does_goP) : wqD P T ops k (⟨d, op, t, p, af, none⟩ :: rest) Q ρ h := d_step hs hw

/-- a new place, under a name -/
theorem l_new {i : TI} {h2 : Heap} {t' : Nat} (hT : T t' = some i) (e : h ++ [.row i.zero true] = h2) (hw : wqL P T ops rest Q (ρ.put d (.ptr h.length 0)) h2) : wqL P T ops (⟨d, .alloc t', t, p, af, none⟩ :: rest) Q ρ h := by subst e; exact l_step (s_alloc hT) hw
theorem d_new {i : TI} {h2 : Heap} {t' : Nat} (hT : T t' = some i) (e : h ++ [.row i.zero true] = h2) (hw : wqD P T ops (k + 1) rest Q (ρ.put d (.ptr h.length 0)) h2) : wqD P T ops k (⟨d, .alloc t', t, p, af, none⟩ :: rest) Q ρ h := by subst e; exact d_step (s_alloc hT) hw
/-- a place with a value, under a name -/
theorem l_boxG {i : TI} {h2 : Heap} {t' : Nat} {x : Operand} {a : V} {cs : List V} (hT : T t' = some i) (e : h ++ [.row cs true] = h2) (hw : wqL P T ops rest Q (ρ.put d (.ptr h.length 0)) h2) (hx : ρ.ev x = some a := by exact eLk) (ht : a.isTup = false := by rfl) (hc : a.cells = cs := by (simp only [V.cells]; first | done | rfl)) : wqL P T ops (⟨d, .box t' x, t, p, af, none⟩ :: rest) Q ρ h := by subst e; exact l_step (s_boxC hT hx ht hc) hw
/-- a store, by what it does -/
theorem l_put {t' b off : Nat} {x y : Operand} {a : V} (hst : storeV T t' h b off a = some h') (hw : wqL P T ops rest Q (ρ.put d V.undef) h') (hx : ρ.ev x = some (.ptr b off) := by exact eLk) (hy : ρ.ev y = some a := by exact eLk) : wqL P T ops (⟨d, .store t' x y, t, p, af, none⟩ :: rest) Q ρ h := l_step (s_store hx hy hst) hw
theorem d_put {t' b off : Nat} {x y : Operand} {a : V} (hst : storeV T t' h b off a = some h') (hw : wqD P T ops (k + 1) rest Q (ρ.put d V.undef) h') (hx : ρ.ev x = some (.ptr b off) := by exact eLk) (hy : ρ.ev y = some a := by exact eLk) : wqD P T ops k (⟨d, .store t' x y, t, p, af, none⟩ :: rest) Q ρ h := d_step (s_store hx hy hst) hw
/-- the memory behind a slice that is made, under a name -/
theorem d_makeG {t' e : Nat} {i ie : TI} {x y : Operand} {kx ky : IntKind} {n c : Int} {h2 : Heap} (hT : T t' = some i) (hk : i.k = .slice e) (hE : T e = some ie) (eh : h ++ [.row (zeros ie.zero c.toNat) true] = h2) (hw : wqD P T ops (k + 1) rest Q (ρ.put d (.slc h.length 0 n.toNat c.toNat true ie.size)) h2)
    (hx : ρ.ev x = some (.int kx n) := by exact eLk) (hy : ρ.ev y = some (.int ky c) := by exact eLk) (hb : 0 ≤ n ∧ n ≤ c ∧ (ie.bytes : Int) * c ≤ 2 ^ 48 ∧ c ≤ IntKind.i64.max := by (simp only [IntKind.max, IntKind.signed, IntKind.bits]; omega)) : wqD P T ops k (⟨d, .makeSlice t' x y, t, p, af, none⟩ :: rest) Q ρ h := by subst eh; exact d_step (s_makeSlice hT hk hE hx hy hb) hw
theorem l_buildG {t' : Nat} {i : TI} {fs : List (Nat × Nat)} {ps : Array (Nat × Operand)} {vs : List (Nat × V)} {cs : List V} (hT : T t' = some i) (hk : i.k = .strct fs) (hf : fillV (structPlace T fs) i.zero vs = some cs) (hw : wqL P T ops rest Q (ρ.put d (.agg cs)) h) (hp : evParts ρ.ev ps.toList = some vs := by exact eLk) : wqL P T ops (⟨d, .build t' ps, t, p, af, none⟩ :: rest) Q ρ h := l_step (s_build hT hk hp hf) hw
theorem goP {p q : Prop} (hq : q) (h : Kept q → p := by intro hq; (repeat (first | (refine l_pl ?_; refine l_goP ?_) | (refine d_pl ?_; refine d_goP ?_) | (refine l_gd ?_; first | refine l_onG ?_ | refine l_offG ?_) | (refine d_gd ?_; first | refine d_onG ?_ | refine d_offG ?_) | refine wq_seq ?_ | refine wq_line ?_ | refine wq_draw (by decide +kernel) ?_ | refine wq_block ?_ | refine l_nil ?_ | refine d_nil ?_ | refine wq_skip ?_ | refine wq_ret ?_ | refine wq_exit ?_ | refine th_normal ?_ | refine th_ret ?_ | refine th_exit ?_ | refine bk_normal ?_ | refine bk_ret ?_ | refine bk_exit ?_ | refine bk_other rfl ?_)); exact hq.val) : p := h ⟨hq⟩
end Go.Proofs.Ytekifjeckbndiaa.VM

/- THE SMALL MACHINE, MEMORY BY PARTS: what a function has made itself lies in parts that are told by name; all else is as it was. -/
namespace Go.Proofs.Ytekifjeckbndiaa.VM
open Go
set_option linter.unusedVariables false
set_option linter.unusedSimpArgs false

variable {P : Program} {T : Tab} {α β : Type}

/-- something that is known as long as some blocks are left as they are -/
structure Fact where
  S : Nat → Prop
  p : Heap → Prop
  st : ∀ H H' : Heap, p H → (∀ c, S c → H'[c]? = H[c]?) → p H'
  lt : ∀ (H : Heap) c, p H → S c → c < H.length

/-- a part: a block of cells; a slice that may be written; what is only read -/
inductive Res : Type 1 where
  | box (b : Nat) (cs : List V)
  | own {α : Type} (sz : Nat) (R : List V → α → Prop) (v : V) (xs : List α)
  | ro (F : Fact)
def Res.ok (H : Heap) : Res → Prop
  | .box b cs => H[b]? = some (.row cs true)
  | .own sz R v xs => (v = .nils ∧ xs = []) ∨ ∃ b, Own sz R H b v xs
  | .ro F => F.p H
def Res.lies (c : Nat) : Res → Prop
  | .box b _ => b = c
  | .own _ _ v _ => v.blk = some c
  | .ro F => F.S c

theorem Res.ok_lt {H : Heap} {r : Res} (h : r.ok H) {c : Nat} (hc : r.lies c) : c < H.length := by
  cases r with
  | box b cs => cases hc; exact (List.getElem?_eq_some_iff.1 h).1
  | own sz R v xs =>
    rcases h with ⟨rfl, _⟩ | ⟨b, h⟩
    · cases hc
    · have := h.blk.symm.trans hc; cases this; exact h.lt
  | ro F => exact F.lt H c h hc
theorem Res.ok_fr {H H' : Heap} {r : Res} (h : r.ok H) (hf : ∀ c, r.lies c → H'[c]? = H[c]?) : r.ok H' := by
  cases r with
  | box b cs => exact (hf b rfl).trans h
  | own sz R v xs =>
    refine h.imp id ?_
    rintro ⟨b, h⟩
    have hb := h.blk
    obtain ⟨cap, t, cs, h0, h1, h2, h3⟩ := h
    exact ⟨b, cap, t, cs, h0, h1, (hf b hb).trans h2, h3⟩
  | ro F => exact F.st H H' h hf

/-- L are parts of H, apart from each other and from all that lay in B; B is as it was -/
structure Mem (B H : Heap) (L : List Res) : Prop where
  pre : B <+: H
  ok : ∀ r ∈ L, r.ok H
  low : ∀ r ∈ L, ∀ c, r.lies c → B.length ≤ c
  sep : L.Pairwise fun r s => ∀ c, r.lies c → ¬ s.lies c

/-- r is in L; f puts another in its place -/
inductive Has : List Res → Res → (Res → List Res) → Prop
  | here {r L} : Has (r :: L) r (fun x => x :: L)
  | there {r s L f} : Has L r f → Has (s :: L) r (fun x => s :: f x)

theorem Has.parts {L : List Res} {r : Res} {f : Res → List Res} (h : Has L r f) : ∃ L1 L2, L = L1 ++ r :: L2 ∧ ∀ x, f x = L1 ++ x :: L2 := by
  induction h with
  | here => exact ⟨[], _, rfl, fun _ => rfl⟩
  | there h ih =>
    obtain ⟨L1, L2, rfl, h2⟩ := ih
    exact ⟨_ :: L1, L2, rfl, fun x => by show _ :: _ = _; rw [h2]; rfl⟩

/-- what was put in lies there -/
theorem Has.again {L : List Res} {r : Res} {f : Res → List Res} (h : Has L r f) (x : Res) : Has (f x) x f := by
  induction h with
  | here => exact .here
  | there h ih => exact .there ih
theorem Has.same {L : List Res} {r : Res} {f : Res → List Res} (h : Has L r f) : f r = L := by
  obtain ⟨L1, L2, rfl, h2⟩ := h.parts
  exact h2 r

/-- r is in L; L' is the rest -/
inductive Take : List Res → Res → List Res → Prop
  | here {r L} : Take (r :: L) r L
  | there {r s L L'} : Take L r L' → Take (s :: L) r (s :: L')
theorem Take.perm {L L' : List Res} {r : Res} (h : Take L r L') : L.Perm (r :: L') := by
  induction h with
  | here => exact .refl _
  | there h ih => exact (ih.cons _).trans (.swap _ _ _)

theorem Mem.start (H : Heap) : Mem H H [] := ⟨List.prefix_refl _, by simp, by simp, .nil⟩
theorem Mem.get {B H : Heap} {L : List Res} {r : Res} {f : Res → List Res} (h : Mem B H L) (hh : Has L r f) : r.ok H := by
  obtain ⟨L1, L2, rfl, _⟩ := hh.parts
  exact h.ok _ (by simp)
theorem Mem.len {B H : Heap} {L : List Res} (h : Mem B H L) : B.length ≤ H.length := h.pre.length_le

/-- one part is turned -/
theorem Mem.turn {B H H' : Heap} {L : List Res} {r r' : Res} {f : Res → List Res} (h : Mem B H L) (hh : Has L r f) (hl : H.length ≤ H'.length) (hf : ∀ c, c < H.length → ¬ r.lies c → H'[c]? = H[c]?) (ok : r'.ok H') (mv : ∀ c, r'.lies c → r.lies c ∨ H.length ≤ c) : Mem B H' (f r') := by
  obtain ⟨L1, L2, rfl, h2⟩ := hh.parts
  rw [h2]
  have hs := List.pairwise_append.1 h.sep
  have hs2 := List.pairwise_cons.1 hs.2.1
  have hB := h.pre.length_le
  have st : ∀ s ∈ L1 ++ r :: L2, (∀ c, s.lies c → ¬ r.lies c) → s.ok H' := fun s hsm hap =>
    Res.ok_fr (h.ok s hsm) fun c hc => hf c (Res.ok_lt (h.ok s hsm) hc) (hap c hc)
  refine ⟨List.prefix_iff_getElem?.2 fun i hi => ?_, fun s hsm => ?_, fun s hsm c hc => ?_, List.pairwise_append.2 ⟨hs.1, List.pairwise_cons.2 ⟨fun s hsm c hc hc2 => ?_, hs2.2⟩, fun s hsm t htm c hc hc2 => ?_⟩⟩
  · rw [hf i (by omega) fun hc => by have := h.low r (by simp) i hc; omega]
    exact List.prefix_iff_getElem?.1 h.pre i hi
  · rcases List.mem_append.1 hsm with h1 | h1
    · exact st s (List.mem_append_left _ h1) fun c hc hr => hs.2.2 s h1 r (by simp) c hc hr
    · rcases List.mem_cons.1 h1 with rfl | h1
      · exact ok
      · exact st s (List.mem_append_right _ (List.mem_cons_of_mem _ h1)) fun c hc hr => hs2.1 s h1 c hr hc
  · rcases List.mem_append.1 hsm with h1 | h1
    · exact h.low s (List.mem_append_left _ h1) c hc
    · rcases List.mem_cons.1 h1 with rfl | h1
      · rcases mv c hc with h3 | h3
        · exact h.low r (by simp) c h3
        · omega
      · exact h.low s (List.mem_append_right _ (List.mem_cons_of_mem _ h1)) c hc
  · rcases mv c hc with h3 | h3
    · exact hs2.1 s hsm c h3 hc2
    · have := Res.ok_lt (h.ok s (List.mem_append_right _ (List.mem_cons_of_mem _ hsm))) hc2; omega
  · rcases List.mem_cons.1 htm with rfl | htm
    · rcases mv c hc2 with h3 | h3
      · exact hs.2.2 s hsm r (by simp) c hc h3
      · have := Res.ok_lt (h.ok s (List.mem_append_left _ hsm)) hc; omega
    · exact hs.2.2 s hsm t (List.mem_cons_of_mem _ htm) c hc hc2

/-- what lay is as it was; what is new lies behind it -/
theorem Mem.call {B H H' : Heap} {L L' : List Res} (h : Mem B H L) (h' : Mem H H' L') : Mem B H' (L' ++ L) := by
  have hB := h.pre.length_le
  refine ⟨h.pre.trans h'.pre, fun s hs => ?_, fun s hs c hc => ?_, List.pairwise_append.2 ⟨h'.sep, h.sep, fun s hs t ht c hc hc2 => ?_⟩⟩
  · rcases List.mem_append.1 hs with h1 | h1
    · exact h'.ok s h1
    · refine Res.ok_fr (h.ok s h1) fun c hc => ?_
      rw [List.prefix_iff_getElem?.1 h'.pre c (Res.ok_lt (h.ok s h1) hc)]
      exact (List.getElem?_eq_getElem _).symm
  · rcases List.mem_append.1 hs with h1 | h1
    · have := h'.low s h1 c hc; omega
    · exact h.low s h1 c hc
  · have h1 := h'.low s hs c hc
    have h2 := Res.ok_lt (h.ok t ht) hc2
    omega
theorem Mem.call1 {B H H' : Heap} {L : List Res} {r : Res} (h : Mem B H L) (h' : Mem H H' [r]) : Mem B H' (r :: L) := h.call h'
theorem Mem.call2 {B H H' : Heap} {L : List Res} {r s : Res} (h : Mem B H L) (h' : Mem H H' [r, s]) : Mem B H' (r :: s :: L) := h.call h'
theorem Mem.grow {B H H' : Heap} {L : List Res} (h : Mem B H L) (hp : H <+: H') : Mem B H' L := h.call (L' := []) ⟨hp, by simp, by simp, .nil⟩
theorem Mem.new {B H : Heap} {L : List Res} (h : Mem B H L) (cs : List V) : Mem B (H ++ [.row cs true]) (.box H.length cs :: L) :=
  h.call (L' := [.box H.length cs]) ⟨List.prefix_append _ _, by simp [Res.ok], by simp [Res.lies], by simp⟩
theorem Mem.sub {B H : Heap} {L L' : List Res} (h : Mem B H L) (hs : L'.Sublist L) : Mem B H L' := ⟨h.pre, fun r hr => h.ok r (hs.subset hr), fun r hr => h.low r (hs.subset hr), h.sep.sublist hs⟩
theorem Mem.perm {B H : Heap} {L L' : List Res} (h : Mem B H L) (hs : L.Perm L') : Mem B H L' := ⟨h.pre, fun r hr => h.ok r (hs.mem_iff.2 hr), fun r hr => h.low r (hs.mem_iff.2 hr), (hs.pairwise_iff fun hab c h1 h2 => hab c h2 h1).1 h.sep⟩
theorem Mem.front {B H : Heap} {L L' : List Res} {r : Res} (h : Mem B H L) (t : Take L r L') : Mem B H (r :: L') := h.perm t.perm
theorem Mem.drop {B H : Heap} {L : List Res} {r : Res} (h : Mem B H (r :: L)) : Mem B H L := h.sub (List.sublist_cons_self _ _)
theorem Mem.swap {B H : Heap} {L : List Res} {r s : Res} (h : Mem B H (r :: s :: L)) : Mem B H (s :: r :: L) := h.perm (.swap _ _ _)
theorem Mem.rot {B H : Heap} {L : List Res} {r s t : Res} (h : Mem B H (r :: s :: t :: L)) : Mem B H (t :: r :: s :: L) := h.perm ((List.Perm.cons r (.swap t s L)).trans (.swap t r _))
theorem Mem.low' {A B H : Heap} {L : List Res} (h : Mem B H L) (hp : A <+: B) : Mem A H L := ⟨hp.trans h.pre, h.ok, fun r hr c hc => by have := h.low r hr c hc; have := hp.length_le; omega, h.sep⟩
/-- nil -/
theorem Mem.nil {B H : Heap} {L : List Res} (h : Mem B H L) (sz : Nat) (R : List V → α → Prop) : Mem B H (.own sz R .nils [] :: L) :=
  ⟨h.pre, fun r hr => (List.mem_cons.1 hr).elim (fun e => by subst e; exact .inl ⟨rfl, rfl⟩) (h.ok r), fun r hr c hc => (List.mem_cons.1 hr).elim (fun e => by subst e; cases hc) fun h1 => h.low r h1 c hc, List.pairwise_cons.2 ⟨fun _ _ c hc => (by cases hc), h.sep⟩⟩

theorem Mine.mem {sz : Nat} {R : List V → α → Prop} {B H : Heap} {v : V} {xs : List α} (h : Mine sz R B H v xs) : Mem B H [.own sz R v xs] :=
  ⟨h.1, fun r hr => by rcases List.mem_singleton.1 hr with rfl; exact h.2.imp id fun ⟨b, _, h⟩ => ⟨b, h⟩, fun r hr c hc => by rcases List.mem_singleton.1 hr with rfl; exact (h.blk hc).1, by simp⟩
theorem Mem.mine {sz : Nat} {R : List V → α → Prop} {B H : Heap} {v : V} {xs : List α} {L : List Res} {f : Res → List Res} (h : Mem B H L) (hh : Has L (.own sz R v xs) f) : Mine sz R B H v xs := by
  obtain ⟨L1, L2, rfl, _⟩ := hh.parts
  refine ⟨h.pre, (h.ok _ (List.mem_append_right _ List.mem_cons_self)).imp id ?_⟩
  rintro ⟨b, ho⟩
  exact ⟨b, h.low _ (List.mem_append_right _ List.mem_cons_self) b ho.blk, ho⟩
theorem Mem.sl {sz : Nat} {R : List V → α → Prop} {B H : Heap} {v : V} {xs : List α} {L : List Res} {f : Res → List Res} (h : Mem B H L) (hh : Has L (.own sz R v xs) f) : Sl sz R H v xs := (h.mine hh).sl
theorem Mem.fact {B H : Heap} {L : List Res} {F : Fact} {f : Res → List Res} (h : Mem B H L) (hh : Has L (.ro F) f) : F.p H := h.get hh
theorem Mem.mkro {B H : Heap} {F : Fact} (hp : B <+: H) (h : F.p H) (hl : ∀ c, F.S c → B.length ≤ c) : Mem B H [.ro F] :=
  ⟨hp, fun r hr => by rcases List.mem_singleton.1 hr with rfl; exact h, fun r hr c hc => by rcases List.mem_singleton.1 hr with rfl; exact hl c hc, by simp⟩
theorem Mem.row {B H : Heap} {L : List Res} {b : Nat} {cs : List V} {f : Res → List Res} (h : Mem B H L) (hh : Has L (.box b cs) f) : H[b]? = some (.row cs true) := h.get hh

/-- loads -/
theorem Mem.ld {B H : Heap} {L : List Res} {b off t : Nat} {i : TI} {cs : List V} {v : V} {f : Res → List Res} (h : Mem B H L) (hh : Has L (.box b cs) f) (hT : T t = some i) (ha : i.k.agg = false) (hq : cs[off]? = some v) : loadV T t H b off = some v := ld_cell hT ha (h.get hh) hq
theorem Mem.ldA {B H : Heap} {L : List Res} {b off t : Nat} {i : TI} {cs ds : List V} {f : Res → List Res} (h : Mem B H L) (hh : Has L (.box b cs) f) (hT : T t = some i) (ha : i.k.agg = true) (hn : off + i.size ≤ cs.length) (hq : (cs.drop off).take i.size = ds) : loadV T t H b off = some (.agg ds) := by
  refine loadV_agg hT ha ?_
  have hg : H[b]? = some (.row cs true) := h.get hh
  unfold Heap.loadN
  rw [hg]
  simp only
  rw [if_pos hn, hq]

/-- a store into a block -/
theorem Mem.put {B H : Heap} {L : List Res} {b off t : Nat} {i : TI} {cs ds cs' : List V} {v : V} {f : Res → List Res} (h : Mem B H L) (hh : Has L (.box b cs) f) (hT : T t = some i) (hc : v.cells = ds) (ht : v.isTup = false) (hl : ds.length = i.size) (hn : off + ds.length ≤ cs.length) (hs : setL cs off ds = cs') :
    ∃ H', storeV T t H b off v = some H' ∧ Mem B H' (f (.box b cs')) := by
  have hg : H[b]? = some (.row cs true) := h.get hh
  have hb := (List.getElem?_eq_some_iff.1 hg).1
  refine ⟨H.set b (.row cs' true), ?_, h.turn hh (by simp) (fun c hc hne => by rw [List.getElem?_set_ne (fun e => hne e)]) (by simp only [Res.ok]; rw [List.getElem?_set_self hb]) fun c hc => .inl hc⟩
  unfold storeV
  split
  · cases ht
  · rename_i j hT' _
    rw [hT] at hT'
    obtain rfl := Option.some.inj hT'
    rw [if_pos (by rw [hc, hl]), hc]
    unfold Heap.storeN
    rw [hg]
    simp only
    rw [if_pos hn, hs]
  · rename_i hT'
    rw [hT] at hT'
    cases hT'

/-- an element of a slice: where it lies, what is there, how it is written -/
theorem Mem.elem {sz : Nat} {R : List V → α → Prop} {B H : Heap} {v : V} {xs : List α} {L : List Res} {f : Res → List Res} (h : Mem B H L) (hh : Has L (.own sz R v xs) f) {t e : Nat} {i ie : TI} (hT : T t = some i) (hk : i.k = .slice e) (hE : T e = some ie) (hs : ie.size = sz) {k : Nat} (hk' : k < xs.length) :
    ∃ b, idxV T t v (k : Int) = some (.ptr b (k * sz)) ∧ ∀ w y, w.isTup = false → w.cells.length = sz → R w.cells y → ∃ H', storeV T e H b (k * sz) w = some H' ∧ Mem B H' (f (.own sz R v (xs.set k y))) := by
  rcases h.get hh with ⟨rfl, rfl⟩ | ⟨b, ho⟩
  · simp at hk'
  · obtain ⟨h1, h2⟩ := own_store ho hT hk hE hs hk'
    refine ⟨b, h1, fun w y e1 e2 e3 => ?_⟩
    obtain ⟨H', g1, g2, g3⟩ := h2 w y e1 e2 e3
    exact ⟨H', g1, h.turn hh g3.1 (fun c hc hne => g3.2 c hc fun e => hne (by subst e; exact ho.blk)) (.inr ⟨b, g2⟩) fun c hc => .inl hc⟩

/-- append -/
theorem Mem.app {sz : Nat} {R : List V → α → Prop} {B H : Heap} {v w : V} {xs ys : List α} {L : List Res} {f : Res → List Res} (h : Mem B H L) (hh : Has L (.own sz R v xs) f) {ie : TI} {t2 e2 : Nat} {i2 : TI} (hs : ie.size = sz) (hw : Sl sz R H w ys) (hT : T t2 = some i2) (hk : i2.k = .slice e2)
    (hb : (xs.length + ys.length) * ie.bytes ≤ 2 ^ 47 ∧ xs.length + ys.length ≤ 2 ^ 47) : ∃ n news v' H', newsOf T ie t2 w H = some (n, news) ∧ appendV ie v n news H = some (v', H') ∧ Mem B H' (f (.own sz R v' (xs ++ ys))) := by
  obtain ⟨news, h1, h2⟩ := hw.news hT hk hs
  obtain ⟨v', H', h3, h4, h5, h6⟩ := (h.mine hh).app hs h2 hb
  refine ⟨_, news, v', H', h1, h3, h.turn hh h5.1 (fun c hc hne => h5.2 c hc hne) (h4.2.imp id fun ⟨b, _, h⟩ => ⟨b, h⟩) fun c hc => h6 c hc⟩

/-- what is told one by one, as cells -/
theorem cells_of {sz : Nat} {R : List V → α → Prop} (g : α → List V) (hg : ∀ x, (g x).length = sz ∧ R (g x) x) : ∀ xs : List α, Cells sz R (xs.flatMap g) xs
  | [] => Cells.nil
  | x :: xs => by
    rw [List.flatMap_cons]
    exact Cells.cons (hg x).1 (hg x).2 (cells_of g hg xs)

theorem fill_one {place : Nat → Option (Nat × Nat)} {cs c : List V} {i : Nat} {v : V} {rest : List (Nat × V)} {off size : Nat} {r : Option (List V)} (hp : place i = some (off, size)) (ht : v.isTup = false) (hc : v.cells = c) (hl : c.length = size) (hn : Nat.ble (off + size) cs.length = true) (hr : fillV place (setL cs off c) rest = r) : fillV place cs ((i, v) :: rest) = r := by
  simp only [fillV, hp, hc]
  rw [if_pos ⟨ht, hl, Nat.le_of_ble_eq_true hn⟩]
  exact hr

section steps
variable {ops : Array Oper} {rest : List Oper} {Q : Rho → Heap → Prop} {ρ : Rho} {h h' B : Heap} {v a w : V} {k : Nat} {d : Option Nat} {op : Op} {t t' : Nat} {p : String} {af : Array Edge} {L : List Res} {f : Res → List Res} {x y : Operand} {cs ds cs' : List V} {i ie : TI}

theorem l_newM (hT : T t' = some i) (hz : i.zero = cs) (hw : ∀ b h', Mem B h' (.box b cs :: L) → wqL P T ops rest Q (ρ.put d (.ptr b 0)) h') (hM : Mem B h L := by assumption) : wqL P T ops (⟨d, .alloc t', t, p, af, none⟩ :: rest) Q ρ h := by
  subst hz; exact l_step (s_alloc hT) (hw _ _ (hM.new _))
theorem d_newM (hT : T t' = some i) (hz : i.zero = cs) (hw : ∀ b h', Mem B h' (.box b cs :: L) → wqD P T ops (k + 1) rest Q (ρ.put d (.ptr b 0)) h') (hM : Mem B h L := by assumption) : wqD P T ops k (⟨d, .alloc t', t, p, af, none⟩ :: rest) Q ρ h := by
  subst hz; exact d_step (s_alloc hT) (hw _ _ (hM.new _))
theorem l_boxM (hT : T t' = some i) (hw : ∀ b h', Mem B h' (.box b cs :: L) → wqL P T ops rest Q (ρ.put d (.ptr b 0)) h') (hM : Mem B h L := by assumption) (hx : ρ.ev x = some a := by exact eLk) (ht : a.isTup = false := by first | rfl | simp only [*]) (hc : a.cells = cs := by exact (by first | (simp only [*]; first | done | rfl) | (simp only [V.cells]; first | done | rfl))) : wqL P T ops (⟨d, .box t' x, t, p, af, none⟩ :: rest) Q ρ h := by
  exact l_step (s_boxC hT hx ht hc) (hw _ _ (hM.new _))
theorem d_boxM (hT : T t' = some i) (hw : ∀ b h', Mem B h' (.box b cs :: L) → wqD P T ops (k + 1) rest Q (ρ.put d (.ptr b 0)) h') (hM : Mem B h L := by assumption) (hx : ρ.ev x = some a := by exact eLk) (ht : a.isTup = false := by first | rfl | simp only [*]) (hc : a.cells = cs := by exact (by first | (simp only [*]; first | done | rfl) | (simp only [V.cells]; first | done | rfl))) : wqD P T ops k (⟨d, .box t' x, t, p, af, none⟩ :: rest) Q ρ h := by
  exact d_step (s_boxC hT hx ht hc) (hw _ _ (hM.new _))
theorem l_putM {b off : Nat} (hT : T t' = some i) (hw : ∀ h', Mem B h' (f (.box b cs')) → wqL P T ops rest Q (ρ.put d V.undef) h') (hM : Mem B h L := by assumption) (hx : ρ.ev x = some (.ptr b off) := by exact eLk) (hy : ρ.ev y = some a := by exact eLk) (hh : Has L (.box b cs) f := by (repeat (first | exact Has.here | apply Has.there)))
    (hc : a.cells = ds := by exact (by first | (simp only [*]; first | done | rfl) | (simp only [V.cells]; first | done | rfl))) (ht : a.isTup = false := by first | rfl | simp only [*]) (hl : ds.length = i.size := by rfl) (hn : Nat.ble (off + ds.length) cs.length = true := by rfl) (hs : setL cs off ds = cs' := by (simp only [setL, List.set_cons_zero, List.set_cons_succ, Nat.reduceAdd, Nat.zero_add]; first | done | rfl)) : wqL P T ops (⟨d, .store t' x y, t, p, af, none⟩ :: rest) Q ρ h := by
  obtain ⟨H', h1, h2⟩ := hM.put hh hT hc ht hl (Nat.le_of_ble_eq_true hn) hs
  exact l_step (s_store hx hy h1) (hw _ h2)
theorem d_putM {b off : Nat} (hT : T t' = some i) (hw : ∀ h', Mem B h' (f (.box b cs')) → wqD P T ops (k + 1) rest Q (ρ.put d V.undef) h') (hM : Mem B h L := by assumption) (hx : ρ.ev x = some (.ptr b off) := by exact eLk) (hy : ρ.ev y = some a := by exact eLk) (hh : Has L (.box b cs) f := by (repeat (first | exact Has.here | apply Has.there)))
    (hc : a.cells = ds := by exact (by first | (simp only [*]; first | done | rfl) | (simp only [V.cells]; first | done | rfl))) (ht : a.isTup = false := by first | rfl | simp only [*]) (hl : ds.length = i.size := by rfl) (hn : Nat.ble (off + ds.length) cs.length = true := by rfl) (hs : setL cs off ds = cs' := by (simp only [setL, List.set_cons_zero, List.set_cons_succ, Nat.reduceAdd, Nat.zero_add]; first | done | rfl)) : wqD P T ops k (⟨d, .store t' x y, t, p, af, none⟩ :: rest) Q ρ h := by
  obtain ⟨H', h1, h2⟩ := hM.put hh hT hc ht hl (Nat.le_of_ble_eq_true hn) hs
  exact d_step (s_store hx hy h1) (hw _ h2)
/-- a store by what it does -/
theorem l_stM {b off : Nat} (hst : storeV T t' h b off a = some h') (hw : wqL P T ops rest Q (ρ.put d V.undef) h') (hx : ρ.ev x = some (.ptr b off) := by exact eLk) (hy : ρ.ev y = some a := by exact eLk) : wqL P T ops (⟨d, .store t' x y, t, p, af, none⟩ :: rest) Q ρ h := l_step (s_store hx hy hst) hw
theorem d_stM {b off : Nat} (hst : storeV T t' h b off a = some h') (hw : wqD P T ops (k + 1) rest Q (ρ.put d V.undef) h') (hx : ρ.ev x = some (.ptr b off) := by exact eLk) (hy : ρ.ev y = some a := by exact eLk) : wqD P T ops k (⟨d, .store t' x y, t, p, af, none⟩ :: rest) Q ρ h := d_step (s_store hx hy hst) hw

/-- a slice that is made of zeros -/
theorem l_makeM {e : Nat} {kx ky : IntKind} {n : Nat} {m c : Int} {z : α} (sz : Nat) (R : List V → α → Prop) (hT : T t' = some i) (hk : i.k = .slice e) (hE : T e = some ie) (hR : R ie.zero z) (hz : ie.zero.length = sz) (hs : ie.size = sz) (hm : m = n) (hc : c = n) (hb : (ie.bytes : Int) * n ≤ 2 ^ 48 ∧ n ≤ 9223372036854775807)
    (hw : ∀ v h', Mem B h' (.own sz R v (List.replicate n z) :: L) → wqL P T ops rest Q (ρ.put d v) h') (hM : Mem B h L := by assumption) (hx : ρ.ev x = some (.int kx m) := by exact eLk) (hy : ρ.ev y = some (.int ky c) := by exact eLk) : wqL P T ops (⟨d, .makeSlice t' x y, t, p, af, none⟩ :: rest) Q ρ h := by
  subst hm; subst hc; subst hs
  refine l_step (s_makeSlice hT hk hE hx hy ⟨by omega, by omega, hb.1, by simp only [IntKind.max, IntKind.signed, IntKind.bits]; omega⟩) ?_
  have h1 := mine_make (R := R) (t := true) (List.prefix_refl h) (cells_zeros (sz := ie.size) (z := ie.zero) (x := z) hz hR n)
  rw [List.length_replicate] at h1
  exact hw _ _ (hM.call h1.mem)
theorem d_makeM {e : Nat} {kx ky : IntKind} {n : Nat} {m c : Int} {z : α} (sz : Nat) (R : List V → α → Prop) (hT : T t' = some i) (hk : i.k = .slice e) (hE : T e = some ie) (hR : R ie.zero z) (hz : ie.zero.length = sz) (hs : ie.size = sz) (hm : m = n) (hc : c = n) (hb : (ie.bytes : Int) * n ≤ 2 ^ 48 ∧ n ≤ 9223372036854775807)
    (hw : ∀ v h', Mem B h' (.own sz R v (List.replicate n z) :: L) → wqD P T ops (k + 1) rest Q (ρ.put d v) h') (hM : Mem B h L := by assumption) (hx : ρ.ev x = some (.int kx m) := by exact eLk) (hy : ρ.ev y = some (.int ky c) := by exact eLk) : wqD P T ops k (⟨d, .makeSlice t' x y, t, p, af, none⟩ :: rest) Q ρ h := by
  subst hm; subst hc; subst hs
  refine d_step (s_makeSlice hT hk hE hx hy ⟨by omega, by omega, hb.1, by simp only [IntKind.max, IntKind.signed, IntKind.bits]; omega⟩) ?_
  have h1 := mine_make (R := R) (t := true) (List.prefix_refl h) (cells_zeros (sz := ie.size) (z := ie.zero) (x := z) hz hR n)
  rw [List.length_replicate] at h1
  exact hw _ _ (hM.call h1.mem)

/-- a slice of what is told -/
theorem l_sliceM {e n : Nat} {ps : Array (Nat × Operand)} {vs : List (Nat × V)} {sz : Nat} (R : List V → α → Prop) (xs : List α) (cs : List V) (hT : T t' = some i) (hk : i.k = .slice e) (hE : T e = some ie) (hn : n = xs.length) (hR : Cells sz R cs xs) (hl : n * sz ≤ 2 ^ 24)
    (hw : ∀ v h', Mem B h' (.own sz R v xs :: L) → wqL P T ops rest Q (ρ.put d v) h') (hM : Mem B h L := by assumption) (hp : evParts ρ.ev ps.toList = some vs := by exact eLk) (hf : fillV (rowPlace ie.size n) (zeros ie.zero n) vs = some cs := by first | rfl | ((repeat (refine fill_one (by rfl) (by first | rfl | simp only [*]) (by first | (simp only [*]; first | done | rfl) | (simp only [V.cells]; first | done | rfl)) (by rfl) (by rfl) ?_)); simp only [fillV, setL, List.set_cons_zero, List.set_cons_succ, Nat.reduceAdd, Nat.zero_add]; first | done | rfl)) (hs : ie.size = sz := by rfl) : wqL P T ops (⟨d, .buildSlice t' n ps, t, p, af, none⟩ :: rest) Q ρ h := by
  subst hn; subst hs
  refine l_step (s_buildSlice hT hk hE hp hl hf) ?_
  exact hw _ _ (hM.call (mine_make (R := R) (t := true) (List.prefix_refl h) hR).mem)
theorem d_sliceM {e n : Nat} {ps : Array (Nat × Operand)} {vs : List (Nat × V)} {sz : Nat} (R : List V → α → Prop) (xs : List α) (cs : List V) (hT : T t' = some i) (hk : i.k = .slice e) (hE : T e = some ie) (hn : n = xs.length) (hR : Cells sz R cs xs) (hl : n * sz ≤ 2 ^ 24)
    (hw : ∀ v h', Mem B h' (.own sz R v xs :: L) → wqD P T ops (k + 1) rest Q (ρ.put d v) h') (hM : Mem B h L := by assumption) (hp : evParts ρ.ev ps.toList = some vs := by exact eLk) (hf : fillV (rowPlace ie.size n) (zeros ie.zero n) vs = some cs := by first | rfl | ((repeat (refine fill_one (by rfl) (by first | rfl | simp only [*]) (by first | (simp only [*]; first | done | rfl) | (simp only [V.cells]; first | done | rfl)) (by rfl) (by rfl) ?_)); simp only [fillV, setL, List.set_cons_zero, List.set_cons_succ, Nat.reduceAdd, Nat.zero_add]; first | done | rfl)) (hs : ie.size = sz := by rfl) : wqD P T ops k (⟨d, .buildSlice t' n ps, t, p, af, none⟩ :: rest) Q ρ h := by
  subst hn; subst hs
  refine d_step (s_buildSlice hT hk hE hp hl hf) ?_
  exact hw _ _ (hM.call (mine_make (R := R) (t := true) (List.prefix_refl h) hR).mem)

/-- append -/
theorem l_appM {sz : Nat} {R : List V → α → Prop} {xs ys : List α} {b : V} {zs : Array Operand} {t1 t2 e e2 : Nat} {i2 : TI} (hw2 : Sl sz R h b ys)
    (hw : ∀ v' h', Mem B h' (f (.own sz R v' (xs ++ ys))) → wqL P T ops rest Q (ρ.put d v') h') (hM : Mem B h L := by assumption) (hx : evs ρ.ev zs.toList = some [a, b] := by exact eLk) (hh : Has L (.own sz R a xs) f := by (repeat (first | exact Has.here | apply Has.there))) (hT : T t1 = some i := by rfl) (hk : i.k = .slice e := by rfl) (hE : T e = some ie := by rfl) (hs : ie.size = sz := by rfl) (hT2 : T t2 = some i2 := by rfl) (hk2 : i2.k = .slice e2 := by rfl) (hb : (xs.length + ys.length) * ie.bytes ≤ 2 ^ 47 ∧ xs.length + ys.length ≤ 2 ^ 47 := by (first | (simp only [List.length_nil, List.length_cons, List.length_append, List.length_map, List.length_range, List.length_take, List.length_set, Nat.zero_add, Nat.add_zero]; omega) | omega | (simp only [*]; omega))) :
    wqL P T ops (⟨d, .call { callee := .builtin .append, args := zs, argTypes := #[t1, t2] }, t, p, af, none⟩ :: rest) Q ρ h := by
  obtain ⟨n, news, v', H', h1, h2, h3⟩ := hM.app hh (ie := ie) hs hw2 hT2 hk2 hb
  exact l_step (s_append hx hT hk hE h1 h2) (hw _ _ h3)
theorem d_appM {sz : Nat} {R : List V → α → Prop} {xs ys : List α} {b : V} {zs : Array Operand} {t1 t2 e e2 : Nat} {i2 : TI} (hw2 : Sl sz R h b ys)
    (hw : ∀ v' h', Mem B h' (f (.own sz R v' (xs ++ ys))) → wqD P T ops (k + 1) rest Q (ρ.put d v') h') (hM : Mem B h L := by assumption) (hx : evs ρ.ev zs.toList = some [a, b] := by exact eLk) (hh : Has L (.own sz R a xs) f := by (repeat (first | exact Has.here | apply Has.there))) (hT : T t1 = some i := by rfl) (hk : i.k = .slice e := by rfl) (hE : T e = some ie := by rfl) (hs : ie.size = sz := by rfl) (hT2 : T t2 = some i2 := by rfl) (hk2 : i2.k = .slice e2 := by rfl) (hb : (xs.length + ys.length) * ie.bytes ≤ 2 ^ 47 ∧ xs.length + ys.length ≤ 2 ^ 47 := by (first | (simp only [List.length_nil, List.length_cons, List.length_append, List.length_map, List.length_range, List.length_take, List.length_set, Nat.zero_add, Nat.add_zero]; omega) | omega | (simp only [*]; omega))) :
    wqD P T ops k (⟨d, .call { callee := .builtin .append, args := zs, argTypes := #[t1, t2] }, t, p, af, none⟩ :: rest) Q ρ h := by
  obtain ⟨n, news, v', H', h1, h2, h3⟩ := hM.app hh (ie := ie) hs hw2 hT2 hk2 hb
  exact d_step (s_append hx hT hk hE h1 h2) (hw _ _ h3)

theorem eLkM {α : Type} {a b : α} (h : a = b := by exact (by first | assumption | (simp only [*]; done) | (simp only [*]; rfl) | exact Mem.ld (by assumption) (by (repeat (first | exact Has.here | apply Has.there))) (by rfl) (by rfl) (by rfl) | exact Mem.ldA (by assumption) (by (repeat (first | exact Has.here | apply Has.there))) (by rfl) (by rfl) (by (simp only [List.length_cons, List.length_nil, List.length_set]; omega)) (by (simp only [List.drop_zero, List.drop_succ_cons, List.take_succ_cons, List.take_zero, List.take_nil]; first | done | rfl)) | exact loadV_one (by rfl) (by rfl) (by assumption) | exact loadV_agg (by rfl) (by rfl) (by assumption))) : a = b := h
theorem does_goM (hs : Does T ρ h op v h := by first | exact s_move eLk | exact s_assign eLk | exact s_bin eLk eLk eLkN | exact s_builtin eLk eLkA | exact s_field eLk (by rfl) | exact s_index eLk eLk eLkA | exact s_fieldv eLk (by rfl) | exact s_load eLk eLkM | exact s_nil eLk | exact s_pick1 eLkB eLk eLk | exact s_pick0 eLkB eLk eLk | exact s_pick eLk eLk eLk (by simp only [reduceIte, Bool.false_eq_true, *]; first | done | rfl) | exact s_un eLk (by rfl) | exact s_extract eLk (by rfl) | exact s_func rfl eLk | exact s_conv (by rfl) (by rfl) rfl eLk | exact s_build (by rfl) rfl eLk (by first | ((repeat (refine fill_one (by rfl) (by first | rfl | simp only [*]) (by first | (simp only [*]; first | done | rfl) | (simp only [V.cells]; first | done | rfl)) (by rfl) (by rfl) ?_)); simp only [fillV, setL, List.set_cons_zero, List.set_cons_succ, Nat.reduceAdd, Nat.zero_add]; first | done | rfl) | rfl) | exact s_slice (by rfl) rfl (by rfl) eLk eLk eLk eLk eLkA) : Does T ρ h op v h := hs
/-- steps that leave the memory as it is; loads look into the parts -/
theorem l_goM (hw : wqL P T ops rest Q (ρ.put d v) h) (hs : Does T ρ h op v h := by exact does_goM) : wqL P T ops (⟨d, op, t, p, af, none⟩ :: rest) Q ρ h := l_step hs hw
theorem d_goM (hw : wqD P T ops (k + 1) rest Q (ρ.put d v) h) (hs : Does T ρ h op v h := by exact does_goM) : wqD P T ops k (⟨d, op, t, p, af, none⟩ :: rest) Q ρ h := d_step hs hw

/-- a test whose outcome is known -/
theorem cond_pl {x y : Code} {Q : Exit → Rho → Heap → Prop} {c : Operand} (hw : wq P T (.cond c x y) Q ρ h) : wq P T (.cond c x y) Q ρ h := hw
theorem cond_yes {x y : Code} {Q : Exit → Rho → Heap → Prop} {c : Operand} (hw : wq P T x Q ρ h) (hb : ρ.ev c = some (.bool true) := by exact eLkB) : wq P T (.cond c x y) Q ρ h := wq_cond hb (fun _ => hw) (fun h => by cases h)
theorem cond_no {x y : Code} {Q : Exit → Rho → Heap → Prop} {c : Operand} (hw : wq P T y Q ρ h) (hb : ρ.ev c = some (.bool false) := by exact eLkB) : wq P T (.cond c x y) Q ρ h := wq_cond hb (fun h => by cases h) (fun _ => hw)

/-- a guard that was never reckoned -/
theorem l_offU {j e : Nat} {w : Bool} (hw : wqL P T ops rest Q (ρ.put d V.undef) h) (h1 : (ops[j]?).bind (·.dst) = some e := by rfl) (h2 : ρ.ev (.tmp e) = some V.undef := by exact eLkB) : wqL P T ops (⟨d, op, t, p, af, some (j, w)⟩ :: rest) Q ρ h := by
  have h2' : ρ e = V.undef := by simpa [Rho.ev] using h2
  have hg : guardR ops ρ ⟨d, op, t, p, af, some (j, w)⟩ = false := by simp only [guardR, h1, h2', V.undef]
  simp only [wqL]; rw [if_neg (by rw [hg]; simp)]; exact hw
theorem d_offU {j e : Nat} {w : Bool} (hw : wqD P T ops (k + 1) rest Q (ρ.put d V.undef) h) (h1 : (ops[j]?).bind (·.dst) = some e := by rfl) (h2 : ρ.ev (.tmp e) = some V.undef := by exact eLkB) : wqD P T ops k (⟨d, op, t, p, af, some (j, w)⟩ :: rest) Q ρ h := by
  have h2' : ρ e = V.undef := by simpa [Rho.ev] using h2
  have hg : guardR ops ρ ⟨d, op, t, p, af, some (j, w)⟩ = false := by simp only [guardR, h1, h2', V.undef]
  simp only [wqD]; rw [if_neg (by rw [hg]; simp)]; exact hw

theorem goM {p q : Prop} (hq : q) (h : Kept q → p := by intro hq; (repeat (first | (refine l_pl ?_; refine l_goM ?_) | (refine d_pl ?_; refine d_goM ?_) | (refine l_gd ?_; first | refine l_onG ?_ | refine l_offG ?_ | refine l_offU ?_) | (refine d_gd ?_; first | refine d_onG ?_ | refine d_offG ?_ | refine d_offU ?_) | (refine cond_pl ?_; first | refine cond_yes ?_ | refine cond_no ?_) | refine wq_seq ?_ | refine wq_line ?_ | refine wq_draw (by decide +kernel) ?_ | refine wq_block ?_ | refine l_nil ?_ | refine d_nil ?_ | refine wq_skip ?_ | refine wq_ret ?_ | refine wq_exit ?_ | refine th_normal ?_ | refine th_ret ?_ | refine th_exit ?_ | refine bk_normal ?_ | refine bk_ret ?_ | refine bk_exit ?_ | refine bk_other rfl ?_)); exact hq.val) : p := h ⟨hq⟩

/-- ends -/
theorem res_tmp {t : Nat} (hv : ρ.ev (.tmp t) = some v) : resR T ρ h (.tmp t) = some v := hv
theorem res_cell {a t b off : Nat} (ha : ρ.ev (.tmp a) = some (.ptr b off)) (hl : loadV T t h b off = some v) : resR T ρ h (.cell a t) = some v := by
  have ha' : ρ a = .ptr b off := by simpa [Rho.ev] using ha
  simp only [resR, ha']
  unfold loadV at hl
  cases hT : T t with
  | none => rw [hT] at hl; cases hl
  | some i => rw [hT] at hl; exact hl
theorem end_1 {r : ResultVar} {R : V → Heap → Prop} {x : Exit} (hx : x = .ret ∨ x = .normal) (hR : R v h) (h1 : resR T ρ h r = some v := by (first | exact res_tmp eLk | exact res_cell eLk eLkM)) : EndR T [r] R x ρ h := by
  rcases hx with rfl | rfl <;> exact ⟨v, by simp only [resRf, resRs, h1], hR⟩
theorem end_2 {r1 r2 : ResultVar} {R : V → Heap → Prop} {x : Exit} {v1 v2 : V} (hx : x = .ret ∨ x = .normal) (hR : R (.tup [v1, v2]) h) (h1 : resR T ρ h r1 = some v1 := by (first | exact res_tmp eLk | exact res_cell eLk eLkM)) (h2 : resR T ρ h r2 = some v2 := by (first | exact res_tmp eLk | exact res_cell eLk eLkM)) : EndR T [r1, r2] R x ρ h := by
  rcases hx with rfl | rfl <;> exact ⟨_, by simp only [resRf, resRs, h1, h2], hR⟩
theorem end_3 {r1 r2 r3 : ResultVar} {R : V → Heap → Prop} {x : Exit} {v1 v2 v3 : V} (hx : x = .ret ∨ x = .normal) (hR : R (.tup [v1, v2, v3]) h) (h1 : resR T ρ h r1 = some v1 := by (first | exact res_tmp eLk | exact res_cell eLk eLkM)) (h2 : resR T ρ h r2 = some v2 := by (first | exact res_tmp eLk | exact res_cell eLk eLkM)) (h3 : resR T ρ h r3 = some v3 := by (first | exact res_tmp eLk | exact res_cell eLk eLkM)) : EndR T [r1, r2, r3] R x ρ h := by
  rcases hx with rfl | rfl <;> exact ⟨_, by simp only [resRf, resRs, h1, h2, h3], hR⟩
end steps

/-- a contract over the memory by parts -/
theorem call_mem (fit : Fits P T) (hm : P.follows .mixedOrders = true) {f : Nat} {fn : Func} {c : Code} {args : List V} {H : Heap} {R : V → Heap → Prop} {rs : List ResultVar} (hf : P.funcs[f]? = some fn) (hb : fn.body = some c) (hn : (fn.name == "runtime.NumGoroutine") = false)
    (hrs : fn.results = ⟨rs⟩) (hok : funcOk fn c args.length = true) (h : Mem H H [] → wq P T c (EndR T rs R) (rho0 args) H) : ∃ v H', Call P f args H v H' ∧ R v H' := by
  obtain ⟨v, H', h1, h2⟩ := call_wq fit hm hf hb hn hrs hok (h (Mem.start H))
  exact ⟨v, H', h2, h1⟩
/-- a function that answers plainly -/
theorem call_pure (fit : Fits P T) (hm : P.follows .mixedOrders = true) {f : Nat} {fn : Func} {c : Code} {args : List V} {H : Heap} {v : V} {rs : List ResultVar} (hf : P.funcs[f]? = some fn) (hb : fn.body = some c) (hn : (fn.name == "runtime.NumGoroutine") = false)
    (hrs : fn.results = ⟨rs⟩) (hok : funcOk fn c args.length = true) (hv : v.plain = true) (h : Mem H H [] → wq P T c (EndR T rs fun v' h' => v' = v ∧ H <+: h') (rho0 args) H) : Call P f args H v H := call_plain fit hm hf hb hn hrs hok hv (h (Mem.start H))
/-- a function that turns what it is handed -/
theorem call_turn (fit : Fits P T) (hm : P.follows .mixedOrders = true) {f : Nat} {fn : Func} {c : Code} {args : List V} {B H : Heap} {L : List Res} {R : V → Heap → Prop} {rs : List ResultVar} (hM : Mem B H L) (hf : P.funcs[f]? = some fn) (hb : fn.body = some c) (hn : (fn.name == "runtime.NumGoroutine") = false)
    (hrs : fn.results = ⟨rs⟩) (hok : funcOk fn c args.length = true) (h : Mem B H L → wq P T c (EndR T rs R) (rho0 args) H) : ∃ v H', Call P f args H v H' ∧ R v H' := by
  obtain ⟨v, H', h1, h2⟩ := call_wq fit hm hf hb hn hrs hok (h hM)
  exact ⟨v, H', h2, h1⟩
/-- parts by their names alone -/
theorem Mem.slG {α : Type} {sz : Nat} {R : List V → α → Prop} {B H : Heap} {v : V} {xs : List α} {L : List Res} {f : Res → List Res} (h : Mem B H L) (hh : Has L (.own sz R v xs) f := by (repeat (first | exact Has.here | apply Has.there))) : Sl sz R H v xs := h.sl hh
theorem Mem.factG {B H : Heap} {L : List Res} {F : Fact} {f : Res → List Res} (h : Mem B H L) (hh : Has L (.ro F) f := by (repeat (first | exact Has.here | apply Has.there))) : F.p H := h.fact hh
theorem Mem.subG {B H : Heap} {L L' : List Res} (h : Mem B H L) (hs : L'.Sublist L := by (repeat (first | exact List.Sublist.slnil | exact List.Sublist.refl _ | refine List.Sublist.cons_cons _ ?_ | refine List.Sublist.cons _ ?_))) : Mem B H L' := h.sub hs
theorem Mem.frontG {B H : Heap} {L L' : List Res} {r : Res} (h : Mem B H L) (t : Take L r L' := by (repeat (first | exact Take.here | apply Take.there))) : Mem B H (r :: L') := h.front t
end Go.Proofs.Ytekifjeckbndiaa.VM

/- Layer 14, the plain law: bytes as strings, the bytes of a number, of a checkpoint. -/
namespace Go.Proofs.Ytekifjeckbndiaa.VM
open Go
set_option linter.unusedVariables false
set_option linter.unusedSimpArgs false
attribute [local irreducible] wq wqL wqD wqE wqO Th Bk EndR
set_option maxHeartbeats 8000000

def byteC (cs : List V) (n : Int) : Prop := cs = [.int .u8 n]
def strOf (bs : List Int) : ByteArray := ⟨(bs.map fun n => UInt8.ofNat n.toNat).toArray⟩
theorem strOf_size (bs : List Int) : (strOf bs).size = bs.length := by simp [strOf, ByteArray.size]
theorem strOf_app (a b : List Int) : strOf a ++ strOf b = strOf (a ++ b) := by
  apply ByteArray.ext
  simp [strOf, ByteArray.data_append]
theorem strOf_nil : strOf [] = ⟨#[]⟩ := rfl

theorem toBytes_of : ∀ (cs : List V) (bs : List Int), Cells 1 byteC cs bs → V.toBytes cs = some (bs.map fun n => UInt8.ofNat n.toNat)
  | [], [], _ => rfl
  | [], b :: bs, h => by have := h.1; simp at this
  | c :: cs, [], h => by have := h.1; simp at this
  | c :: cs, b :: bs, h => by
    have h0 := h.2 0 b rfl
    simp [byteC] at h0
    subst h0
    have ht := toBytes_of cs bs ⟨by have := h.1; simpa using this, fun k x hk => by
      have := h.2 (k + 1) x (by simpa using hk)
      simpa [Nat.succ_mul] using this⟩
    simp [V.toBytes, ht]

theorem s_toStr {ρ : Rho} {H : Heap} {x : Operand} {v : V} {bs : List Int} (hx : ρ.ev x = some v) (h : Sl 1 byteC H v bs) : Does T ρ H (.convert 84 9 x) (.str (strOf bs)) H := by
  refine does_mem rfl ?_ ?_
  · rcases h with ⟨rfl, _⟩ | ⟨b, off, cap, t, cs, wr, rfl, _⟩ <;> simp only [pureOp, T84, T9, hx]
  · rcases h with ⟨rfl, rfl⟩ | ⟨b, off, cap, t, cs, wr, rfl, h1, h2, h3, h4⟩
    · simp only [memOp, T84, T9, T5, hx]; rfl
    · simp only [memOp, T84, T9, T5, hx]
      by_cases h0 : bs.length = 0
      · obtain rfl : bs = [] := List.length_eq_zero_iff.1 h0
        simp; rfl
      · rw [if_neg h0]
        have hl : H.loadN b off bs.length = some ((cs.drop off).take bs.length) := by
          unfold Heap.loadN
          rw [h2]
          simp only
          rw [if_pos (by omega)]
        have hc : Cells 1 byteC ((cs.drop off).take bs.length) bs := ⟨by simp; omega, fun k x hk => by
          have hk' := (List.getElem?_eq_some_iff.1 hk).1
          have := h4 k x hk
          rw [List.drop_take, List.drop_drop, List.take_take, Nat.min_eq_left (by omega)]
          exact this⟩
        rw [hl]
        simp only [toBytes_of _ _ hc]
        rfl

def lowK (x : Int) (j : Nat) : Int := IntKind.u8.wrap (x.fdiv (2 ^ min (8 * j) IntKind.i64.bits))
def lowL (x : Int) (k : Nat) : List Int := (List.range k).map (lowK x)

theorem str_add {a b : List Int} (h : a.length + b.length ≤ 2 ^ 40) : vbin T .add 9 (.str (strOf a)) (.str (strOf b)) = some (.str (strOf (a ++ b))) := by
  simp only [vbin, strBin, strOf_size, strOf_app]
  rw [if_neg (by simp only [IntKind.max, IntKind.signed, IntKind.bits]; omega)]
theorem lowL_len (x : Int) (k : Nat) : (lowL x k).length = k := by simp [lowL]
def lowsL (xs : List Int) : List Int := xs.flatMap fun x => lowL x 4
theorem lowsL_len (xs : List Int) : (lowsL xs).length = 4 * xs.length := by
  induction xs with
  | nil => rfl
  | cons x xs ih =>
    have : lowsL (x :: xs) = lowL x 4 ++ lowsL xs := rfl
    rw [this, List.length_append, ih, lowL_len, List.length_cons]; omega
theorem lowsL_snoc {xs : List Int} {k : Nat} {x : Int} (h : xs[k]? = some x) : lowsL (xs.take (k + 1)) = lowsL (xs.take k) ++ lowL x 4 := by
  rw [List.take_add_one, h]
  simp [lowsL]
def putL (ws vs : List Int) (r m t : Int) : List Int := (((lowL ws.length 1 ++ lowsL ws) ++ lowsL vs) ++ lowL r 4 ++ lowL m 4) ++ lowL t 1
end Go.Proofs.Ytekifjeckbndiaa.VM

/- Layers 5, 11, 20, the plain law: first weights, first hypers, a member as it begins. -/
namespace Go.Proofs.Ytekifjeckbndiaa.VM
open Go
set_option linter.unusedVariables false
set_option linter.unusedSimpArgs false
attribute [local irreducible] wq wqL wqD wqE wqO Th Bk EndR
set_option maxHeartbeats 8000000

def initK (s f k : Nat) : Int := (drawN s (f + k) : Int) - 32768
def initL (i h s f : Nat) : List Int := (List.range (netSize i h)).map (initK s f)
theorem initK_may (s f k : Nat) : fixMay (initK s f k) = true := by
  have := drawN_lt s (f + k)
  unfold fixMay initK
  rw [within_iff]; omega
theorem initL_len (i h s f : Nat) : (initL i h s f).length = netSize i h := by simp [initL]
theorem initL_vec {i h s f : Nat} (hs : netSize i h ≤ 16) : vecMay (initL i h s f) = true := by
  simp only [vecMay, Bool.and_eq_true, decide_eq_true_eq, List.all_eq_true]
  refine ⟨by rw [initL_len]; exact hs, fun b hb => ?_⟩
  obtain ⟨k, _, rfl⟩ := List.mem_map.1 hb
  exact initK_may s f k

def rateN (s k : Nat) : Nat := 64 + pickN s k 16321
def momN (s k : Nat) : Nat := pickN s (k + 1) 58983
theorem hyper_re (s k : Nat) : hyperMay (rateN s k) (momN s k) = true := by
  have h1 := pickN_lt (s := s) (k := k) (b := 16321) (by decide)
  have h2 := pickN_lt (s := s) (k := k + 1) (b := 58983) (by decide)
  unfold rateN momN
  simp only [hyperMay, Bool.and_eq_true, within_iff]; omega

abbrev memC (w v : V) (r m t h : Int) : List V := [w, v, .int .i64 r, .int .i64 m, .int .i64 t, .int .i64 h]
abbrev zeroMem : List V := [.nils, .nils, .int .i64 0, .int .i64 0, .int .i64 0, .int .i64 0]
def firstW (c : Cfg) (id : Int) : List Int := initL c.i.toNat c.h.toNat c.seed.toNat (50000 + 16 * id.toNat)
def firstV (c : Cfg) : List Int := List.replicate (netSize c.i.toNat c.h.toNat) 0
def firstR (c : Cfg) (id : Int) : Int := rateN c.seed.toNat (40000 + 2 * id.toNat)
def firstM (c : Cfg) (id : Int) : Int := momN c.seed.toNat (40000 + 2 * id.toNat)
def firstS (c : Cfg) (id : Int) : List Int := putL (firstW c id) (firstV c) (firstR c id) (firstM c id) 0

theorem shape_ab {i h : Int} (hs : shapeMay i h = true) : ∃ a b : Nat, i = a ∧ h = b ∧ 1 ≤ a ∧ a ≤ 3 ∧ 1 ≤ b ∧ b ≤ 3 := by
  simp only [shapeMay, Bool.and_eq_true, within_iff] at hs
  exact ⟨i.toNat, h.toNat, by omega, by omega, by omega, by omega, by omega, by omega⟩
theorem size16 {a b : Nat} (ha : a ≤ 3) (hb : b ≤ 3) : netSize a b ≤ 16 := by have := small_size ha hb; unfold netSize; omega
theorem zeros_vec {n : Nat} (hn : n ≤ 16) : vecMay (List.replicate n 0) = true := by
  simp only [vecMay, Bool.and_eq_true, decide_eq_true_eq, List.all_eq_true]
  refine ⟨by simpa using hn, fun b hb => ?_⟩
  have := (List.mem_replicate.1 hb).2
  subst this; rfl

/-- a first checkpoint may be and fits -/
theorem first_fits {c : Cfg} (hc : cfgMay c = true) (id : Int) : memFits c.i c.h (firstW c id) (firstV c) (firstR c id) (firstM c id) 0 = true := by
  obtain ⟨_, hloss, _⟩ := cfgMay_split hc
  obtain ⟨hs, _⟩ := lossMay_split hloss
  obtain ⟨a, b, ha, hb, ha1, ha3, hb1, hb3⟩ := shape_ab hs
  have h16 := size16 ha3 hb3
  have hv := initL_vec (s := c.seed.toNat) (f := 50000 + 16 * id.toNat) h16
  have hl := initL_len a b c.seed.toNat (50000 + 16 * id.toNat)
  have hz := zeros_vec h16
  have hhy := hyper_re c.seed.toNat (40000 + 2 * id.toNat)
  have hpos : 0 < netSize a b := by unfold netSize; omega
  have hcast := size_cast a b
  have hs' : shapeMay (a : Int) (b : Int) = true := by rw [← ha, ← hb]; exact hs
  unfold memFits chkMay firstW firstV firstR firstM
  rw [ha, hb] at *
  simp only [Int.toNat_natCast]
  simp only [alike, List.all_cons, List.all_nil, hv, hl, hz, hhy, hs', fits, List.length_replicate, hpos]
  simp only [hcast, beq_self_eq_true]
  simp
end Go.Proofs.Ytekifjeckbndiaa.VM

/- Layer 14: the program's bytes of a number. -/
namespace Go.Proofs.Ytekifjeckbndiaa.VM
open Go
set_option linter.unusedVariables false
set_option linter.unusedSimpArgs false
attribute [local irreducible] wq wqL wqD wqE wqO Th Bk EndR
set_option maxHeartbeats 8000000

theorem fdiv_step (x : Int) (j : Nat) (h : 8 * j + 8 ≤ 64) : (x.fdiv (2 ^ min (8 * j) IntKind.i64.bits)).fdiv (2 ^ (min ((8 : Int).toNat) IntKind.i64.bits)) = x.fdiv (2 ^ min (8 * (j + 1)) IntKind.i64.bits) := by
  have e1 : min (8 * j) IntKind.i64.bits = 8 * j := by simp [IntKind.bits]; omega
  have e2 : min ((8 : Int).toNat) IntKind.i64.bits = 8 := by decide
  have e3 : min (8 * (j + 1)) IntKind.i64.bits = 8 * j + 8 := by simp [IntKind.bits]; omega
  rw [e1, e2, e3]
  have p1 : (0 : Int) ≤ 2 ^ (8 * j) := Int.pow_nonneg (by decide)
  have p2 : (0 : Int) ≤ 2 ^ 8 := by decide
  rw [Int.fdiv_eq_ediv_of_nonneg _ p1, Int.fdiv_eq_ediv_of_nonneg _ p2, Int.fdiv_eq_ediv_of_nonneg _ (Int.pow_nonneg (by decide)), Int.ediv_ediv_of_nonneg p1, Int.pow_add]
theorem lowL_snoc (x : Int) (k : Nat) : lowL x k ++ [lowK x k] = lowL x (k + 1) := by unfold lowL; rw [List.range_succ, List.map_append]; rfl

/-- four bytes behind the others -/
theorem put_ (B H : Heap) (L : List Res) (f : Res → List Res) (v : V) (bs : List Int) (x : Int) (hM : Mem B H L) (hh : Has L (.own 1 byteC v bs) f) (hl : bs.length ≤ 1000) :
    ∃ w H', Call Try.prog 89 [v, .int .i64 x] H w H' ∧ Mem B H' (f (.own 1 byteC w (bs ++ lowL x 4))) := by
  refine call_turn fit mixed hM Try.func89 rfl rfl rfl (by kernel_rfl) fun _ => ?_
  refine goM ?_
  refine wq_loop (fun m ρ hp => ∃ (j : Nat) (u : V) (L' : List Res), j ≤ 4 ∧ m = 4 - j ∧ Mem B hp L' ∧ Has L' (.own 1 byteC u (bs ++ lowL x j)) f ∧ ρ 0 = u ∧ ρ 1 = .int .i64 (x.fdiv (2 ^ min (8 * j) IntKind.i64.bits)) ∧ ρ 5 = .int .i64 (j : Int)) ⟨0, v, L, Nat.zero_le _, rfl, hM, by simpa [lowL] using hh, rfl, ?_, rfl⟩ ?_
  · show V.int .i64 x = _
    congr 1
    simp [Int.fdiv_one]
  clear hM hh
  rintro _ ρ hp ⟨j, u, L', hj, rfl, hM, hh, h0, h1, h5⟩
  refine goM ?_
  refine cond_go (fun hb => ?_) (fun hb => ?_)
  · have h4 : ((j : Int) < 4) := by simpa using hb
    have hj' : j < 4 := by omega
    clear hb h4
    have hst := fdiv_step x j (by omega)
    have hwj := wrap_succ (n := j) (by omega)
    have hbl : (bs ++ lowL x j).length = bs.length + j := by rw [List.length_append, lowL_len]
    have hlk : IntKind.u8.wrap (x.fdiv (2 ^ min (8 * j) IntKind.i64.bits)) = lowK x j := rfl
    obtain ⟨s, hs⟩ : ∃ s, x.fdiv (2 ^ min (8 * j) IntKind.i64.bits) = s := ⟨_, rfl⟩
    rw [hs] at hst h1 hlk
    have hsh : vbin T .shr 3 (.int .i64 s) (.int .u64 8) = some (.int .i64 (x.fdiv (2 ^ min (8 * (j + 1)) IntKind.i64.bits))) := by
      simp only [vbin, shiftBin]
      rw [if_neg (by decide), hst]
    clear hst hs
    refine goM ?_
    refine l_sliceM byteC [lowK x j] [.int .u8 (lowK x j)] T84 rfl T5 rfl (Cells.one (sz := 1) rfl rfl) (by decide) fun e1 H1 hM => ?_
    refine goM ?_
    refine l_appM (hM.sl .here) (xs := bs ++ lowL x j) (hh := .there hh) (hb := by rw [hbl]; simp only [List.length_cons, List.length_nil]; omega) fun u2 H2 hM => ?_
    replace hM := hM.drop
    rw [List.append_assoc, lowL_snoc] at hM
    repeat (first | (refine l_pl ?_; refine l_step (s_bin eLk eLk hsh) ?_) | (refine l_pl ?_; refine l_goM ?_) | (refine d_pl ?_; refine d_goM ?_) | (refine l_gd ?_; first | refine l_onG ?_ | refine l_offG ?_ | refine l_offU ?_) | (refine d_gd ?_; first | refine d_onG ?_ | refine d_offG ?_ | refine d_offU ?_) | (refine cond_pl ?_; first | refine cond_yes ?_ | refine cond_no ?_) | refine wq_seq ?_ | refine wq_line ?_ | refine wq_draw (by decide +kernel) ?_ | refine wq_block ?_ | refine l_nil ?_ | refine d_nil ?_ | refine wq_skip ?_ | refine wq_ret ?_ | refine wq_exit ?_ | refine th_normal ?_ | refine th_ret ?_ | refine th_exit ?_ | refine bk_normal ?_ | refine bk_ret ?_ | refine bk_exit ?_ | refine bk_other rfl ?_)
    exact ⟨4 - (j + 1), by omega, j + 1, u2, _, hj', rfl, hM, hh.again _, by simp [put_app, put_none, *]⟩
  · have h4 : ¬ ((j : Int) < 4) := by simpa using hb
    have hj' : j = 4 := by omega
    subst hj'
    clear hb h4
    refine goM ?_
    refine end_1 (by first | exact .inl rfl | exact .inr rfl) ?_
    rw [hh.same]; exact hM
end Go.Proofs.Ytekifjeckbndiaa.VM
