/- Joined texts: StepF, StepG, CtlI, EvG, CtlJ, StepK, StepL, StepM, ModA, StepN, RunP, RunQ. -/
import Derived.Test.YtaofdhgkgklppaaGreatJB3
import Derived.Test.YtaofdhgkgklppaaGreatJB4
import Derived.Test.YtaofdhgkgklppaaGreatJB8
import Derived.Test.YtaofdhgkgklppaaGreatJB9
import Derived.Test.YtaofdhgkgklppaaGreatJB10
import Derived.Test.YtaofdhgkgklppaaGreatJB11
namespace Go.Proofs.YtaofdhgkgklppaaGreat.VM
open Go
set_option linter.unusedVariables false
set_option linter.unusedSimpArgs false
attribute [local irreducible] wq wqL wqD wqE wqO Th Bk EndR
set_option maxHeartbeats 8000000
theorem val_at {ys : List MR} {ms : List (Chk × Int)} (hv : ys.map MR.val = ms) {j : Nat} {m : Chk × Int} (hm : ms[j]? = some m) : ∃ y, ys[j]? = some y ∧ y.val = m := by
 rw [← hv, List.getElem?_map] at hm
 cases hy : ys[j]? with
 | none => rw [hy] at hm; cases hm
 | some y => rw [hy] at hm; exact ⟨y, rfl, Option.some.inj hm⟩
def s1_ (s : St) (p : Nat) : St := ⟨s.c, ms1 s p, es1 s p, s.st⟩
theorem ms1_set (s : St) (p : Nat) (x : Chk × Int) : (ms1 s p).set p x = s.ms.set p x := by unfold ms1; rw [List.set_set]
theorem s1_fit {s : St} {p : Nat} {o : Chk × Int} (h : Picks s p o) (hf : s.Fit) : (s1_ s p).Fit := by
 have h1 := hf.ms
 have h2 := hf.es
 have h3 := h.room
 refine ⟨hf.c, by show (ms1 s p).length * 80 ≤ _; unfold ms1; rw [List.length_set]; exact h1, fun m hm => kFits_fit (ms1_fits h.ok h.at_ h.t hm), ?_, hf.st⟩
 show (es1 s p).length * 48 ≤ _
 unfold es1
 rw [List.length_append, List.length_singleton]; omega
theorem at_le {p : Nat} {t : Int} (hp : p < 8) (ht : 0 ≤ t ∧ t ≤ 32) : atN p t ≤ 130000 ∧ IntKind.i64.wrap (4096 * (p : Int)) = 4096 * (p : Int) ∧ IntKind.i64.wrap (100000 + 4096 * (p : Int)) = 100000 + 4096 * (p : Int) ∧ IntKind.i64.wrap (8 * t) = 8 * t ∧ IntKind.i64.wrap (100000 + 4096 * (p : Int) + 8 * t) = ((atN p t : Nat) : Int) := by
 unfold atN
 refine ⟨by omega, wrap_i64 (by omega) (by omega), wrap_i64 (by omega) (by omega), wrap_i64 (by omega) (by omega), ?_⟩
 rw [wrap_i64 (by omega) (by omega)]; omega
theorem exploit_ {B H : Heap} {L : List Res} {bt : Nat} {u mv ev sv : V} {rvs : List (V × Int)} {ys : List MR} {s : St} {p cb co : Nat} {o : Chk × Int} (pk : Picks s p o) (hM : Mem B H (spM bt u mv ev sv rvs ys s.c (es1 s p) s.st p cb co L)) (hv : ys.map MR.val = ms1 s p) (hlk : Like rvs s.c.rows) (hf : s.Fit)
  (hi : idxV T 29 mv (p : Int) = some (.ptr cb co)) (ht : (doTrain s p).t.tmod s.c.interval = 0) :
  ∃ w H', Call Tryz.prog 64 [.ptr bt 0] H w H' ∧ w = .tup [] ∧ ∃ ev' ys', ys'.map MR.val = s.ms.set p (chk2 s p, (msAt s.ms p).2) ∧ Mem B H' (spM bt u mv ev' sv rvs ys' s.c (es2 s p) s.st p cb co L) := by
 have hc := pk.ok.c
 obtain ⟨⟨hm2, hm8⟩, _, ⟨hs0, hs1⟩, ⟨hT1, hT2⟩, _⟩ := cfgMay_split hc
 have hsn : ((s.c.seed.toNat : Nat) : Int) = s.c.seed := Int.toNat_of_nonneg hs0
 have hp := (List.getElem?_eq_some_iff.1 pk.at_).1
 have hlen := pk.ok.len
 obtain ⟨tr1, tr2, tr3, tr4, _⟩ := trained pk.ok pk.at_ pk.t
 obtain ⟨hk, w1, w2, w3, w4⟩ := at_le (p := p) (t := (doTrain s p).t) (by omega) (by omega)
 clear tr1 tr2 tr3 tr4
 have hpm : (ms1 s p)[p]? = some (doTrain s p, (msAt s.ms p).2) := by rw [ms1_at hp, if_pos rfl]
 obtain ⟨y, hy, hyv⟩ := val_at hv hpm
 have hml : p < ys.length := (List.getElem?_eq_some_iff.1 hy).1
 have hel : (es1 s p).length ≤ 1024 := by have := pk.room; unfold es1; rw [List.length_append, List.length_singleton]; omega
 have hc1 : Call Tryz.prog 138 [.int .i64 s.c.seed, .int .i64 ((atN p (doTrain s p).t : Nat) : Int)] H (.tup [.int .i64 (drawN s.c.seed.toNat (atN p (doTrain s p).t) : Nat), .int .i64 0]) H := by
  have := drawOf_good H s.c.seed.toNat (atN p (doTrain s p).t) (by unfold drawMay; rw [within_iff.2 (by omega), within_iff.2 (by omega)]; rfl)
  rw [hsn] at this
  exact this
 have hat : StAt H u mv ev sv ys (s1_ s p) := ⟨rows_pack (hM.fact (F := pack (rowsR u rvs s.c.rows)) (by (repeat (first | exact Has.here | apply Has.there)))) hlk, hM.sl (v := mv) (xs := ys) (by (repeat (first | exact Has.here | apply Has.there))), hv, mems_at (hM.fact (F := pack (mems ys)) (by (repeat (first | exact Has.here | apply Has.there)))), hM.sl (v := ev) (xs := es1 s p) (by (repeat (first | exact Has.here | apply Has.there))), hM.sl (v := sv) (xs := s.st) (by (repeat (first | exact Has.here | apply Has.there)))⟩
 obtain ⟨sc, H1, hc2, m1⟩ := all_ H bt (s1_ s p) u mv ev sv ys (hM.ldA (b := bt) (cs := spC s.c u mv ev sv p cb co) .here T26 rfl (by show 0 + 9 ≤ 14; decide) rfl) (hM.ld (b := bt) (cs := spC s.c u mv ev sv p cb co) .here T29 rfl rfl) hat (s1_fit pk hf)
 have hsl : (scoreL (s1_ s p)).length ≤ 2 ^ 47 := by
  unfold scoreL s1_ ms1
  rw [List.length_map, List.length_set]
  have := hf.ms
  omega
 have hc3 := donor_ H1 sc (scoreL (s1_ s p)) p s.c.cutn (drawN s.c.seed.toNat (atN p (doTrain s p).t)) (m1.sl .here) hsl
 have hdd : donorR (scoreL (s1_ s p)) (p : Int) s.c.cutn (drawN s.c.seed.toNat (atN p (doTrain s p).t) : Nat) = donor1 s p := rfl
 rw [hdd] at hc3
 clear hdd hsl hat
 obtain ⟨l0, l2, l4, l5⟩ := mr_in (hM.sl (v := mv) (xs := ys) (by (repeat (first | exact Has.here | apply Has.there)))) hi hy
 have hyk : y.k = doTrain s p := congrArg Prod.fst hyv
 have hyh : y.h = (msAt s.ms p).2 := congrArg Prod.snd hyv
 rw [hyk] at l4
 have hkx := fun d (z : MR) (hz : ys[d]? = some z) => mems_at (hM.fact (F := pack (mems ys)) (by (repeat (first | exact Has.here | apply Has.there)))) z (List.mem_of_getElem? hz)
 have sc1 := (m1.sl .here).cells
 cases hd : (donor1 s p).2.1 with
 | false =>
  have htk : takes s p = false := by unfold takes; rw [hd, Bool.and_false]
  have e1 : chk2 s p = doTrain s p := by unfold chk2; rw [htk, if_neg (by decide)]
  have e2 : es2 s p = es1 s p := by unfold es2; rw [htk, if_neg (by decide)]
  rw [hd] at hc3
  rw [e1, e2]
  rw [show s.ms.set p (doTrain s p, (msAt s.ms p).2) = ms1 s p from rfl]
  generalize atN p (doTrain s p).t = kk at *
  generalize drawN s.c.seed.toNat kk = dd at *
  generalize (donor1 s p).1 = d1 at *
  generalize (donor1 s p).2.2 = d3 at *
  generalize (doTrain s p).t = tt at *
  clear hkx e1 e2 htk hd
  refine call_turn fit mixed hM Tryz.func64 rfl rfl rfl (by kernel_rfl) fun _ => ?_
  refine goM ?_
  refine l_callG hc1 ?_
  refine goM ?_
  refine d_callG hc2 (.inl m1.pre) ?_
  replace hM := hM.call1 m1
  refine goM ?_
  refine d_callG hc3 (.inl (List.prefix_refl _)) ?_
  refine goM ?_
  exact end_ret (by simp only [resRf, resRs, resR]; first | done | rfl) ⟨rfl, ev, ys, hv, hM.subG⟩
 | true =>
  have htk : takes s p = true := by unfold takes; rw [hd, decide_eq_true ht]; rfl
  obtain ⟨d, hdn, hds, hdp, hdm⟩ := donor_at hp htk
  have hdm1 : (ms1 s p)[d]? = some (msAt (ms1 s p) d) := by rw [ms1_at hp, if_neg hdp]; exact hdm
  obtain ⟨z, hz, hzv⟩ := val_at hv hdm1
  have hzk : z.k = dChk s p := by unfold dChk; rw [hdn, Int.toNat_natCast]; exact congrArg Prod.fst hzv
  have hzf : kFits s.c z.k = true := by rw [show z.k = (msAt (ms1 s p) d).1 from congrArg Prod.fst hzv]; exact ms1_fits pk.ok pk.at_ pk.t (List.mem_of_getElem? hdm1)
  have hka := hkx d z hz
  have hzc : Chk.Fit z.k := kFits_fit hzf
  have hzy : hyperMay z.k.r z.k.m = true := by
   unfold kFits memFits at hzf
   rw [Bool.and_eq_true] at hzf
   exact (chkMay_split hzf.1).2.2.2.2.1
  have e2 : es2 s p = (es1 s p ++ [⟨1, p, d, (manyOf (es1 s p) d : Nat), 0, 0⟩]) ++ [⟨2, p, 0, 0, (hyp2 s p).1, (hyp2 s p).2⟩] := by
   unfold es2; rw [htk, if_pos rfl, hdn, List.append_assoc]; rfl
  have e1 : chk2 s p = ⟨z.k.ws, z.k.vs, (hyp2 s p).1, (hyp2 s p).2, (doTrain s p).t⟩ := by
   unfold chk2; rw [htk, if_pos rfl, hzk]
  have e3 : hyp2 s p = triedR s.c z.k.r z.k.m (atN p (doTrain s p).t) := by unfold hyp2; rw [hzk]
  rw [hd, hdn] at hc3
  rw [e1, e2, e3]
  obtain ⟨bz, oz, hiz, _, lz, _⟩ := mr_at ((hM.call1 m1).sl (v := mv) (xs := ys) (by (repeat (first | exact Has.here | apply Has.there)))) hz
  obtain ⟨zw, zv, zk, zh⟩ := z
  simp only at hka hzf hzc hzy lz
  have t3 := hka.ws.cells
  have t4 := hka.vs.cells
  obtain ⟨_, H2, hc4, a, b, rfl, m2⟩ := checkCopy_ H1 zw zv zk (hka.mono m1.pre) hzc
  have s3 := (m2.sl .here).cells
  have s4 := (m2.sl (.there .here)).cells
  generalize hkk : atN p (doTrain s p).t = kk at *
  generalize drawN s.c.seed.toNat kk = dd at *
  generalize (donor1 s p).2.2 = d3 at *
  have hcm := many H2
  obtain ⟨yw, yv, yk, yh⟩ := y
  simp only at hyk hyh l0 l2 l5
  subst hyk
  subst hyh
  generalize hes : es1 s p = es at *
  generalize hmt : (doTrain s p).t = tt at *
  clear e1 e2 e3 hkx hdm hdm1 hd hdn hzk
  refine call_turn fit mixed hM Tryz.func64 rfl rfl rfl (by kernel_rfl) fun _ => ?_
  refine goM ?_
  refine l_callG hc1 ?_
  refine goM ?_
  refine d_callG hc2 (.inl m1.pre) ?_
  replace hM := hM.call1 m1
  refine goM ?_
  refine d_callG hc3 (.inl (List.prefix_refl _)) ?_
  refine goM ?_
  refine l_callG hc4 ?_
  replace hM := hM.call2 m2
  clear hc1 hc2 hc3 hc4 m1 m2 l0 l2 l4 l5 lz hka
  refine goM ?_
  refine l_newM (cs := zeroChk) T45 rfl fun b5 H2 hM => ?_
  refine l_putM T45 fun H3 hM => ?_
  obtain ⟨H4, st4, hM4⟩ := mr_put hM (u := mv) (ys := ys) (by (repeat (first | exact Has.here | apply Has.there))) hy hi 0 T27 (by decide) (w := a) (y' := ⟨a, yv, doTrain s p, (msAt s.ms p).2⟩) s4.2 (by rw [s4.1]; rfl) (by rw [s4.1]; rfl)
  have hy4 : (ys.set p ⟨a, yv, doTrain s p, (msAt s.ms p).2⟩)[p]? = some ⟨a, yv, doTrain s p, (msAt s.ms p).2⟩ := List.getElem?_set_self hml
  obtain ⟨H5, st5, hM5⟩ := mr_put hM4 (u := mv) (by (repeat (first | exact Has.here | apply Has.there))) hy4 hi 1 T27 (by decide) (w := b) (y' := ⟨a, b, doTrain s p, (msAt s.ms p).2⟩) s3.2 (by rw [s3.1]; rfl) (by rw [s3.1]; rfl)
  rw [List.set_set] at hM5
  have hy5 : (ys.set p ⟨a, b, doTrain s p, (msAt s.ms p).2⟩)[p]? = some ⟨a, b, doTrain s p, (msAt s.ms p).2⟩ := List.getElem?_set_self hml
  obtain ⟨H6, st6, hM6⟩ := mr_put hM5 (u := mv) (by (repeat (first | exact Has.here | apply Has.there))) hy5 hi 2 T43 (by decide) (w := .agg [.int .i64 zk.r, .int .i64 zk.m]) (y' := ⟨a, b, ⟨zk.ws, zk.vs, zk.r, zk.m, (doTrain s p).t⟩, (msAt s.ms p).2⟩) rfl rfl rfl
  rw [List.set_set] at hM6
  have hM6' := hM6
  rw [hmt] at hM6
  have hy6 : (ys.set p ⟨a, b, ⟨zk.ws, zk.vs, zk.r, zk.m, tt⟩, (msAt s.ms p).2⟩)[p]? = some ⟨a, b, ⟨zk.ws, zk.vs, zk.r, zk.m, tt⟩, (msAt s.ms p).2⟩ := List.getElem?_set_self hml
  have h6 := ((hM6.front (r := .ro (pack (mems ys))) (by (repeat (first | exact Take.here | apply Take.there)))).front (r := .own 1 intC b zk.vs) (by (repeat (first | exact Take.here | apply Take.there)))).front (r := .own 1 intC a zk.ws) (by (repeat (first | exact Take.here | apply Take.there)))
  have h7 := h6.newMr (y := ⟨a, b, ⟨zk.ws, zk.vs, zk.r, zk.m, tt⟩, (msAt s.ms p).2⟩) hml
  have h8 := ((h7.front (r := .own 3 entC sv s.st) (by (repeat (first | exact Take.here | apply Take.there)))).front (r := .own 6 evC ev es) (by (repeat (first | exact Take.here | apply Take.there)))).front (r := .own 6 mrC mv (ys.set p ⟨a, b, ⟨zk.ws, zk.vs, zk.r, zk.m, tt⟩, (msAt s.ms p).2⟩)) (by (repeat (first | exact Take.here | apply Take.there)))
  have h9 : Mem B H6 (spM bt u mv ev sv rvs (ys.set p ⟨a, b, ⟨zk.ws, zk.vs, zk.r, zk.m, tt⟩, (msAt s.ms p).2⟩) s.c es s.st p cb co L) := (h8.front (r := .box bt (spC s.c u mv ev sv p cb co)) (by (repeat (first | exact Take.here | apply Take.there)))).sub (by (repeat (first | exact List.Sublist.slnil | exact List.Sublist.refl _ | refine List.Sublist.cons_cons _ ?_ | refine List.Sublist.cons _ ?_)))
  have hcm := many H6 ev es (d : Int) (h9.sl (v := ev) (xs := es) (by (repeat (first | exact Has.here | apply Has.there)))) (by omega)
  obtain ⟨_, H7, c6, rfl, ev1, hM7⟩ := tell_ ⟨1, 0, d, (manyOf es d : Nat), 0, 0⟩ h9 (by omega)
  obtain ⟨_, H8, c7, rfl, ev2, hM8⟩ := explore_ kk hM7 hy6 hi hc hzy (by omega) (by rw [List.length_append, List.length_singleton]; omega)
  have und : V.under H3.length b = true := (hM.sl (.there .here)).under
  rw [Nat.add_zero] at st4
  clear h6 h7 h8 hM6 hy4 hy5 hy6
  refine goM ?_
  refine wq_late ?_
  have np := no_pend (T := T) H3
  repeat (first | (refine e_pl ?_; refine e_goM ?_) | refine e_nil ?_)
  refine e_lateG np und ?_
  clear np
  refine e_np (one_pend (pend_box (off := 1) hM .here T27 rfl rfl)) fun np => ?_
  repeat (first | (refine e_pl ?_; refine e_goM ?_) | refine e_nil ?_)
  refine e_lateG np (v := .agg [.int .i64 zk.r, .int .i64 zk.m]) rfl ?_
  clear np
  refine e_np (two_pend (pend_boxS (off := 2) hM .here T43 rfl rfl rfl) (pend_box (off := 1) hM .here T27 rfl rfl)) fun np => ?_
  repeat (first | (refine e_pl ?_; refine e_goM ?_) | refine e_nil ?_)
  refine e_stM st4 ⟨two_pend (pend_boxS (off := 2) hM4 .here T43 rfl rfl rfl) (pend_box (off := 1) hM4 .here T27 rfl rfl), ?_⟩
  clear np
  refine e_np (two_pend (pend_boxS (off := 2) hM4 .here T43 rfl rfl rfl) (pend_box (off := 1) hM4 .here T27 rfl rfl)) fun np => ?_
  repeat (first | (refine e_pl ?_; refine e_goM ?_) | refine e_nil ?_)
  refine e_stM st5 ⟨two_pend (pend_boxS (off := 2) hM5 .here T43 rfl rfl rfl) (pend_box (off := 1) hM5 .here T27 rfl rfl), ?_⟩
  clear np
  refine e_np (two_pend (pend_boxS (off := 2) hM5 .here T43 rfl rfl rfl) (pend_box (off := 1) hM5 .here T27 rfl rfl)) fun np => ?_
  repeat (first | (refine e_pl ?_; refine e_goM ?_) | refine e_nil ?_)
  refine e_stM st6 ⟨two_pend (pend_boxS (off := 2) hM6' .here T43 rfl rfl rfl) (pend_box (off := 1) hM6' .here T27 rfl rfl), ?_⟩
  clear np
  refine e_np (two_pend (pend_boxS (off := 2) hM6' .here T43 rfl rfl rfl) (pend_box (off := 1) hM6' .here T27 rfl rfl)) fun np => ?_
  repeat (first | (refine e_pl ?_; refine e_goM ?_) | refine e_nil ?_)
  clear np hM hM4 hM5 hM6'
  have hM := h9
  refine goM ?_
  refine l_callG hcm ?_
  refine goM ?_
  refine l_callG c6 ?_
  refine goM ?_
  refine l_callG c7 ?_
  refine goM ?_
  refine end_normal (by simp only [resRf, resRs, resR]; first | done | rfl) ⟨rfl, ev2, _, ?_, hM8⟩
  rw [List.map_set, List.map_set, hv, List.set_set, ms1_set]
  rfl
theorem finish_ {B H : Heap} {L : List Res} {bt : Nat} {u mv ev sv : V} {rvs : List (V × Int)} {ys : List MR} {s : St} {p cb co : Nat} {o : Chk × Int} (pk : Picks s p o) (hM : Mem B H (spM bt u mv ev sv rvs ys s.c (es2 s p) s.st p cb co L)) (hv : ys.map MR.val = s.ms.set p (chk2 s p, (msAt s.ms p).2))
  (hi : idxV T 29 mv (p : Int) = some (.ptr cb co)) :
  ∃ w H', Call Tryz.prog 65 [.ptr bt 0] H w H' ∧ w = .tup [] ∧ ∃ sv' ys', ys'.map MR.val = (doS s p).ms ∧ Mem B H' (spM bt u mv ev sv' rvs ys' s.c (es2 s p) (st2 s p) p cb co L) := by
 have hp := (List.getElem?_eq_some_iff.1 pk.at_).1
 obtain ⟨y, hy, hyv⟩ := val_at hv (List.getElem?_set_self hp)
 have hyk : y.k = chk2 s p := congrArg Prod.fst hyv
 have hyh : y.h = (msAt s.ms p).2 := congrArg Prod.snd hyv
 have hst := pk.ok.st.len
 obtain ⟨w, H', hc, hw, sv', hM'⟩ := keep_ hM hy hi (by rw [hyk]; exact chk2_fits pk.ok pk.at_ pk.t) (by omega)
 rw [hyk, hyh] at hM'
 refine ⟨w, H', hc, hw, sv', _, ?_, hM'⟩
 rw [List.map_set, hv, List.set_set]
 show s.ms.set p (y.k, (put2 s.st (textK y.k)).2.1) = s.ms.set p (chk2 s p, head2 s p)
 rw [hyk]; rfl
theorem stepDo_ (H : Heap) (s : St) (rv mv ev sv : V) (xs : List MR) (ha : StAt H rv mv ev sv xs s) (hf : s.Fit) (pick : Int) :
  ∃ w H', Call Tryz.prog 21 [.agg (stC s.c rv mv ev sv), .int .i64 pick] H w H' ∧ AnsS H (doR s pick) w H' := by
 obtain ⟨z1, z2, z3, z4⟩ := ha.celled
 have hle := ha.es.len T30 rfl
 have hel := hf.es
 refine call_mem fit mixed Tryz.func21 rfl rfl rfl (by kernel_rfl) fun hM => ?_
 refine wq_seq (wq_line ?_)
 refine l_boxM T33 fun b1 H1 hM => ?_
 refine l_newM (cs := zeroSt) T33 rfl fun b2 H2 hM => ?_
 have c1 := controlMay_ H2 s rv mv ev sv xs (ha.mono hM.pre) hf
 have c2 := confId_ H2 b1 s.c.m pick (by have hrow := hM.row (.there .here); unfold Heap.loadN; rw [hrow]; rfl)
 have we : IntKind.i64.wrap ((s.es.length : Int) + 4) = (s.es.length : Int) + 4 := wrap_i64 (by omega) (by omega)
 have bad : ∀ H3, Mem H H3 [.box b2 zeroSt, .box b1 (stC s.c rv mv ev sv)] → ∀ e, doR s pick = (noSt, e) → AnsS H (doR s pick) (.tup [.agg zeroSt, .int .i64 e]) H3 := fun H3 hM e he => by
  rw [he]
  exact ⟨⟨.nils, .nils, .nils, .nils, [], []⟩, rfl, no_ok, (no_own H3).low' hM.pre⟩
 by_cases hok : doOk s pick = true
 ·obtain ⟨hst, hroom, p, o, rfl, ho⟩ := doOk_split hok
  unfold doOk at hok
  simp only [Bool.and_eq_true] at hok
  rw [hok.1.1] at c1
  rw [hok.1.2] at c2
  have he : decide ((s.es.length : Int) + 4 > 1024) = false := decide_eq_false (by omega)
  obtain ⟨x, hx, hxv⟩ := val_at ha.val ho
  have hxk : x.k = o.1 := congrArg Prod.fst hxv
  obtain ⟨bo, oo, hio, _, _, _⟩ := mr_at (ha.ms.mono hM.pre) hx
  obtain ⟨_, _, l4, _⟩ := mr_in (ha.ms.mono hM.pre) hio hx
  by_cases ht : o.1.t = s.c.total
  ·have hr := is_done hst ho ht hroom
   have hq : (x.k.t == s.c.total) = true := by rw [hxk, ht]; simp
   have hend := fun H3 h3 => bad H3 h3 2301 hr
   clear bad hok hst ha ho hx hxv hxk hr
   refine goM ?_
   refine l_callG c1 ?_
   refine goM ?_
   refine l_callG c2 ?_
   refine goM ?_
   refine l_putM T33 fun H3 hM => ?_
   refine goM ?_
   exact end_2 (by first | exact .inl rfl | exact .inr rfl) (hend _ hM)
  ·have pk : Picks s p o := ⟨hst, ho, ht, hroom⟩
   have hq : (x.k.t == s.c.total) = false := by rw [hxk]; simpa using ht
   have hsl := hst.st.len
   obtain ⟨_, H3, c3, u, mv1, ev1, sv1, rvs, ys, rfl, hlk, hval, m1⟩ := controlCopy_ H2 s rv mv ev sv xs (ha.mono hM.pre) hf (by omega)
   have hat := st_at (L := []) (by simpa using m1) hlk hval
   obtain ⟨q1, q2, q3, q4⟩ := hat.celled
   obtain ⟨y, hy, hyv⟩ := val_at hval ho
   obtain ⟨cb, co, hi, _⟩ := mr_at hat.ms hy
   have hc := hst.c
   obtain ⟨⟨hm2, hm8⟩, _, _, ⟨hT1, hT2⟩, hI1, hI2⟩ := cfgMay_split hc
   have hp := (List.getElem?_eq_some_iff.1 ho).1
   have hlen := hst.len
   have hi0 : (s.c.interval = 0) = False := eq_false (by omega)
   have hof := hst.fits o (List.mem_of_getElem? ho)
   have htot := hst.tot o (List.mem_of_getElem? ho)
   have hgo : trainR s.c p o.1 = (doTrain s p, 0) := by rw [doTrain_eq ho]; exact trainR_go hc (by omega) hof (by omega)
   clear hok hat bad hxk hxv hx
   refine goM ?_
   refine l_callG c1 ?_
   refine goM ?_
   refine l_callG c2 ?_
   refine goM ?_
   refine l_callG c3 ?_
   replace hM : Mem H H3 (stOwn u mv1 ev1 sv1 rvs ys s ++ _) := hM.call m1
   clear c1 c2 c3 m1 l4 hio
   unfold stOwn at hM
   simp only [List.cons_append, List.nil_append] at hM
   refine goM ?_
   refine l_boxM T112 fun bt H4 hM => ?_
   refine goM ?_
   refine l_putM T110 fun H5 hM => ?_
   have h1 := ((hM.front (r := .ro (pack (rowsR u rvs s.c.rows))) (by (repeat (first | exact Take.here | apply Take.there)))).front (r := .ro (pack (mems ys))) (by (repeat (first | exact Take.here | apply Take.there)))).front (r := .own 3 entC sv1 s.st) (by (repeat (first | exact Take.here | apply Take.there)))
   have h2 := (h1.front (r := .own 6 evC ev1 s.es) (by (repeat (first | exact Take.here | apply Take.there)))).front (r := .own 6 mrC mv1 ys) (by (repeat (first | exact Take.here | apply Take.there)))
   replace hM : Mem H H5 (spM bt u mv1 ev1 sv1 rvs ys s.c s.es s.st p cb co [.box b2 zeroSt]) := (h2.front (r := .box bt (spC s.c u mv1 ev1 sv1 p cb co)) (by (repeat (first | exact Take.here | apply Take.there)))).sub (by (repeat (first | exact List.Sublist.slnil | exact List.Sublist.refl _ | refine List.Sublist.cons_cons _ ?_ | refine List.Sublist.cons _ ?_)))
   clear h1 h2
   obtain ⟨l0, _, _, _⟩ := mr_in (hM.sl (v := mv1) (xs := ys) (by (repeat (first | exact Has.here | apply Has.there)))) hi hy
   have hka := mems_at (hM.fact (F := pack (mems ys)) (by (repeat (first | exact Has.here | apply Has.there)))) y (List.mem_of_getElem? hy)
   have hyk : y.k = o.1 := congrArg Prod.fst hyv
   have hyh : y.h = o.2 := congrArg Prod.snd hyv
   have hms : (msAt s.ms p).2 = o.2 := by rw [msAt_some ho]
   have hml : p < ys.length := (List.getElem?_eq_some_iff.1 hy).1
   obtain ⟨yw, yv, yk, yh⟩ := y
   simp only at hyk hyh l0 hka
   subst hyk
   subst hyh
   have t1 := hka.ws.cells
   have t2 := hka.vs.cells
   obtain ⟨a, b, H6, c4, m2⟩ := one_ H5 s.c u yw yv p o.1 (rows_pack (hM.fact (F := pack (rowsR u rvs s.c.rows)) (by (repeat (first | exact Has.here | apply Has.there)))) hlk) hka hf.c (kFits_fit hof)
   rw [hgo] at c4 m2
   simp only at c4 m2
   have t3 := (m2.sl .here).cells
   have t4 := (m2.sl (.there .here)).cells
   refine goM ?_
   refine d_callG c4 (.inl m2.pre) ?_
   replace hM := hM.call2 m2
   clear c4 m2 l0 hka
   refine goM ?_
   obtain ⟨H7, st7, hM7⟩ := mr_put hM (u := mv1) (ys := ys) (by (repeat (first | exact Has.here | apply Has.there))) hy hi 0 T45 (by decide) (w := .agg (kC a b (doTrain s p))) (y' := ⟨a, b, doTrain s p, o.2⟩) rfl rfl rfl
   rw [Nat.add_zero] at st7
   refine d_stM st7 ?_
   clear st7 hM
   have h6 := ((hM7.front (r := .ro (pack (mems ys))) (by (repeat (first | exact Take.here | apply Take.there)))).front (r := .own 1 intC b (doTrain s p).vs) (by (repeat (first | exact Take.here | apply Take.there)))).front (r := .own 1 intC a (doTrain s p).ws) (by (repeat (first | exact Take.here | apply Take.there)))
   have h7 := h6.newMr (y := ⟨a, b, doTrain s p, o.2⟩) hml
   have h8 := ((h7.front (r := .own 3 entC sv1 s.st) (by (repeat (first | exact Take.here | apply Take.there)))).front (r := .own 6 evC ev1 s.es) (by (repeat (first | exact Take.here | apply Take.there)))).front (r := .own 6 mrC mv1 (ys.set p ⟨a, b, doTrain s p, o.2⟩)) (by (repeat (first | exact Take.here | apply Take.there)))
   have hM : Mem H H7 (spM bt u mv1 ev1 sv1 rvs (ys.set p ⟨a, b, doTrain s p, o.2⟩) s.c s.es s.st p cb co [.box b2 zeroSt]) := (h8.front (r := .box bt (spC s.c u mv1 ev1 sv1 p cb co)) (by (repeat (first | exact Take.here | apply Take.there)))).sub (by (repeat (first | exact List.Sublist.slnil | exact List.Sublist.refl _ | refine List.Sublist.cons_cons _ ?_ | refine List.Sublist.cons _ ?_)))
   clear h6 h7 h8 hM7
   have hv1 : (ys.set p ⟨a, b, doTrain s p, o.2⟩).map MR.val = ms1 s p := by
    rw [List.map_set, hval]; unfold ms1; rw [hms]; rfl
   have hy1 : (ys.set p ⟨a, b, doTrain s p, o.2⟩)[p]? = some ⟨a, b, doTrain s p, o.2⟩ := List.getElem?_set_self hml
   generalize ys.set p ⟨a, b, doTrain s p, o.2⟩ = ys1 at *
   obtain ⟨_, H8, c5, rfl, ev2, hM8⟩ := tell_ ⟨0, 0, 0, 0, 0, 0⟩ hM (by omega)
   refine goM ?_
   refine l_callG c5 ?_
   clear c5 hM
   have hM : Mem H H8 (spM bt u mv1 ev2 sv1 rvs ys1 s.c (es1 s p) s.st p cb co [.box b2 zeroSt]) := hM8
   clear hM8
   obtain ⟨_, _, l4, _⟩ := mr_in (hM.sl (v := mv1) (xs := ys1) (by (repeat (first | exact Has.here | apply Has.there)))) hi hy1
   simp only at l4
   have hdone : ∀ {H9 : Heap} {sv3 ev3 : V} {ys3 : List MR}, ys3.map MR.val = (doS s p).ms → Mem H H9 (spM bt u mv1 ev3 sv3 rvs ys3 s.c (es2 s p) (st2 s p) p cb co [.box b2 (stC s.c u mv1 ev3 sv3)]) → AnsS H (doR s (p : Int)) (.tup [.agg (stC s.c u mv1 ev3 sv3), .int .i64 0]) H9 := fun {H9 sv3 ev3 ys3} hv3 hM => by
    rw [doR_of pk]
    have h1 := ((hM.front (r := .own 3 entC sv3 (st2 s p)) (by (repeat (first | exact Take.here | apply Take.there)))).front (r := .own 6 evC ev3 (es2 s p)) (by (repeat (first | exact Take.here | apply Take.there)))).front (r := .own 6 mrC mv1 ys3) (by (repeat (first | exact Take.here | apply Take.there)))
    have h2 := (h1.front (r := .ro (pack (mems ys3))) (by (repeat (first | exact Take.here | apply Take.there)))).front (r := .ro (pack (rowsR u rvs s.c.rows))) (by (repeat (first | exact Take.here | apply Take.there)))
    exact ⟨⟨u, mv1, ev3, sv3, rvs, ys3⟩, rfl, ⟨hlk, hv3⟩, Mem.svN (s := doS s p) (h2.sub (by unfold stOwn; (repeat (first | exact List.Sublist.slnil | exact List.Sublist.refl _ | refine List.Sublist.cons_cons _ ?_ | refine List.Sublist.cons _ ?_))))⟩
   by_cases hrem : (doTrain s p).t.tmod s.c.interval = 0
   ·have hqr : ((doTrain s p).t.tmod s.c.interval == 0) = true := by rw [hrem]; rfl
    obtain ⟨_, H9, c6, rfl, ev3, ys2, hv2, hM9⟩ := exploit_ pk hM hv1 hlk hf hi hrem
    obtain ⟨_, H10, c7, rfl, sv3, ys3, hv3, hM10⟩ := finish_ pk hM9 hv2 hi
    have g3 := (hM10.sl (v := ev3) (xs := es2 s p) (by (repeat (first | exact Has.here | apply Has.there)))).cells
    have g4 := (hM10.sl (v := sv3) (xs := st2 s p) (by (repeat (first | exact Has.here | apply Has.there)))).cells
    generalize (doTrain s p).t = tt at *
    clear hy hy1 hM9 hrem hgo
    refine goM ?_
    refine l_callG c6 ?_
    refine goM ?_
    refine l_callG c7 ?_
    clear c6 c7 hM l4
    have hM := hM10
    clear hM10
    refine goM ?_
    refine l_putM T33 fun H11 hM => ?_
    refine goM ?_
    exact end_2 (by first | exact .inl rfl | exact .inr rfl) (hdone hv3 hM)
   ·have hqr : ((doTrain s p).t.tmod s.c.interval == 0) = false := by simpa using hrem
    have htk : takes s p = false := by unfold takes; rw [decide_eq_false hrem, Bool.false_and]
    have e1 : chk2 s p = doTrain s p := by unfold chk2; rw [htk, if_neg (by decide)]
    have e2 : es2 s p = es1 s p := by unfold es2; rw [htk, if_neg (by decide)]
    obtain ⟨_, H10, c7, rfl, sv3, ys3, hv3, hM10⟩ := finish_ pk (by rw [e2]; exact hM) (by rw [e1]; exact hv1) hi
    have g4 := (hM10.sl (v := sv3) (xs := st2 s p) (by (repeat (first | exact Has.here | apply Has.there)))).cells
    have g3 := (hM10.sl (v := ev2) (xs := es2 s p) (by (repeat (first | exact Has.here | apply Has.there)))).cells
    generalize (doTrain s p).t = tt at *
    clear hy hy1 hrem hgo e1 e2
    refine goM ?_
    refine l_callG c7 ?_
    clear c7 hM l4
    have hM := hM10
    clear hM10
    refine goM ?_
    refine l_putM T33 fun H11 hM => ?_
    refine goM ?_
    exact end_2 (by first | exact .inl rfl | exact .inr rfl) (hdone hv3 hM)
 ·have hr : doR s pick = (noSt, 2300) := by unfold doR; rw [if_neg hok]
  have hend := fun H3 h3 => bad H3 h3 2300 hr
  have hok' : doOk s pick = false := by simpa using hok
  unfold doOk at hok'
  clear bad hr hok
  obtain ⟨q1, e1⟩ : ∃ q, stateMay s = q := ⟨_, rfl⟩
  obtain ⟨q2, e2⟩ : ∃ q, within pick 0 (IntKind.i64.wrap (s.c.m - 1)) = q := ⟨_, rfl⟩
  rw [e1] at c1 hok'
  rw [e2] at c2 hok'
  clear e1 e2 ha
  cases q1 with
  | false =>
   clear hok' we
   refine goM ?_
   refine l_callG c1 ?_
   refine goM ?_
   refine l_putM T33 fun H3 hM => ?_
   refine goM ?_
   exact end_2 (by first | exact .inl rfl | exact .inr rfl) (hend _ hM)
  | true =>
   cases q2 with
   | false =>
    clear hok' we
    refine goM ?_
    refine l_callG c1 ?_
    refine goM ?_
    refine l_callG c2 ?_
    refine goM ?_
    refine l_putM T33 fun H3 hM => ?_
    refine goM ?_
    exact end_2 (by first | exact .inl rfl | exact .inr rfl) (hend _ hM)
   | true =>
    have he : decide ((s.es.length : Int) + 4 > 1024) = true := decide_eq_true (by
     have : ¬ s.es.length + 4 ≤ 1024 := by simpa using hok'
     omega)
    clear hok'
    refine goM ?_
    refine l_callG c1 ?_
    refine goM ?_
    refine l_callG c2 ?_
    refine goM ?_
    refine l_putM T33 fun H3 hM => ?_
    refine goM ?_
    exact end_2 (by first | exact .inl rfl | exact .inr rfl) (hend _ hM)
theorem newR_fit {c : Cfg} (hf : c.Fit) : (newR c).1.Fit := by
 unfold newR
 cases hc : cfgMay c with
 | false =>
  rw [if_neg (by decide)]
  exact ⟨⟨by decide, fun r hr => (by cases hr)⟩, by decide, fun m hm => (by cases hm), by decide, by decide⟩
 | true =>
  obtain ⟨hm2, _⟩ := cfgMay_split hc
  obtain ⟨h1, h2, h3, h4, h5, h6⟩ := (new_ok hc c.m.toNat (by omega)).1
  rw [if_pos rfl]
  refine ⟨hf, ?_, fun m hm => ?_, by show (0 : Nat) * 48 ≤ _; decide, ?_⟩
  ·show (newF c c.m.toNat).1.length * 80 ≤ _
   omega
  ·obtain ⟨j, hj⟩ := List.mem_iff_getElem?.1 (show m ∈ (newF c c.m.toNat).1 from hm)
   rw [h2 j m hj]
   exact kFits_fit (firstK_fits hc _)
  ·show (newF c c.m.toNat).2.length * 32 ≤ _
   omega
theorem rd_event {K : Heap} {D : Type} {vs : List V} {d : DataW D} (h : Rd T K 61 vs d) : ∃ e : Ev, vs = evV e := by
 obtain ⟨hl, hf⟩ := h.field T61 rfl
 replace hl : vs.length = 6 := hl
 obtain ⟨x0, h0⟩ := hf 0 _ _ rfl T3
 obtain ⟨x1, h1⟩ := hf 1 _ _ rfl T3
 obtain ⟨x2, h2⟩ := hf 2 _ _ rfl T3
 obtain ⟨x3, h3⟩ := hf 3 _ _ rfl T3
 obtain ⟨x4, h4⟩ := hf 4 _ _ rfl T43
 obtain ⟨n0, e0, _⟩ := h0.isInt T3 rfl
 obtain ⟨n1, e1, _⟩ := h1.isInt T3 rfl
 obtain ⟨n2, e2, _⟩ := h2.isInt T3 rfl
 obtain ⟨n3, e3, _⟩ := h3.isInt T3 rfl
 obtain ⟨n4, n5, e4⟩ := rd_hyper h4
 match vs, hl, e0, e1, e2, e3, e4 with
 | [a, b, c, e, f, g], _, e0, e1, e2, e3, e4 =>
  simp at e0 e1 e2 e3 e4
  obtain ⟨rfl, rfl⟩ := e4
  subst e0; subst e1; subst e2; subst e3
  exact ⟨⟨n0, n1, n2, n3, n4, n5⟩, rfl⟩
theorem rd_events {K : Heap} {D : Type} {v : V} {d : DataW D} (h : RdV T K 30 v d) : ∃ es : List Ev, Sl 6 evC K v es ∧ es.length * 48 ≤ 140737488351232 :=
 (h.plain T30 rfl).isSlice T30 rfl T61 fun cs x hx => rd_event hx
def rdMemC (K : Heap) (cs : List V) (x : MR) : Prop := cs = mC x.w x.v x.k x.h ∧ KAt K x.w x.v x.k ∧ x.k.Fit
theorem rd_mrcells {K : Heap} {D : Type} {vs : List V} {d : DataW D} (hr : Rd T K 51 vs d) : ∃ x : MR, rdMemC K vs x := by
 obtain ⟨hl, hf⟩ := hr.field T51 rfl
 replace hl : vs.length = 6 := hl
 obtain ⟨x0, h0⟩ := hf 0 _ _ rfl T45
 obtain ⟨x1, h1⟩ := hf 1 _ _ rfl T3
 obtain ⟨n1, e1, _⟩ := h1.isInt T3 rfl
 obtain ⟨w, u, k, e0, hk, hf'⟩ := rd_checkcells h0
 match vs, hl, e0, e1 with
 | [a, b, c, e, f, g], _, e0, e1 =>
  simp at e0 e1
  obtain ⟨rfl, rfl, rfl, rfl, rfl⟩ := e0
  subst e1
  exact ⟨⟨a, b, k, n1⟩, rfl, hk, hf'⟩
theorem rd_members {K : Heap} {D : Type} {v : V} {d : DataW D} (h : RdV T K 29 v d) : ∃ xs : List MR, Sl 6 mrC K v xs ∧ xs.length * 80 ≤ 140737488351232 ∧ ∀ x ∈ xs, KAt K x.w x.v x.k ∧ x.k.Fit := by
 obtain ⟨xs, h1, h2⟩ := (h.plain T29 rfl).isSlice (R := rdMemC K) T29 rfl T51 fun cs x hx => rd_mrcells hx
 have h3 := h1.all (Q := fun p => KAt K p.w p.v p.k ∧ p.k.Fit) fun cs x hx => hx.2
 have h4 := h1.map (R' := mrC) (fun p => p) fun cs x hx => (show mrC cs x from hx.1)
 rw [List.map_id'] at h4
 exact ⟨xs, h4, Nat.le_trans h2 (by decide), h3⟩
theorem rd_state {K : Heap} {D : Type} {v : V} {d : DataW D} (h : RdV T K 33 v d) : ∃ s rv mv ev sv xs, v = .agg (stC s.c rv mv ev sv) ∧ StAt K rv mv ev sv xs s ∧ s.Fit := by
 obtain ⟨vs, rfl, hr⟩ := h.agg T33 rfl
 obtain ⟨hl, hf⟩ := hr.field T33 rfl
 replace hl : vs.length = 12 := hl
 obtain ⟨x0, h0⟩ := hf 0 _ _ rfl T26
 obtain ⟨x1, h1⟩ := hf 1 _ _ rfl T29
 obtain ⟨x2, h2⟩ := hf 2 _ _ rfl T30
 obtain ⟨x3, h3⟩ := hf 3 _ _ rfl T31
 obtain ⟨c, rv, e0, hrows, cf⟩ := rd_config ⟨_, T26, .inl ⟨rfl, _, rfl, h0⟩⟩
 match vs, hl, e0, h1, h2, h3 with
 | [a0, a1, a2, a3, a4, a5, a6, a7, a8, a9, a10, a11], _, e0, h1, h2, h3 =>
  obtain ⟨xs, m1, m2, m3⟩ := rd_members ⟨_, T29, .inr ⟨rfl, h1⟩⟩
  obtain ⟨es, q1, q2⟩ := rd_events ⟨_, T30, .inr ⟨rfl, h2⟩⟩
  obtain ⟨st, r1, r2⟩ := rd_ents ⟨_, T31, .inr ⟨rfl, h3⟩⟩
  simp at e0
  obtain ⟨rfl, rfl, rfl, rfl, rfl, rfl, rfl, rfl, rfl⟩ := e0
  refine ⟨⟨c, xs.map MR.val, es, st⟩, a3, a9, a10, a11, xs, rfl, ⟨hrows, m1, rfl, fun x hx => (m3 x hx).1, q1, r1⟩, cf, by rw [List.length_map]; exact m2, fun m hm => ?_, q2, Nat.le_trans r2 (by decide)⟩
  obtain ⟨x, hx, rfl⟩ := List.mem_map.1 hm
  exact (m3 x hx).2
theorem SV.Ok.at_ {B H : Heap} {L : List Res} {f : Res → List Res} {q : SV} {s : St} (hk : q.Ok s) (hM : Mem B H L) (hh : Has L (q.own s) f := by (repeat (first | exact Has.here | apply Has.there))) : StAt H q.u q.mv q.ev q.sv q.xs s := SV.at_ hk hM hh
theorem doP_ {s a : St} {pick e : Int} (h : doR s pick = (a, e)) (H : Heap) {rv mv ev sv : V} {xs : List MR} (ha : StAt H rv mv ev sv xs s) (hf : s.Fit) :
  ∃ w H', Call Tryz.prog 21 [.agg (stC s.c rv mv ev sv), .int .i64 pick] H w H' ∧ ∃ q : SV, w = .tup [.agg (q.c a), .int .i64 e] ∧ q.Ok a ∧ Mem H H' [q.own a] := by
 have := stepDo_ H s rv mv ev sv xs ha hf pick
 rw [h] at this
 exact this
theorem newQ_ {c : Cfg} {a : St} {e : Int} (h : newR c = (a, e)) (H : Heap) (rv : V) (hr : Rows H rv c.rows) (hf : c.Fit) : ∃ w H', Call Tryz.prog 18 [.agg (cfgC c rv)] H w H' ∧ ∃ q : SV, w = .tup [.agg (q.c a), .int .i64 e] ∧ q.Ok a ∧ Mem H H' [q.own a] := by
 have := newD_ H c rv hr hf
 rw [h] at this
 exact this
theorem mr_ld {H : Heap} {v : V} {xs : List MR} (h : Sl 6 mrC H v xs) {j b o : Nat} {x : MR} (hi : idxV T 29 v (j : Int) = some (.ptr b o)) (hx : xs[j]? = some x) : loadV T 51 H b o = some (.agg (mC x.w x.v x.k x.h)) := by
 obtain ⟨b', o', hi', lo, _⟩ := mr_at h hx
 rw [hi] at hi'
 cases hi'
 exact lo
theorem noSt_at (H : Heap) : StAt H .nils .nils .nils .nils [] noSt := ⟨⟨[], .inl ⟨rfl, rfl⟩, rfl, fun k p r hp => (by cases hp)⟩, .inl ⟨rfl, rfl⟩, rfl, fun x hx => (by cases hx), .inl ⟨rfl, rfl⟩, .inl ⟨rfl, rfl⟩⟩
end Go.Proofs.YtaofdhgkgklppaaGreat.VM
namespace Go.Proofs.YtaofdhgkgklppaaGreat.VM
open Go
set_option linter.unusedVariables false
set_option linter.unusedSimpArgs false
theorem uns_in (n : Int) : 0 ≤ IntKind.u64.wrap n ∧ IntKind.u64.wrap n < 18446744073709551616 := by
 unfold IntKind.wrap
 simp only [IntKind.bits, IntKind.signed, Bool.false_and, Bool.false_eq_true, if_false]
 exact ⟨Int.emod_nonneg _ (by decide), Int.emod_lt_of_pos _ (by decide)⟩
theorem uns_nat {n : Int} (h1 : 0 ≤ n) (h2 : n < 18446744073709551616) : IntKind.u64.wrap n = n := by
 unfold IntKind.wrap
 simp only [IntKind.bits, IntKind.signed, Bool.false_and, Bool.false_eq_true, if_false]
 exact Int.emod_eq_of_lt h1 h2
def modU (a m : Int) : Nat := ((IntKind.u64.wrap a).tmod m).toNat
structure ModU (a m : Int) (q : Nat) : Prop where
 lt : (q : Int) < m
 u : IntKind.u64.wrap m = m
 r : (IntKind.u64.wrap a).tmod m = (q : Int)
 i : IntKind.i64.wrap (q : Int) = (q : Int)
 nz : (m = 0) = False
theorem modU_spec (a : Int) {m : Int} (h1 : 1 ≤ m) (h2 : m ≤ 1000000) : ModU a m (modU a m) := by
 have hu := uns_in a
 have hlt := Int.tmod_lt_of_pos (IntKind.u64.wrap a) (show 0 < m by omega)
 have hnn := Int.tmod_nonneg m hu.1
 have e : (IntKind.u64.wrap a).tmod m = ((modU a m : Nat) : Int) := by unfold modU; rw [Int.toNat_of_nonneg hnn]
 exact ⟨by omega, uns_nat (by omega) (by omega), e, wrap_i64 (by omega) (by omega), eq_false (by omega)⟩
end Go.Proofs.YtaofdhgkgklppaaGreat.VM
namespace Go.Proofs.YtaofdhgkgklppaaGreat.VM
open Go
set_option linter.unusedVariables false
set_option linter.unusedSimpArgs false
attribute [local irreducible] wq wqL wqD wqE wqO Th Bk EndR
set_option maxHeartbeats 8000000
def far (c : Cfg) : Cfg := { c with interval := 8 }
def sumT : List (Chk × Int) → Int
 | [] => 0
 | m :: ms => m.1.t + sumT ms
theorem sumT_set : ∀ (ms : List (Chk × Int)) (p : Nat) (o x : Chk × Int), ms[p]? = some o → sumT (ms.set p x) = sumT ms - o.1.t + x.1.t
 | [], p, o, x, h => by simp at h
 | a :: ms, 0, o, x, h => by
  simp at h; subst h
  show x.1.t + sumT ms = a.1.t + sumT ms - a.1.t + x.1.t
  omega
 | a :: ms, p + 1, o, x, h => by
  have := sumT_set ms p o x (by simpa using h)
  show a.1.t + sumT (ms.set p x) = a.1.t + sumT ms - o.1.t + x.1.t
  omega
theorem sumT_le : ∀ (ms : List (Chk × Int)) (b : Int), (∀ m ∈ ms, m.1.t ≤ b) → sumT ms ≤ b * ms.length
 | [], b, _ => by simp [sumT]
 | a :: ms, b, h => by
  have := sumT_le ms b fun m hm => h m (List.mem_cons_of_mem _ hm)
  have h1 := h a (List.mem_cons_self ..)
  show a.1.t + sumT ms ≤ b * ((ms.length + 1 : Nat) : Int)
  rw [Int.natCast_add, Int.mul_add]
  omega
structure RunSt (c : Cfg) (s : St) : Prop where
 ok : StOk s
 c : s.c = c
 evs : (s.es.length : Int) ≤ 3 * sumT s.ms
theorem runSt_room {c : Cfg} {s : St} (h : RunSt c s) : s.es.length + 4 ≤ 1024 := by
 obtain ⟨hm, _, _, ht, _⟩ := cfgMay_split h.ok.c
 have h1 := sumT_le s.ms 32 fun m hm => by have := h.ok.tot m hm; omega
 have h2 := h.evs
 have h3 := h.ok.len
 omega
theorem runSt_do {c : Cfg} {s : St} (h : RunSt c s) {p : Nat} {o : Chk × Int} (hp : Picks s p o) : RunSt c (doS s p) := by
 have hd := do_turned hp
 obtain ⟨x, hx, ht⟩ := hd.own
 refine ⟨stOk_of hd.may, hd.c.trans h.c, ?_⟩
 have e := sumT_set s.ms p o (chk2 s p, head2 s p) hp.at_
 have hx' : (s.ms.set p (chk2 s p, head2 s p))[p]? = some x := hx
 rw [List.getElem?_set_self (List.getElem?_eq_some_iff.1 hp.at_).1] at hx'
 cases hx'
 have e' : sumT (doS s p).ms = sumT s.ms + 1 := by
  show sumT (s.ms.set p (chk2 s p, head2 s p)) = _
  rw [e]
  simp only at ht ⊢
  omega
 have := hd.more
 have := h.evs
 omega
def stepO (s : St) (x : Int) : Option St := if (doR s x).2 = 0 then some (doR s x).1 else if (doR s x).2 = 2301 then some s else none
theorem step_cases {c : Cfg} {s : St} (h : RunSt c s) (x : Int) : (∃ (p : Nat) (o : Chk × Int), x = (p : Int) ∧ Picks s p o ∧ doR s x = (doS s p, 0) ∧ stepO s x = some (doS s p)) ∨ (∃ (p : Nat) (o : Chk × Int), x = (p : Int) ∧ s.ms[p]? = some o ∧ o.1.t = s.c.total ∧ doR s x = (noSt, 2301) ∧ stepO s x = some s) ∨ ((x < 0 ∨ c.m ≤ x) ∧ doR s x = (noSt, 2300) ∧ stepO s x = none) := by
 have hl := h.ok.len
 rw [h.c] at hl
 by_cases hx : x < 0 ∨ c.m ≤ x
 ·have e := pick_out (s := s) (pick := x) (by omega)
  refine .inr (.inr ⟨hx, e, ?_⟩)
  unfold stepO
  rw [e]; rfl
 ·have hp : x.toNat < s.ms.length := by omega
  have hxe : x = (x.toNat : Int) := by omega
  have ho := List.getElem?_eq_getElem hp
  by_cases ht : (s.ms[x.toNat]'hp).1.t = s.c.total
  ·have e := is_done h.ok ho ht (runSt_room h)
   rw [← hxe] at e
   refine .inr (.inl ⟨x.toNat, _, hxe, ho, ht, e, ?_⟩)
   unfold stepO
   rw [e]; rfl
  ·have pk : Picks s x.toNat (s.ms[x.toNat]'hp) := ⟨h.ok, ho, ht, runSt_room h⟩
   have e := doR_of pk
   rw [← hxe] at e
   refine .inl ⟨x.toNat, _, hxe, pk, e, ?_⟩
   unfold stepO
   rw [e]; rfl
def sweptS (s : St) : St := { s with st := s.st.filter fun e => decide (e.n ≠ 0) }
end Go.Proofs.YtaofdhgkgklppaaGreat.VM
