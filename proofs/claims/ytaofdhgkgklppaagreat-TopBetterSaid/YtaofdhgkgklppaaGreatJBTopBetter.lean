/- Joined texts: RunT, TopC. -/
import Derived.Test.YtaofdhgkgklppaaGreatJB1
import Derived.Test.YtaofdhgkgklppaaGreatJB2
import Derived.Test.YtaofdhgkgklppaaGreatJB3
import Derived.Test.YtaofdhgkgklppaaGreatJB4
import Derived.Test.YtaofdhgkgklppaaGreatJB5
import Derived.Test.YtaofdhgkgklppaaGreatJB6
import Derived.Test.YtaofdhgkgklppaaGreatJB7
import Derived.Test.YtaofdhgkgklppaaGreatJB8
import Derived.Test.YtaofdhgkgklppaaGreatJB9
import Derived.Test.YtaofdhgkgklppaaGreatJB10
import Derived.Test.YtaofdhgkgklppaaGreatJB11
import Derived.Test.YtaofdhgkgklppaaGreatJB12
import Derived.Test.YtaofdhgkgklppaaGreatJB13
import Derived.Test.YtaofdhgkgklppaaGreatJBTopAll
namespace Go.Proofs.YtaofdhgkgklppaaGreat.VM
open Go
set_option linter.unusedVariables false
set_option linter.unusedSimpArgs false
attribute [local irreducible] wq wqL wqD wqE wqO Th Bk EndR
set_option maxHeartbeats 8000000
theorem donor_better {ss : List Int} {m : Nat} {c x : Int} (h : (donorR ss (m : Int) c x).2.1 = true) : ∃ d : Nat, (donorR ss (m : Int) c x).1 = (d : Int) ∧ d < ss.length ∧ d ≠ m ∧ scoreAt ss d ≤ scoreAt ss m := by
 obtain ⟨d, h1, h2, h3⟩ := donor_in h
 refine ⟨d, h1, h2, h3, ?_⟩
 unfold donorR at h h1
 by_cases hok : donorOk ss (m : Int) c x = true
 ·rw [if_pos hok] at h h1
  by_cases hm : (m : Int) ∈ lastOnes ss c
  ·rw [if_pos (decide_eq_true hm)] at h1
   unfold donorOk at hok
   simp only [Bool.and_eq_true, Bool.not_eq_true', decide_eq_false_iff_not] at hok
   obtain ⟨hr, g1, g2, g3, g4, g5, g6⟩ := hok
   have f2 : rankL ss = rankN (scoreAt ss) ss.length := by unfold rankL; rw [hr]; rfl
   unfold lastOnes at hm
   rw [List.mem_map, f2] at hm
   obtain ⟨t, ht, htm⟩ := hm
   obtain ⟨i, hi⟩ := List.mem_iff_getElem?.1 ht
   rw [List.getElem?_drop] at hi
   have htm' : t = m := by omega
   subst htm'
   have hlen : (rankN (scoreAt ss) ss.length).length = ss.length := rankN_len _ _
   have hlt : x.toNat * c.toNat / 65536 < c.toNat := Nat.div_lt_of_lt_mul (by
    exact Nat.mul_lt_mul_of_pos_right (by omega) (by omega))
   have hlt2 : x.toNat * c.toNat / 65536 < (rankN (scoreAt ss) ss.length).length := by omega
   simp only [f2] at h1
   have hd : (rankN (scoreAt ss) ss.length)[x.toNat * c.toNat / 65536]'hlt2 = d := by
    rw [List.getD_eq_getElem?_getD, List.getElem?_eq_getElem hlt2] at h1
    simp only [Option.getD_some] at h1
    exact Int.ofNat_inj.1 h1
   obtain ⟨l2, e2⟩ := List.getElem?_eq_some_iff.1 hi
   have := List.pairwise_iff_getElem.1 (rankN_sorted (scoreAt ss) ss.length) _ _ hlt2 l2 (by omega)
   rw [hd, e2] at this
   unfold before at this
   omega
  ·rw [if_neg (by simpa using hm)] at h
   cases h
 ·rw [if_neg hok] at h
  cases h
theorem score_at {s : St} {p q : Nat} {m : Chk × Int} (h : (ms1 s p)[q]? = some m) : scoreAt ((ms1 s p).map fun m => (scoreR s.c m.1).1) q = (scoreR s.c m.1).1 := by
 unfold scoreAt
 rw [List.getD_eq_getElem?_getD, List.getElem?_map, h]; rfl
theorem scoreR_ws {c : Cfg} {a b : Chk} (ha : kFits c a = true) (hb : kFits c b = true) (h : a.ws = b.ws) : scoreR c a = scoreR c b := by
 unfold scoreR
 rw [ha, hb, h]
theorem better {s : St} {p : Nat} {o : Chk × Int} (h : Picks s p o) (ht : takes s p = true) :
  ∃ d : Nat, (donor1 s p).1 = (d : Int) ∧ d < s.ms.length ∧ d ≠ p ∧ (scoreR s.c (msAt s.ms d).1).1 ≤ (scoreR s.c (doTrain s p)).1 ∧ scoreR s.c (chk2 s p) = scoreR s.c (msAt s.ms d).1 := by
 have hp := (List.getElem?_eq_some_iff.1 h.at_).1
 have ht' := ht
 unfold takes at ht'
 rw [Bool.and_eq_true] at ht'
 obtain ⟨d, h1, h2, h3, h4⟩ := donor_better (show (donorR ((ms1 s p).map fun m => (scoreR s.c m.1).1) (p : Int) s.c.cutn (drawN s.c.seed.toNat (atN p (doTrain s p).t))).2.1 = true from ht'.2)
 have h2' : d < s.ms.length := by simpa [ms1] using h2
 have hsd : s.ms[d]? = some (msAt s.ms d) := by
  have e := List.getElem?_eq_getElem h2'
  rw [msAt_some e]; exact e
 have hd : (ms1 s p)[d]? = some (msAt s.ms d) := by rw [ms1_at hp, if_neg h3]; exact hsd
 rw [score_at hd, score_at (q := p) (m := (doTrain s p, (msAt s.ms p).2)) (by rw [ms1_at hp, if_pos rfl])] at h4
 have hdc : dChk s p = (msAt s.ms d).1 := by
  unfold dChk
  rw [show (donor1 s p).1.toNat = d from by
   have : (donor1 s p).1 = (d : Int) := h1
   rw [this]; rfl, msAt_some hd]
 refine ⟨d, h1, h2', h3, h4, scoreR_ws (chk2_fits h.ok h.at_ h.t) (h.ok.fits _ (List.mem_of_getElem? hsd)) ?_⟩
 unfold chk2
 rw [if_pos ht, ← hdc]
theorem law_topBetter {D : Type} (K : Heap) (vs : List V) (ds : List (DataW D)) (ro : Ro K) (h : RdAll T K [33, 3] vs ds) : ∃ K', Call Tryz.prog 5 vs K (.bool true) K' := by
 obtain ⟨v1, vs, d1, ds, rfl, rfl, hv1, h⟩ := rdAll_cons h
 obtain ⟨v2, vs, d2, ds, rfl, rfl, hv2, h⟩ := rdAll_cons h
 obtain ⟨rfl, rfl⟩ := rdAll_nil h
 obtain ⟨s, rv, mv, ev, sv, xs, rfl, ha, sf⟩ := rd_state hv1
 obtain ⟨pick, rfl, _⟩ := hv2.int T3 rfl
 clear hv1 hv2 h
 have hle := ha.es.len T30 rfl
 have hlm := ha.ms.len T29 rfl
 rw [ha.len] at hlm
 have hel := sf.es
 refine ⟨K, ?_⟩
 refine call_pure fit mixed Tryz.func5 rfl rfl rfl (by kernel_rfl) rfl fun hM => ?_
 refine wq_seq (wq_line ?_)
 refine l_boxM T33 fun b1 H1 hM => ?_
 refine goM ?_
 refine l_callG (awakeT_ _) ?_
 rcases doR_cases s pick with ⟨p, o, rfl, pk, ho⟩ | ⟨e, hne, ho⟩
 ·have hp := (List.getElem?_eq_some_iff.1 pk.at_).1
  have hok := pk.ok
  have hlen := hok.len
  have T1 := do_turned pk
  have of := do_fit pk sf
  obtain ⟨⟨hm2, hm8⟩, _, _, ⟨hT1, hT2⟩, _⟩ := cfgMay_split hok.c
  have hmay : stateMay s = true := of_stOk hok
  have c2 := fun H ha => refStateMay_ H s rv mv ev sv xs ha sf
  rw [hmay] at c2
  have hamay := T1.may
  have haml := T1.len
  have hal : (doS s p).es.length = s.es.length + (if takes s p = true then 3 else 1) := es2_len s p
  have hof := hok.fits o (List.mem_of_getElem? pk.at_)
  have htot := hok.tot o (List.mem_of_getElem? pk.at_)
  have hpt := pk.t
  have hgo : trainR s.c p o.1 = (doTrain s p, 0) := by rw [doTrain_eq pk.at_]; exact trainR_go hok.c (by omega) hof (by omega)
  have hac : (doS s p).c = s.c := rfl
  have hams : (doS s p).ms = s.ms.set p (chk2 s p, head2 s p) := rfl
  have haes : (doS s p).es = es2 s p := rfl
  have g4 : decide ((p : Int) < 0) = false := decide_eq_false (by omega)
  have g5 : decide ((p : Int) ≥ (s.ms.length : Int)) = false := decide_eq_false (by omega)
  have w3 : IntKind.i64.wrap ((s.es.length : Int) + 3) = (s.es.length : Int) + 3 := wrap_i64 (by omega) (by omega)
  have w1 : IntKind.i64.wrap ((s.es.length : Int) + 1) = (s.es.length : Int) + 1 := wrap_i64 (by omega) (by omega)
  by_cases htk : takes s p = true
  ·obtain ⟨d, hdn, hds, hdp, hle2, hsc⟩ := better pk htk
   rw [if_pos htk] at hal
   have hev : (doS s p).es[s.es.length + 1]? = some ⟨1, p, d, (manyOf (es1 s p) d : Nat), 0, 0⟩ := by
    rw [haes]
    unfold es2
    rw [if_pos htk, hdn, List.getElem?_append_right (by unfold es1; simp), show s.es.length + 1 - (es1 s p).length = 0 by unfold es1; simp]
    rfl
   obtain ⟨md, hmd⟩ : ∃ md, s.ms[d]? = some md := ⟨s.ms[d]'hds, by simp⟩
   rw [msAt_some hmd] at hle2 hsc
   have hdf := hok.fits md (List.mem_of_getElem? hmd)
   have hmdf := kFits_fit hdf
   have trf := (trained hok pk.at_ pk.t).1
   have hx0 := score_ok hok.c trf
   have hdtf := kFits_fit trf
   have hy0 := score_ok hok.c hdf
   have hsx : scoresR (doS s p) = (scoreL (doS s p), 0) := by unfold scoresR; rw [hamay, if_pos rfl]
   have hsp : (scoreL (doS s p))[p]? = some (scoreR s.c md.1).1 := by
    unfold scoreL
    rw [hams, List.getElem?_map, List.getElem?_set_self hp, hac, ← hsc]; rfl
   have hsl : (scoreL (doS s p)).length = s.ms.length := by unfold scoreL; rw [List.length_map, haml]
   have g6 : decide ((d : Int) < 0) = false := decide_eq_false (by omega)
   have g7 : decide ((d : Int) ≥ (s.ms.length : Int)) = false := decide_eq_false (by omega)
   have g8 : ((d : Int) == (p : Int)) = false := by simp; omega
   have g9 : decide ((scoreR s.c md.1).1 ≤ (scoreR s.c (doTrain s p)).1) = true := decide_eq_true hle2
   have g10 : ((((s.es.length + 3 : Nat) : Int)) != (s.es.length : Int) + 3) = false := by simp
   obtain ⟨y0, hy, hyv⟩ := val_at ha.val pk.at_
   have hyk : y0.k = o.1 := congrArg Prod.fst hyv
   obtain ⟨yd, hyd, hydv⟩ := val_at ha.val hmd
   have hydk : yd.k = md.1 := congrArg Prod.fst hydv
   have hmm : ((s.ms.length : Int) == (s.ms.length : Int)) = true := by simp
   generalize doS s p = A at *
   clear pk hok hlen T1 hm2 hm8 hT1 hT2 hmay hof htot hpt hac hams haes htk hdn hds hdp hle2 hsc hdf trf
   refine goM ?_
   obtain ⟨_, H2, c1, qa, rfl, ka, m1⟩ := doP_ ho H1 (ha.mono hM.pre) sf
   refine l_callG c1 ?_
   replace hM := hM.call1 m1
   clear c1 m1
   refine goM ?_
   refine l_newM (cs := zeroSt) T33 rfl fun b5 H3 hM => ?_
   refine l_putM T33 fun H4 hM => ?_
   have hat := ka.at_ hM
   have hla := hat.es.len T30 rfl
   rw [hal] at hla
   obtain ⟨be, oe, _, ji, jc, _, _, jl⟩ := hat.es.get T30 rfl T61 rfl hev
   have j2 : loadV T 3 H4 be (oe + 2) = some (.int .i64 (d : Int)) := loadV_one T3 rfl (jl 2 _ (by rw [jc]; rfl))
   replace ji : idxV T 30 qa.ev ((s.es.length : Int) + 1) = some (.ptr be oe) := ji
   obtain ⟨bo, oo, hi, _⟩ := mr_at (ha.mono hM.pre).ms hy
   obtain ⟨l0, _⟩ := mr_in (ha.mono hM.pre).ms hi hy
   rw [hyk] at l0
   have hk0 := (ha.mono hM.pre).ks y0 (List.mem_of_getElem? hy)
   rw [hyk] at hk0
   have s1 := hk0.ws.cells
   have s2 := hk0.vs.cells
   obtain ⟨a, b, H5, c3, m2⟩ := refTrain_ H4 s.c rv y0.w y0.v p o.1 (ha.mono hM.pre).rows hk0 sf.c (sf.k o (by rw [← ha.val, ← hyv]; exact List.mem_map_of_mem (List.mem_of_getElem? hy)))
   rw [hgo] at c3 m2
   simp only at c3 m2
   have s3 := (m2.sl .here).cells
   have s4 := (m2.sl (.there .here)).cells
   have c2' := c2 H4 (ha.mono hM.pre)
   clear hat jl jc hal hev hk0 hgo
   refine goM ?_
   refine l_callG (num_ _ _) ?_
   refine goM ?_
   refine l_callG c2' ?_
   refine goM ?_
   refine d_callG c3 (.inl m2.pre) ?_
   replace hM := hM.call2 m2
   clear c2' c3 m2
   refine goM ?_
   refine d_newM (cs := zeroChk) T45 rfl fun b8 H6 hM => ?_
   refine d_putM T45 fun H7 hM => ?_
   have c3 := refScoreOf_ H7 s.c rv a b (doTrain s p) 0 (ha.mono hM.pre).rows ⟨hM.sl (v := a) (xs := (doTrain s p).ws) (by (repeat (first | exact Has.here | apply Has.there))), hM.sl (v := b) (xs := (doTrain s p).vs) (by (repeat (first | exact Has.here | apply Has.there)))⟩ sf.c hdtf
   rw [hx0] at c3
   obtain ⟨bd, od, hid, _⟩ := mr_at (ha.mono hM.pre).ms hyd
   have lod := mr_ld (ha.mono hM.pre).ms hid hyd
   have hkd := (ha.mono hM.pre).ks yd (List.mem_of_getElem? hyd)
   rw [hydk] at lod hkd
   have s5 := hkd.ws.cells
   have s6 := hkd.vs.cells
   have c4 := refScoreOf_ H7 s.c rv yd.w yd.v md.1 yd.h (ha.mono hM.pre).rows hkd sf.c hmdf
   rw [hy0] at c4
   obtain ⟨_, H8, c5, u, rfl, m3⟩ := controlScores_ H7 A qa.u qa.mv qa.ev qa.sv qa.xs (ka.at_ hM) of
   rw [hsx] at c5 m3
   simp only at c5 m3
   have hlu := (m3.sl .here).len T27 rfl
   rw [hsl] at hlu
   obtain ⟨bu, ou, _, ki, rfl, _, kl, _⟩ := (m3.sl .here).get T27 rfl T3 rfl hsp
   have kl' := loadV_one T3 rfl kl
   clear hkd hsx hsl hsp kl hx0 hy0 hyd hydk hydv hy hyk hyv
   generalize (scoreR s.c md.1).1 = z at *
   generalize (scoreR s.c (doTrain s p)).1 = z2 at *
   have hzz : (z == z) = true := by simp
   refine goM ?_
   refine l_callG c3 ?_
   refine goM ?_
   refine d_call0G c4 ?_
   refine goM ?_
   refine l_callG c5 ?_
   replace hM := hM.call1 m3
   clear c3 c4 c5 m3
   refine goM ?_
   refine l_callG (num_ _ _) ?_
   refine goM ?_
   exact end_1 (by first | exact .inl rfl | exact .inr rfl) ⟨rfl, hM.pre⟩
  ·rw [if_neg htk] at hal
   have g10 : ((((s.es.length + 1 : Nat) : Int)) != (s.es.length : Int) + 3) = true := by simp
   have g11 : ((((s.es.length + 1 : Nat) : Int)) == (s.es.length : Int) + 1) = true := by simp
   generalize doS s p = A at *
   clear pk hok hlen T1 hm2 hm8 hT1 hT2 hmay hof htot hpt hac hams haes htk hgo
   refine goM ?_
   obtain ⟨_, H2, c1, qa, rfl, ka, m1⟩ := doP_ ho H1 (ha.mono hM.pre) sf
   refine l_callG c1 ?_
   replace hM := hM.call1 m1
   clear c1 m1
   refine goM ?_
   refine l_newM (cs := zeroSt) T33 rfl fun b5 H3 hM => ?_
   refine l_putM T33 fun H4 hM => ?_
   have hla := (ka.at_ hM).es.len T30 rfl
   rw [hal] at hla
   have c2' := c2 H4 (ha.mono hM.pre)
   clear hal
   refine goM ?_
   refine l_callG (num_ _ _) ?_
   refine goM ?_
   refine l_callG c2' ?_
   refine goM ?_
   refine l_callG (num_ _ _) ?_
   refine goM ?_
   exact end_1 (by first | exact .inl rfl | exact .inr rfl) ⟨rfl, hM.pre⟩
 ·have hee : (e != 0) = true := by simpa using hne
  refine goM ?_
  obtain ⟨_, H2, c1, qa, rfl, ka, m1⟩ := doP_ ho H1 (ha.mono hM.pre) sf
  refine l_callG c1 ?_
  replace hM := hM.call1 m1
  clear c1 m1 hne
  refine goM ?_
  refine l_newM (cs := zeroSt) T33 rfl fun b2 H3 hM => ?_
  refine l_putM T33 fun H4 hM => ?_
  refine goM ?_
  refine l_callG (num_ _ _) ?_
  refine goM ?_
  refine l_callG (num_ _ _) ?_
  refine goM ?_
  exact end_1 (by first | exact .inl rfl | exact .inr rfl) ⟨rfl, hM.pre⟩
end Go.Proofs.YtaofdhgkgklppaaGreat.VM
