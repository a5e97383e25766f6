/- Joined texts: ChoiceB, StepJ, EvG, CtlJ, StepK, RunP, RunQ, RunA, RunB, TopA, RunW, LawA. -/
import Derived.Test.YtncjbjlmgnjhiaaGreatJC1
import Derived.Test.YtncjbjlmgnjhiaaGreatJC2
import Derived.Test.YtncjbjlmgnjhiaaGreatJC3
import Derived.Test.YtncjbjlmgnjhiaaGreatJC4
import Derived.Test.YtncjbjlmgnjhiaaGreatJC5
import Derived.Test.YtncjbjlmgnjhiaaGreatJC6
import Derived.Test.YtncjbjlmgnjhiaaGreatJC7
import Derived.Test.YtncjbjlmgnjhiaaGreatJC8
import Derived.Test.YtncjbjlmgnjhiaaGreatJC9
import Derived.Test.YtncjbjlmgnjhiaaGreatJC10
import Derived.Test.YtncjbjlmgnjhiaaGreatJC11
import Derived.Test.YtncjbjlmgnjhiaaGreatJC12
import Derived.Test.YtncjbjlmgnjhiaaGreatJC13
import Derived.Test.YtncjbjlmgnjhiaaGreatJCRunAllp0
namespace Go.Proofs.YtncjbjlmgnjhiaaGreat.VM
open Go
set_option linter.unusedVariables false
set_option linter.unusedSimpArgs false
attribute [local irreducible] wq wqL wqD wqE wqO Th Bk EndR
set_option maxHeartbeats 8000000
theorem UK {ss : List Int} {m cut x : Int} (h : Fa ss = true) : Gz ss m cut x = (within m 0 ((ss.length : Int) - 1) && (within cut 1 ((ss.length / 2 : Nat) : Int) && within x 0 65535)) := by
 unfold Gz within
 rw [h, Bool.true_and]
 apply Bool.eq_iff_iff.2
 simp only [Bool.and_eq_true, Bool.not_eq_true', decide_eq_true_eq, decide_eq_false_iff_not]
 omega
theorem Qy {ss : List Int} {cut m : Int} : m ∈ EU ss cut ↔ ∃ (t c : Nat), ss.length - cut.toNat ≤ t ∧ (FE ss)[t]? = some c ∧ (c : Int) = m := by
 unfold EU
 rw [List.mem_map]
 constructor
 ·rintro ⟨c, hc, rfl⟩
  obtain ⟨j, hj⟩ := List.mem_iff_getElem?.1 hc
  rw [List.getElem?_drop] at hj
  exact ⟨_, c, Nat.le_add_right _ _, hj, rfl⟩
 ·rintro ⟨t, c, ht, hc, rfl⟩
  refine ⟨c, List.mem_iff_getElem?.2 ⟨t - (ss.length - cut.toNat), ?_⟩, rfl⟩
  rw [List.getElem?_drop, show ss.length - cut.toNat + (t - (ss.length - cut.toNat)) = t by omega]
  exact hc
theorem XU (H : Heap) (sv : V) (ss : List Int) (m cut x : Int) (hs : Sl 1 AH H sv ss) (hl : ss.length ≤ 2 ^ 47) :
  Call Tryz.prog 74 [sv, .int .i64 m, .int .i64 cut, .int .i64 x] H (.tup [.int .i64 (Ew ss m cut x).1, .bool (Ew ss m cut x).2.1, .int .i64 (Ew ss m cut x).2.2]) H := by
 refine AQ fit mixed Tryz.func74 rfl rfl rfl (by kernel_rfl) rfl fun hM => ?_
 obtain ⟨_, H1, c1, u, rfl, m1⟩ := ZY H sv ss hs hl
 have s1 := (m1.sl .here).cells
 have hM1 := hM.BH m1
 have hsl := m1.sl .here
 have hlen := hsl.len T27 rfl
 have hlen0 := hs.len T27 rfl
 clear hM m1
 refine goM ?_
 refine AA c1 ?_
 clear c1
 unfold Ew
 unfold QE
 cases hmay : Fa ss with
 | false =>
  have e : Gz ss m cut x = false := by unfold Gz; rw [hmay]; rfl
  simp only [e, Bool.false_eq_true, if_false]
  refine goM ?_
  exact CI ⟨rfl, hM1.pre⟩
 | true =>
  obtain ⟨hrl, hn1, hn8⟩ := MQ hmay
  rw [UK hmay]
  have hmem := Qy (ss := ss) (cut := cut) (m := m)
  obtain ⟨n, hn⟩ : ∃ n, ss.length = n := ⟨_, rfl⟩
  rw [hrl] at hlen
  rw [hn] at hrl hn1 hn8 hlen hlen0 hmem ⊢
  have hq : IntKind.i64.wrap ((n : Int).tdiv 2) = ((n / 2 : Nat) : Int) := by
   rw [show (n : Int).tdiv 2 = ((n / 2 : Nat) : Int) from (Int.ofNat_tdiv n 2).symm]; exact Am (by omega)
  have hw0 : IntKind.i64.wrap ((n : Int) - 1) = (n : Int) - 1 := wrap_i64 (by omega) (by omega)
  have c2 := Rj H1 m 0 ((n : Int) - 1)
  have c3 := Rj H1 cut 1 ((n / 2 : Nat) : Int)
  have c4 := Rj H1 x 0 65535
  simp only [if_true]
  cases h2 : within m 0 ((n : Int) - 1) with
  | false =>
   rw [h2] at c2
   simp only [Bool.false_and, Bool.false_eq_true, if_false]
   refine goM ?_
   refine AA c2 ?_
   refine goM ?_
   exact CI ⟨rfl, hM1.pre⟩
  | true =>
   rw [h2] at c2
   cases h3 : within cut 1 ((n / 2 : Nat) : Int) with
   | false =>
    rw [h3] at c3
    simp only [Bool.true_and, Bool.false_and, Bool.false_eq_true, if_false]
    refine goM ?_
    refine AA c2 ?_
    refine goM ?_
    refine AA c3 ?_
    refine goM ?_
    exact CI ⟨rfl, hM1.pre⟩
   | true =>
    rw [h3] at c3
    cases h4 : within x 0 65535 with
    | false =>
     rw [h4] at c4
     simp only [Bool.true_and, Bool.and_false, Bool.false_eq_true, if_false]
     refine goM ?_
     refine AA c2 ?_
     refine goM ?_
     refine AA c3 ?_
     refine goM ?_
     refine AA c4 ?_
     refine goM ?_
     exact CI ⟨rfl, hM1.pre⟩
    | true =>
     rw [h4] at c4
     rw [within_iff] at h2 h3 h4
     simp only [Bool.true_and, if_true]
     obtain ⟨c, hc⟩ : ∃ c : Nat, cut = c := ⟨cut.toNat, by omega⟩
     obtain ⟨y, hy⟩ : ∃ y : Nat, x = y := ⟨x.toNat, by omega⟩
     subst hc; subst hy
     simp only [Int.toNat_natCast] at hmem ⊢
     have hw1 : IntKind.i64.wrap ((n : Int) - (c : Int)) = ((n - c : Nat) : Int) := by rw [wrap_i64 (by omega) (by omega)]; omega
     have hyc : y * c ≤ 65535 * c := Nat.mul_le_mul_right _ (by omega)
     have hq2 : y * c / 65536 < n := by omega
     have hw2 : IntKind.i64.wrap ((y : Int) * (c : Int)) = ((y * c : Nat) : Int) := by rw [← Int.natCast_mul]; exact Am (by omega)
     have hw3 : vbin T .shr 3 (.int .i64 ((y * c : Nat) : Int)) (.int .u64 16) = some (.int .i64 ((y * c / 65536 : Nat) : Int)) := by
      have e : ((y * c : Nat) : Int).fdiv (2 ^ (min ((16 : Int).toNat) IntKind.i64.bits)) = ((y * c / 65536 : Nat) : Int) := by
       rw [show (2 : Int) ^ (min ((16 : Int).toNat) IntKind.i64.bits) = ((65536 : Nat) : Int) by decide]
       exact (Int.ofNat_fdiv (y * c) 65536).symm
      simp only [vbin, shiftBin]
      rw [if_neg (by omega), e]
     have hg : (FE ss)[y * c / 65536]? = some ((FE ss).getD (y * c / 65536) 0) := by simp [List.getD_eq_getElem?_getD, hrl, hq2]
     obtain ⟨b1, o1, _, hi1, rfl, _, hlo1, _⟩ := hsl.get T27 rfl T3 rfl hg
     have ho1 := AF T3 rfl hlo1
     have hpre := hM1.pre
     have hc1 : 1 ≤ c ∧ c ≤ n := by omega
     generalize (FE ss).getD (y * c / 65536) 0 = d at *
     generalize y * c / 65536 = q at *
     generalize y * c = yc at *
     clear h2 h3 h4 hyc hq2 hg hlo1 hM1
     generalize FE ss = row at *
     refine goM ?_
     refine AA c2 ?_
     refine goM ?_
     refine AA c3 ?_
     refine goM ?_
     refine AA c4 ?_
     clear c2 c3 c4
     refine goM ?_
     refine AT (fun k ρ hp => ∃ j : Nat, n - c ≤ j ∧ j ≤ n ∧ k = n - j ∧ hp = H1 ∧ (∀ (t e : Nat), n - c ≤ t → t < j → row[t]? = some e → (e : Int) ≠ m) ∧ ρ 1 = .int .i64 m ∧ ρ 2 = .int .i64 (c : Int) ∧ ρ 3 = .int .i64 (y : Int) ∧ ρ 11 = u ∧ ρ 13 = .int .i64 (j : Int)) ⟨n - c, Nat.le_refl _, Nat.sub_le _ _, rfl, rfl, fun t e h1 h2 => absurd h1 (by omega), rfl, rfl, rfl, rfl, rfl⟩ ?_
     rintro _ ρ hp ⟨j, hj1, hj, rfl, hpe, hno, g1, g2, g3, g11, g13⟩
     subst hpe
     refine goM ?_
     refine AE (fun hb => ?_) (fun hb => ?_)
     ·have hj' : j < n := by simpa using hb
      clear hb
      obtain ⟨e, he⟩ : ∃ e, row[j]? = some e := ⟨row[j]'(by omega), by simp⟩
      obtain ⟨b2, o2, _, hi2, rfl, _, hlo2, _⟩ := hsl.get T27 rfl T3 rfl he
      have ho2 := AF T3 rfl hlo2
      have hwj := AG (n := j) (by omega)
      clear hlo2
      cases hem : ((e : Int) == m) with
      | true =>
       have hin : decide (m ∈ EU ss (c : Int)) = true := decide_eq_true (hmem.2 ⟨j, e, hj1, he, by simpa using hem⟩)
       rw [hin]
       clear hmem hno hin
       simp only [if_true]
       repeat (first | (refine Bs ?_; refine BC (EC eLk eLk hw3) ?_) | (refine Bs ?_; refine OE ?_) | (refine Bz ?_; refine Nq ?_) | (refine CG ?_; first | refine BO ?_ | refine At ?_ | refine KU ?_) | (refine CF ?_; first | refine BS ?_ | refine Aw ?_ | refine KJ ?_) | (refine IU ?_; first | refine Gc ?_ | refine IT ?_) | refine AO ?_ | refine AK ?_ | refine Ae (by decide +kernel) ?_ | refine AW ?_ | refine BN ?_ | refine BM ?_ | refine Ah ?_ | refine As ?_ | refine Ag ?_ | refine AR ?_ | refine Ar ?_ | refine Ad ?_ | refine AS ?_ | refine Aq ?_ | refine Ac ?_ | refine AV rfl ?_)
       exact CI ⟨rfl, hpre⟩
      | false =>
       have hno' : ∀ (t e : Nat), n - c ≤ t → t < j + 1 → row[t]? = some e → (e : Int) ≠ m := fun t e' h1 h2 h3 => by
        by_cases ht : t = j
        ·subst ht; rw [he] at h3; cases h3; simpa using hem
        ·exact hno t e' h1 (by omega) h3
       clear hno hmem
       refine goM ?_
       exact ⟨n - (j + 1), by omega, j + 1, by omega, hj', rfl, rfl, hno', by simp [AD, AB, *]⟩
     ·have hj' : j = n := by have : ¬ j < n := by simpa using hb
                             omega
      subst hj'
      clear hb
      have hin : decide (m ∈ EU ss (c : Int)) = false := decide_eq_false fun h => by
       obtain ⟨t, e, h1, h2, h3⟩ := hmem.1 h
       exact hno t e h1 (by have := (List.getElem?_eq_some_iff.1 h2).1; omega) h2 h3
      rw [hin]
      clear hno hmem hin
      simp only [Bool.false_eq_true, if_false]
      refine goM ?_
      exact CI ⟨rfl, hpre⟩
theorem Ke {B H : Heap} {L : List Res} {u mv ev sv : V} {rvs : List (V × Int)} {ys : List MR} {s : St} {p : Nat} {o : Chk × Int} (pk : EN s p o) (hM : Mem B H (spR u mv ev sv rvs ys s.c (es2 s p) s.st L)) (hq : Tq u mv ev sv) (hv : ys.map MR.val = s.ms.set p (Ci s p, (DB s.ms p).2)) :
  ∃ w H', Call Tryz.prog 79 [.agg (stC s.c u mv ev sv), .int .i64 p] H w H' ∧ ∃ sv', w = .agg (stC s.c u mv ev sv') ∧ ∃ ys', ys'.map MR.val = (doS s p).ms ∧ Mem B H' (spR u mv ev sv' rvs ys' s.c (es2 s p) (st2 s p) L) := by
 have hp := (List.getElem?_eq_some_iff.1 pk.at_).1
 obtain ⟨y, hy, hyv⟩ := Hk hv (List.getElem?_set_self hp)
 have hyk : y.k = Ci s p := congrArg Prod.fst hyv
 have hyh : y.h = (DB s.ms p).2 := congrArg Prod.snd hyv
 have hst := pk.ok.st.len
 obtain ⟨w, H', hc, sv', hw, hM'⟩ := Ur hM hq hy (by rw [hyk]; exact Ls pk.ok pk.at_ pk.t) (by omega)
 rw [hyk, hyh] at hM'
 refine ⟨w, H', hc, sv', hw, _, ?_, hM'⟩
 rw [List.map_set, hv, List.set_set]
 show s.ms.set p (y.k, (Iw s.st (BB y.k)).2.1) = s.ms.set p (Ci s p, GC s p)
 rw [hyk]; rfl
theorem eY (H : Heap) (s : St) (rv mv ev sv : V) (xs : List MR) (ha : Da H rv mv ev sv xs s) (hf : s.Fit) (pick : Int) :
  ∃ w H', Call Tryz.prog 35 [.agg (stC s.c rv mv ev sv), .int .i64 pick] H w H' ∧ KD H (doR s pick) w H' := by
 obtain ⟨z1, z2, z3, z4⟩ := ha.Ga
 have hle := ha.es.len T29 rfl
 have hlm := ha.ms.len T28 rfl
 rw [ha.len] at hlm
 have hel := hf.es
 refine Ao fit mixed Tryz.func35 rfl rfl rfl (by kernel_rfl) fun hM => ?_
 refine AO (AK ?_)
 refine Ax T32 fun b1 H1 hM => ?_
 refine Aj (cs := Au) T32 rfl fun b2 H2 hM => ?_
 have c1 := GM H2 s rv mv ev sv xs (ha.mono hM.pre) hf
 have we : IntKind.i64.wrap ((s.es.length : Int) + 4) = (s.es.length : Int) + 4 := wrap_i64 (by omega) (by omega)
 have bad : ∀ {H3 L}, Mem H H3 L → ∀ e, doR s pick = (DN, e) → KD H (doR s pick) (.tup [.agg Au, .int .i64 e]) H3 := fun {H3 L} hM e he => by
  rw [he]
  exact ⟨⟨.AN, .AN, .AN, .AN, [], []⟩, rfl, ZF, (Ue H3).Yt hM.pre⟩
 have hdoc := YL s pick
 by_cases hok : Lt s pick = true
 ·obtain ⟨hst, hroom, p, o, rfl, ho⟩ := KK hok
  have hp := (List.getElem?_eq_some_iff.1 ho).1
  rw [RL hst] at c1
  have g1 : decide ((p : Int) < 0) = false := decide_eq_false (by omega)
  have g2 : decide ((p : Int) ≥ (s.ms.length : Int)) = false := decide_eq_false (by omega)
  have he : decide ((s.es.length : Int) + 4 > 1024) = false := decide_eq_false (by omega)
  have hc := hst.c
  obtain ⟨⟨hm2, hm8⟩, _, ⟨hs0, hs1⟩, ⟨hT1, hT2⟩, hI1, hI2⟩ := AX hc
  have hpm : (p : Int) < s.c.m := by have := hst.len; omega
  have hof := hst.fits o (List.mem_of_getElem? ho)
  have htot := hst.tot o (List.mem_of_getElem? ho)
  refine goM ?_
  refine AA c1 ?_
  refine goM ?_
  refine Aj (cs := Cj) T26 rfl fun b6 H3 hM => ?_
  refine AM T26 fun H4 hM => ?_
  refine goM ?_
  obtain ⟨_, H5, c2, u, mv1, ev1, sv1, rvs, ys, rfl, hlk, hval, m1⟩ := Kv H4 s rv mv ev sv xs (ha.mono hM.pre) hf
  refine AA c2 ?_
  have hat := Tb (L := []) (by simpa using m1) hlk hval
  obtain ⟨q1, q2, q3, q4⟩ := hat.Ga
  obtain ⟨y, hy, hyv⟩ := Hk hval ho
  obtain ⟨cb, co, hi, _⟩ := EM hat.ms hy
  replace hM : Mem H H5 (Cz u mv1 ev1 sv1 rvs ys s ++ _) := hM.call m1
  clear c1 c2 m1 hat
  unfold Cz at hM
  simp only [List.cons_append, List.nil_append] at hM
  refine goM ?_
  refine Aj (cs := Au) T32 rfl fun b7 H6 hM => ?_
  refine AM T32 fun H7 hM => ?_
  obtain ⟨l0, _, _, _⟩ := Fj (hM.sl (v := mv1) (xs := ys) hsG) hi hy
  have hka := GH (hM.fact (F := pack (Bn ys)) hsG) y (List.mem_of_getElem? hy)
  have hyk : y.k = o.1 := congrArg Prod.fst hyv
  have hyh : y.h = o.2 := congrArg Prod.snd hyv
  have hms : (DB s.ms p).2 = o.2 := by rw [Ep ho]
  have hml : p < ys.length := (List.getElem?_eq_some_iff.1 hy).1
  obtain ⟨yw, yv, yk, yh⟩ := y
  simp only at hyk hyh l0 hka
  subst hyk
  subst hyh
  have t1 := hka.ws.cells
  have t2 := hka.vs.cells
  obtain ⟨a, b, H8, c4, m2⟩ := XY H7 s.c rv yw yv p o.1 (ha.rows.mono hM.pre) hka hf.c (Di hof)
  have t3 := (m2.sl .here).cells
  have t4 := (m2.sl (.there .here)).cells
  by_cases ht : o.1.t = s.c.total
  ·have hr := NN hst ho ht hroom
   rw [Ja hc (by omega) hof (by omega)] at c4 m2
   simp only at c4 m2
   have hend := fun {H3 L} h3 => bad (H3 := H3) (L := L) h3 2301 hr
   clear bad hok hst ha ho hr hdoc
   refine goM ?_
   refine Be c4 (.inl m2.pre) ?_
   replace hM := hM.call2 m2
   clear c4 m2 l0 hka
   refine goM ?_
   refine IZ (cs := Ay) T82 rfl fun b8 H9 hM => ?_
   refine DT T82 fun H10 hM => ?_
   refine goM ?_
   refine AM T32 fun H11 hM => ?_
   refine goM ?_
   exact An (hend hM)
  ·have pk : EN s p o := ⟨hst, ho, ht, hroom⟩
   have hi0 : (s.c.interval = 0) = False := eq_false (by omega)
   have hgo : Cs s.c p o.1 = (AP s p, 0) := by rw [Dx ho]; exact IM hc (by omega) hof (by omega)
   rw [hgo] at c4 m2
   simp only at c4 m2
   obtain ⟨tr1, tr2, tr3, tr4, _⟩ := HW hst ho ht
   obtain ⟨hk, w1, w2, w3, w4⟩ := cU (p := p) (t := (AP s p).t) (by omega) (by omega)
   clear tr1 tr2 tr3 tr4 hdoc bad hok
   refine goM ?_
   refine Be c4 (.inl m2.pre) ?_
   replace hM := hM.call2 m2
   clear c4 m2 l0 hka
   refine goM ?_
   refine IZ (cs := Ay) T82 rfl fun b8 H9 hM => ?_
   refine DT T82 fun H10 hM => ?_
   obtain ⟨H11, st7, hM7⟩ := Fy hM (u := mv1) (ys := ys) hsG hy hi 0 T82 (by decide) (w := .agg (kC a b (AP s p))) (y' := ⟨a, b, AP s p, o.2⟩) rfl rfl rfl
   rw [Nat.add_zero] at st7
   refine goM ?_
   refine Dc st7 ?_
   clear st7 hM
   have h6 := ((hM7.front (r := .ro (pack (Bn ys))) tkG).front (r := .own 1 AH b (AP s p).vs) tkG).front (r := .own 1 AH a (AP s p).ws) tkG
   have hM := h6.Vt (y := ⟨a, b, AP s p, o.2⟩) hml
   clear h6 hM7
   have hv1 : (ys.set p ⟨a, b, AP s p, o.2⟩).map MR.val = ms1 s p := by
    rw [List.map_set, hval]; unfold ms1; rw [hms]; rfl
   have hy1 : (ys.set p ⟨a, b, AP s p, o.2⟩)[p]? = some ⟨a, b, AP s p, o.2⟩ := List.getElem?_set_self hml
   replace hml : p < (ys.set p ⟨a, b, AP s p, o.2⟩).length := by rw [List.length_set]; exact hml
   generalize ys.set p ⟨a, b, AP s p, o.2⟩ = ys1 at *
   refine goM ?_
   refine Aa evC [⟨0, p, 0, 0, 0, 0⟩] (evV ⟨0, p, 0, 0, 0, 0⟩) T29 rfl GY rfl (Kq _) (by decide) fun e1 H12 hM => ?_
   refine goM ?_
   refine Bg (hM.sl .here) (xs := s.es) (hh := by (repeat (first | exact Has.here | apply Has.there))) (hb := by simp only [List.length_cons, List.length_nil]; show (s.es.length + 1) * 48 ≤ _ ∧ s.es.length + 1 ≤ _; omega) fun ev2 H13 hM => ?_
   have g3 := (hM.sl (v := ev2) (xs := s.es ++ [⟨0, p, 0, 0, 0, 0⟩]) hsG).cells
   refine goM ?_
   refine AM T29 fun H14 hM => ?_
   have h1 := ((hM.front (r := .ro (pack (Bl u rvs s.c.rows))) tkG).front (r := .ro (pack (Bn ys1))) tkG).front (r := .own 3 BE sv1 s.st) tkG
   have h2 := (h1.front (r := .own 6 evC ev2 (s.es ++ [⟨0, p, 0, 0, 0, 0⟩])) tkG).front (r := .own 6 mrC mv1 ys1) tkG
   replace hM : Mem H H14 (spR u mv1 ev2 sv1 rvs ys1 s.c (es1 s p) s.st [.box b8 (kC a b (AP s p)), .box b7 (stC s.c u mv1 ev2 sv1), .box b6 (BJ s.c rv), .box b2 Au]) := h2.sub sbG
   clear h1 h2
   have hdone : ∀ {H9 : Heap} {sv3 ev3 : V} {ys3 : List MR} {L : List Res}, ys3.map MR.val = (doS s p).ms → Mem H H9 (spR u mv1 ev3 sv3 rvs ys3 s.c (es2 s p) (st2 s p) L) → KD H (doR s (p : Int)) (.tup [.agg (stC s.c u mv1 ev3 sv3), .int .i64 0]) H9 := fun {H9 sv3 ev3 ys3 L} hv3 hM => by
    rw [Nr pk]
    have h1 := ((hM.front (r := .own 3 BE sv3 (st2 s p)) tkG).front (r := .own 6 evC ev3 (es2 s p)) tkG).front (r := .own 6 mrC mv1 ys3) tkG
    have h2 := (h1.front (r := .ro (pack (Bn ys3))) tkG).front (r := .ro (pack (Bl u rvs s.c.rows))) tkG
    exact ⟨⟨u, mv1, ev3, sv3, rvs, ys3⟩, rfl, ⟨hlk, hv3⟩, Mem.svN (s := doS s p) (h2.sub (by unfold Cz; (repeat (first | exact List.Sublist.slnil | exact List.Sublist.refl _ | refine List.Sublist.cons_cons _ ?_ | refine List.Sublist.cons _ ?_)) <;> exact List.nil_sublist _))⟩
   by_cases hrem : (AP s p).t.tmod s.c.interval = 0
   ·have hqr : ((AP s p).t.tmod s.c.interval == 0) = true := by rw [hrem]; rfl
    have hsn : ((s.c.seed.toNat : Nat) : Int) = s.c.seed := Int.toNat_of_nonneg hs0
    have hc1 : Call Tryz.prog 73 [.int .i64 s.c.seed, .int .i64 ((atN p (AP s p).t : Nat) : Int)] H14 (.tup [.int .i64 (Db s.c.seed.toNat (atN p (AP s p).t) : Nat), .int .i64 0]) H14 := by
     have := OX H14 s.c.seed.toNat (atN p (AP s p).t) (by omega) (by omega)
     rw [hsn] at this
     exact this
    have hat : Da H14 u mv1 ev2 sv1 ys1 (s1_ s p) := ⟨DL (hM.fact (F := pack (Bl u rvs s.c.rows)) hsG) hlk, hM.sl (v := mv1) (xs := ys1) hsG, hv1, GH (hM.fact (F := pack (Bn ys1)) hsG), hM.sl (v := ev2) (xs := es1 s p) hsG, hM.sl (v := sv1) (xs := s.st) hsG⟩
    obtain ⟨sc, H15, hc2, m1⟩ := TQ H14 (s1_ s p) u mv1 ev2 sv1 ys1 hat (Zc pk hf)
    have hsl : (FI (s1_ s p)).length ≤ 2 ^ 47 := by
     unfold FI s1_ ms1
     rw [List.length_map, List.length_set]
     have := hf.ms
     omega
    have hc3 := XU H15 sc (FI (s1_ s p)) p s.c.cutn (Db s.c.seed.toNat (atN p (AP s p).t)) (m1.sl .here) hsl
    have hdd : Ew (FI (s1_ s p)) (p : Int) s.c.cutn (Db s.c.seed.toNat (atN p (AP s p).t) : Nat) = Cg s p := rfl
    rw [hdd] at hc3
    have hc2' : Call Tryz.prog 75 [.agg (stC s.c u mv1 ev2 sv1)] H14 sc H15 := hc2
    have sc1 := (m1.sl .here).cells
    clear hdd hsl hat hc2 hsn
    cases hd : (Cg s p).2.1 with
    | false =>
     have htk : DE s p = false := by unfold DE; rw [hd, Bool.and_false]
     have e1 : Ci s p = AP s p := by unfold Ci; rw [htk, if_neg (by decide)]
     have e2 : es2 s p = es1 s p := by unfold es2; rw [htk, if_neg (by decide)]
     rw [hd] at hc3
     have hM2 := hM.BH m1
     have h3 : Mem H H15 (spR u mv1 ev2 sv1 rvs ys1 s.c (es2 s p) s.st [.box b7 (stC s.c u mv1 ev2 sv1), .box b2 Au]) := by rw [e2]; exact hM2.sub sbG
     obtain ⟨_, H16, c7, sv3, rfl, ys3, hv3, hM3⟩ := Ke pk h3 ⟨q1, q2, g3, q4⟩ (by rw [e1]; exact hv1)
     have g4 := (hM3.sl (v := sv3) (xs := st2 s p) hsG).cells
     generalize atN p (AP s p).t = kk at *
     generalize Db s.c.seed.toNat kk = dd at *
     generalize (Cg s p).1 = d1 at *
     generalize (Cg s p).2.2 = d3 at *
     clear e1 e2 htk hd hrem hgo hy hy1
     refine goM ?_
     refine AA hc1 ?_
     refine goM ?_
     refine Be hc2' (.inl m1.pre) ?_
     clear hM
     have hM := hM2
     clear hM2
     refine goM ?_
     refine Be hc3 (.inl (List.prefix_refl _)) ?_
     refine goM ?_
     refine AA c7 ?_
     clear hM
     have hM := hM3
     clear hM3
     refine goM ?_
     refine AM T32 fun H17 hM => ?_
     refine goM ?_
     exact An (hdone hv3 hM)
    | true =>
     have htk : DE s p = true := by unfold DE; rw [hd, decide_eq_true hrem]; rfl
     obtain ⟨d, hdn, hds, hdp, hdm⟩ := JA hp htk
     have hdm1 : (ms1 s p)[d]? = some (DB (ms1 s p) d) := by rw [Hg hp, if_neg hdp]; exact hdm
     obtain ⟨z, hz, hzv⟩ := Hk hv1 hdm1
     have hzk : z.k = Iu s p := by unfold Iu; rw [hdn, Int.toNat_natCast]; exact congrArg Prod.fst hzv
     have hzf : BW s.c z.k = true := by rw [show z.k = (DB (ms1 s p) d).1 from congrArg Prod.fst hzv]; exact ON hst ho ht (List.mem_of_getElem? hdm1)
     have hzc : Chk.Fit z.k := Di hzf
     have hzy : BK z.k.r z.k.m = true := by
      unfold BW BI at hzf
      rw [Bool.and_eq_true] at hzf
      exact (Bo hzf.1).2.2.2.2.1
     have e2 : es2 s p = (es1 s p ++ [⟨1, p, d, (BD (es1 s p) d : Nat), 0, 0⟩]) ++ [⟨2, p, 0, 0, (Ek s p).1, (Ek s p).2⟩] := by
      unfold es2; rw [htk, if_pos rfl, hdn, List.append_assoc]; rfl
     have e1 : Ci s p = ⟨z.k.ws, z.k.vs, (Ek s p).1, (Ek s p).2, (AP s p).t⟩ := by
      unfold Ci; rw [htk, if_pos rfl, hzk]
     have e3 : Ek s p = FL s.c z.k.r z.k.m (atN p (AP s p).t) := by unfold Ek; rw [hzk]
     rw [hd, hdn] at hc3
     have hel1 : (es1 s p).length ≤ 1024 := by unfold es1; rw [List.length_append, List.length_singleton]; omega
     generalize hkk : atN p (AP s p).t = kk at *
     generalize Db s.c.seed.toNat kk = dd at *
     generalize (Cg s p).2.2 = d3 at *
     generalize hes : es1 s p = es at *
     have hc5 := fun h => XZ h s.c rv z.k.r z.k.m kk z1 hc hzy (by omega)
     rw [← e3] at hc5
     generalize Ek s p = hy2 at *
     obtain ⟨ra, mo⟩ := hy2
     simp only at hc5 e1 e2
     have hka := GH (hM.fact (F := pack (Bn ys1)) hsG) z (List.mem_of_getElem? hz)
     obtain ⟨bz, oz, hiz, _, lz, _⟩ := EM ((hM.BH m1).sl (v := mv1) (xs := ys1) hsG) hz
     obtain ⟨zw, zv, zk, zh⟩ := z
     simp only at hka hzf hzc hzy lz e1 hc5
     have t5 := hka.ws.cells
     have t6 := hka.vs.cells
     obtain ⟨_, H16, hc4, a2, b2', rfl, m2⟩ := Ku H15 zw zv zk (hka.mono m1.pre) hzc
     have s3 := (m2.sl .here).cells
     have s4 := (m2.sl (.there .here)).cells
     clear e3 hdm hdm1 hd hdn hzk hzf hzy hgo hrem hy hes
     refine goM ?_
     refine AA hc1 ?_
     refine goM ?_
     refine Be hc2' (.inl m1.pre) ?_
     replace hM := hM.BH m1
     refine goM ?_
     refine Be hc3 (.inl (List.prefix_refl _)) ?_
     refine goM ?_
     refine AA hc4 ?_
     replace hM := hM.call2 m2
     clear hc1 hc2' hc3 hc4 m1 m2 lz hka
     refine goM ?_
     refine Aj (cs := Ay) T82 rfl fun b16 H17 hM => ?_
     refine AM T82 fun H18 hM => ?_
     refine goM ?_
     refine AM T3 fun H19 hM => ?_
     refine goM ?_
     refine AA (hc5 _) ?_
     refine goM ?_
     refine AM T80 fun H20 hM => ?_
     refine goM ?_
     have hcm := Vp H20 ev2 es (d : Int) (hM.sl (v := ev2) (xs := es) hsG) (by omega)
     refine AI hcm ?_
     clear hcm
     refine goM ?_
     refine SD evC [⟨1, p, d, (BD es d : Nat), 0, 0⟩] (evV ⟨1, p, d, (BD es d : Nat), 0, 0⟩) T29 rfl GY rfl (Kq _) (by decide) fun e5 H21 hM => ?_
     refine goM ?_
     refine YI (hM.sl .here) (xs := es) (hh := by (repeat (first | exact Has.here | apply Has.there))) (hb := by simp only [List.length_cons, List.length_nil]; show (es.length + 1) * 48 ≤ _ ∧ es.length + 1 ≤ _; omega) fun ev3 H22 hM => ?_
     have g5 := (hM.sl (v := ev3) (xs := es ++ [⟨1, p, d, (BD es d : Nat), 0, 0⟩]) hsG).cells
     refine goM ?_
     refine DT T29 fun H23 hM => ?_
     refine goM ?_
     refine Aa evC [⟨2, p, 0, 0, ra, mo⟩] (evV ⟨2, p, 0, 0, ra, mo⟩) T29 rfl GY rfl (Kq _) (by decide) fun e6 H24 hM => ?_
     refine goM ?_
     refine Bg (hM.sl .here) (xs := es ++ [⟨1, p, d, (BD es d : Nat), 0, 0⟩]) (hh := by (repeat (first | exact Has.here | apply Has.there))) (hb := by simp only [List.length_append, List.length_cons, List.length_nil]; show (es.length + 1 + 1) * 48 ≤ _ ∧ es.length + 1 + 1 ≤ _; omega) fun ev4 H25 hM => ?_
     have g6 := (hM.sl (v := ev4) (xs := (es ++ [⟨1, p, d, (BD es d : Nat), 0, 0⟩]) ++ [⟨2, p, 0, 0, ra, mo⟩]) hsG).cells
     refine goM ?_
     refine AM T29 fun H26 hM => ?_
     obtain ⟨H27, st8, hM8⟩ := Fy hM (u := mv1) (ys := ys1) hsG hy1 hi 0 T82 (by decide) (w := .agg (kC a2 b2' ⟨zk.ws, zk.vs, ra, mo, (AP s p).t⟩)) (y' := ⟨a2, b2', ⟨zk.ws, zk.vs, ra, mo, (AP s p).t⟩, o.2⟩) rfl rfl rfl
     rw [Nat.add_zero] at st8
     refine goM ?_
     refine Dc st8 ?_
     clear st8 hM
     have h6 := ((hM8.front (r := .ro (pack (Bn ys1))) tkG).front (r := .own 1 AH b2' zk.vs) tkG).front (r := .own 1 AH a2 zk.ws) tkG
     have h7 := h6.Vt (y := ⟨a2, b2', ⟨zk.ws, zk.vs, ra, mo, (AP s p).t⟩, o.2⟩) hml
     have h8 := ((h7.front (r := .ro (pack (Bl u rvs s.c.rows))) tkG).front (r := .ro (pack (Bn (ys1.set p ⟨a2, b2', ⟨zk.ws, zk.vs, ra, mo, (AP s p).t⟩, o.2⟩)))) tkG).front (r := .own 3 BE sv1 s.st) tkG
     have h9 := (h8.front (r := .own 6 evC ev4 ((es ++ [⟨1, p, d, (BD es d : Nat), 0, 0⟩]) ++ [⟨2, p, 0, 0, ra, mo⟩])) tkG).front (r := .own 6 mrC mv1 (ys1.set p ⟨a2, b2', ⟨zk.ws, zk.vs, ra, mo, (AP s p).t⟩, o.2⟩)) tkG
     have hM : Mem H H27 (spR u mv1 ev4 sv1 rvs (ys1.set p ⟨a2, b2', ⟨zk.ws, zk.vs, ra, mo, (AP s p).t⟩, o.2⟩) s.c (es2 s p) s.st [.box b7 (stC s.c u mv1 ev4 sv1), .box b2 Au]) := by rw [e2]; exact h9.sub sbG
     clear h6 h7 h8 h9 hM8
     obtain ⟨_, H28, c7, sv3, rfl, ys3, hv3, hM3⟩ := Ke pk hM ⟨q1, q2, g6, q4⟩ (by
      rw [e1, List.map_set, hv1, Vs, hms]; rfl)
     have g4 := (hM3.sl (v := sv3) (xs := st2 s p) hsG).cells
     clear e1 e2 hv1 hval hyv hlk hy1
     refine goM ?_
     refine AA c7 ?_
     clear hM c7
     have hM := hM3
     clear hM3
     refine goM ?_
     refine AM T32 fun H29 hM => ?_
     refine goM ?_
     exact An (hdone hv3 hM)
   ·have hqr : ((AP s p).t.tmod s.c.interval == 0) = false := by simpa using hrem
    have htk : DE s p = false := by unfold DE; rw [decide_eq_false hrem, Bool.false_and]
    have e1 : Ci s p = AP s p := by unfold Ci; rw [htk, if_neg (by decide)]
    have e2 : es2 s p = es1 s p := by unfold es2; rw [htk, if_neg (by decide)]
    obtain ⟨_, H16, c7, sv3, rfl, ys3, hv3, hM3⟩ := Ke pk (by rw [e2]; exact hM) ⟨q1, q2, g3, q4⟩ (by rw [e1]; exact hv1)
    have g4 := (hM3.sl (v := sv3) (xs := st2 s p) hsG).cells
    clear e1 e2 htk hrem hgo hy hy1
    refine goM ?_
    refine AA c7 ?_
    clear hM c7
    have hM := hM3
    clear hM3
    refine goM ?_
    refine AM T32 fun H17 hM => ?_
    refine goM ?_
    exact An (hdone hv3 hM)
 ·have hr : doR s pick = (DN, 2300) := by unfold doR; rw [if_neg hok]
  have hend := fun {H3 L} h3 => bad (H3 := H3) (L := L) h3 2300 hr
  have hok' : Lt s pick = false := by simpa using hok
  rw [hdoc] at hok'
  clear bad hr hok hdoc
  obtain ⟨q1, e1⟩ : ∃ q, BZ s = q := ⟨_, rfl⟩
  obtain ⟨q2, e2⟩ : ∃ q, decide (pick < 0) = q := ⟨_, rfl⟩
  obtain ⟨q3, e3⟩ : ∃ q, decide (pick ≥ (s.ms.length : Int)) = q := ⟨_, rfl⟩
  obtain ⟨q4, e4⟩ : ∃ q, decide ((s.es.length : Int) + 4 > 1024) = q := ⟨_, rfl⟩
  rw [e1] at c1 hok'
  rw [e2, e3, e4] at hok'
  clear e1 ha
  cases q1 with
  | false =>
   clear hok' we
   refine goM ?_
   refine AA c1 ?_
   refine goM ?_
   refine AM T32 fun H3 hM => ?_
   refine goM ?_
   exact An (hend hM)
  | true =>
   cases q2 with
   | true =>
    clear hok' we
    refine goM ?_
    refine AA c1 ?_
    refine goM ?_
    refine AM T32 fun H3 hM => ?_
    refine goM ?_
    exact An (hend hM)
   | false =>
    cases q3 with
    | true =>
     clear hok' we
     refine goM ?_
     refine AA c1 ?_
     refine goM ?_
     refine AM T32 fun H3 hM => ?_
     refine goM ?_
     exact An (hend hM)
    | false =>
     have e5 : q4 = true := by simpa using hok'
     subst e5
     clear hok'
     refine goM ?_
     refine AA c1 ?_
     refine goM ?_
     refine AM T32 fun H3 hM => ?_
     refine goM ?_
     exact An (hend hM)
theorem ZT {K : Heap} {D : Type} {vs : List V} {d : DataW D} (h : Rd T K 119 vs d) : ∃ e : Ev, vs = evV e := by
 obtain ⟨hl, hf⟩ := h.field GY rfl
 replace hl : vs.length = 6 := hl
 obtain ⟨x0, h0⟩ := hf 0 _ _ rfl T3
 obtain ⟨x1, h1⟩ := hf 1 _ _ rfl T3
 obtain ⟨x2, h2⟩ := hf 2 _ _ rfl T3
 obtain ⟨x3, h3⟩ := hf 3 _ _ rfl T3
 obtain ⟨x4, h4⟩ := hf 4 _ _ rfl T80
 obtain ⟨n0, e0, _⟩ := h0.isInt T3 rfl
 obtain ⟨n1, e1, _⟩ := h1.isInt T3 rfl
 obtain ⟨n2, e2, _⟩ := h2.isInt T3 rfl
 obtain ⟨n3, e3, _⟩ := h3.isInt T3 rfl
 obtain ⟨n4, n5, e4⟩ := TJ h4
 match vs, hl, e0, e1, e2, e3, e4 with
 | [a, b, c, e, f, g], _, e0, e1, e2, e3, e4 =>
  simp at e0 e1 e2 e3 e4
  obtain ⟨rfl, rfl⟩ := e4
  subst e0; subst e1; subst e2; subst e3
  exact ⟨⟨n0, n1, n2, n3, n4, n5⟩, rfl⟩
theorem XS {K : Heap} {D : Type} {v : V} {d : DataW D} (h : RdV T K 29 v d) : ∃ es : List Ev, Sl 6 evC K v es ∧ es.length * 48 ≤ 140737488351232 :=
 (h.plain T29 rfl).isSlice T29 rfl GY fun cs x hx => ZT hx
def ZS (K : Heap) (cs : List V) (x : MR) : Prop := cs = mC x.w x.v x.k x.h ∧ KAt K x.w x.v x.k ∧ x.k.Fit
theorem Up {K : Heap} {D : Type} {vs : List V} {d : DataW D} (hr : Rd T K 84 vs d) : ∃ x : MR, ZS K vs x := by
 obtain ⟨hl, hf⟩ := hr.field T84 rfl
 replace hl : vs.length = 6 := hl
 obtain ⟨x0, h0⟩ := hf 0 _ _ rfl T82
 obtain ⟨x1, h1⟩ := hf 1 _ _ rfl T3
 obtain ⟨n1, e1, _⟩ := h1.isInt T3 rfl
 obtain ⟨w, u, k, e0, hk, hf'⟩ := PT h0
 match vs, hl, e0, e1 with
 | [a, b, c, e, f, g], _, e0, e1 =>
  simp at e0 e1
  obtain ⟨rfl, rfl, rfl, rfl, rfl⟩ := e0
  subst e1
  exact ⟨⟨a, b, k, n1⟩, rfl, hk, hf'⟩
theorem Uo {K : Heap} {D : Type} {v : V} {d : DataW D} (h : RdV T K 28 v d) : ∃ xs : List MR, Sl 6 mrC K v xs ∧ xs.length * 80 ≤ 140737488351232 ∧ ∀ x ∈ xs, KAt K x.w x.v x.k ∧ x.k.Fit := by
 obtain ⟨xs, h1, h2⟩ := (h.plain T28 rfl).isSlice (R := ZS K) T28 rfl T84 fun cs x hx => Up hx
 have h3 := h1.all (Q := fun p => KAt K p.w p.v p.k ∧ p.k.Fit) fun cs x hx => hx.2
 have h4 := h1.map (R' := mrC) (fun p => p) fun cs x hx => (show mrC cs x from hx.1)
 rw [List.map_id'] at h4
 exact ⟨xs, h4, Nat.le_trans h2 (by decide), h3⟩
theorem ZU {K : Heap} {D : Type} {v : V} {d : DataW D} (h : RdV T K 32 v d) : ∃ s rv mv ev sv xs, v = .agg (stC s.c rv mv ev sv) ∧ Da K rv mv ev sv xs s ∧ s.Fit := by
 obtain ⟨vs, rfl, hr⟩ := h.agg T32 rfl
 obtain ⟨hl, hf⟩ := hr.field T32 rfl
 replace hl : vs.length = 12 := hl
 obtain ⟨x0, h0⟩ := hf 0 _ _ rfl T26
 obtain ⟨x1, h1⟩ := hf 1 _ _ rfl T28
 obtain ⟨x2, h2⟩ := hf 2 _ _ rfl T29
 obtain ⟨x3, h3⟩ := hf 3 _ _ rfl T30
 obtain ⟨c, rv, e0, hrows, cf⟩ := XR ⟨_, T26, .inl ⟨rfl, _, rfl, h0⟩⟩
 match vs, hl, e0, h1, h2, h3 with
 | [a0, a1, a2, a3, a4, a5, a6, a7, a8, a9, a10, a11], _, e0, h1, h2, h3 =>
  obtain ⟨xs, m1, m2, m3⟩ := Uo ⟨_, T28, .inr ⟨rfl, h1⟩⟩
  obtain ⟨es, q1, q2⟩ := XS ⟨_, T29, .inr ⟨rfl, h2⟩⟩
  obtain ⟨st, r1, r2⟩ := bP ⟨_, T30, .inr ⟨rfl, h3⟩⟩
  simp at e0
  obtain ⟨rfl, rfl, rfl, rfl, rfl, rfl, rfl, rfl, rfl⟩ := e0
  refine ⟨⟨c, xs.map MR.val, es, st⟩, a3, a9, a10, a11, xs, rfl, ⟨hrows, m1, rfl, fun x hx => (m3 x hx).1, q1, r1⟩, cf, by rw [List.length_map]; exact m2, fun m hm => ?_, q2, Nat.le_trans r2 (by decide)⟩
  obtain ⟨x, hx, rfl⟩ := List.mem_map.1 hm
  exact (m3 x hx).2
theorem dS {s a : St} {pick e : Int} (h : doR s pick = (a, e)) (H : Heap) {rv mv ev sv : V} {xs : List MR} (ha : Da H rv mv ev sv xs s) (hf : s.Fit) :
  ∃ w H', Call Tryz.prog 35 [.agg (stC s.c rv mv ev sv), .int .i64 pick] H w H' ∧ ∃ q : SV, w = .tup [.agg (q.c a), .int .i64 e] ∧ q.Ok a ∧ Mem H H' [q.own a] := by
 have := eY H s rv mv ev sv xs ha hf pick
 rw [h] at this
 exact this
theorem dC {c : Cfg} {a : St} {e : Int} (h : Gy c = (a, e)) (H : Heap) (rv : V) (hr : Rows H rv c.rows) (hf : c.Fit) : ∃ w H', Call Tryz.prog 34 [.agg (BJ c rv)] H w H' ∧ ∃ q : SV, w = .tup [.agg (q.c a), .int .i64 e] ∧ q.Ok a ∧ Mem H H' [q.own a] := by
 have := gF H c rv hr hf
 rw [h] at this
 exact this
theorem Za (c : Cfg) : GA c [] = some (FX c) := rfl
def Ir (s : St) : Bool := s.ms.all fun m => decide (m.1.t = s.c.total)
def Hn (s : St) : Bool × Int := if BZ s = true then (Ir s, 0) else (false, 2500)
theorem Wc {s : St} (h : It s) : Ir s = s.ms.all fun m => !decide (m.1.t < s.c.total) := by
 unfold Ir
 rw [Bool.eq_iff_iff, List.all_eq_true, List.all_eq_true]
 constructor
 ·intro g m hm
  have := of_decide_eq_true (g m hm)
  simp; omega
 ·intro g m hm
  have := g m hm
  have := h.tot m hm
  simp at *; omega
def Gw (s : St) : St × Int := if BZ s = true then (PA s, 0) else (DN, 2500)
theorem gK (H : Heap) (c : Cfg) (rv pv : V) (ps : List Int) (hr : Rows H rv c.rows) (cf : c.Fit) (hp : Sl 1 AH H pv ps) (hl : ps.length ≤ 2 ^ 47) :
  ∃ w H', Call Tryz.prog 18 [.agg (BJ c rv), pv] H w H' ∧ KD H (FH c ps) w H' := by
 have s0 : rv.cells = [rv] ∧ rv.isTup = false := by obtain ⟨_, h, _⟩ := hr; exact h.cells
 have hlen := hp.len T27 rfl
 obtain ⟨n, hn⟩ : ∃ n, ps.length = n := ⟨_, rfl⟩
 rw [hn] at hlen
 refine Ao fit mixed Tryz.func18 rfl rfl rfl (by kernel_rfl) fun hM => ?_
 refine AO (AK ?_)
 refine Ax T26 fun b2 H1 hM => ?_
 refine Aj (cs := Au) T32 rfl fun b4 H2 hM => ?_
 cases hc : Al c with
 | false =>
  have hn := Sy hc
  have hbad := Lb (ps := ps) (show JS c ps = false by unfold JS; rw [hc]; rfl)
  refine goM ?_
  obtain ⟨_, H3, c1, q, rfl, k1, m1⟩ := dC hn H2 rv (hr.mono hM.pre) cf
  refine AA c1 ?_
  replace hM := hM.BH m1
  clear c1 m1 hn hc
  refine goM ?_
  refine Aj (cs := Au) T32 rfl fun b6 H4 hM => ?_
  refine AM T32 fun H5 hM => ?_
  refine goM ?_
  refine AM T32 fun H6 hM => ?_
  refine goM ?_
  exact An (Eu hM hbad)
 | true =>
  have hne := Sx hc
  have nf := Sw cf
  rw [hne] at nf
  simp only at nf
  refine goM ?_
  obtain ⟨_, H3, c1, q, rfl, k1, m1⟩ := dC hne H2 rv (hr.mono hM.pre) cf
  refine AA c1 ?_
  replace hM := hM.BH m1
  clear c1 m1 hne
  refine goM ?_
  refine Aj (cs := Au) T32 rfl fun b6 H4 hM => ?_
  refine AM T32 fun H5 hM => ?_
  by_cases h256 : n ≤ 256
  ·have d1 : decide ((n : Int) > 256) = false := decide_eq_false (by omega)
   have hok := TR hc (ps := ps) (by omega)
   have hrn : ∀ {s}, GA c ps = some s → FH c ps = (s, 0) := fun h => by unfold FH; rw [hok, if_pos rfl, h]
   have hrx : GA c ps = none → FH c ps = (DN, 2501) := fun h => by unfold FH; rw [hok, if_pos rfl, h]
   have hM0 : Mem H H5 [.box b6 (q.c (FX c)), q.own (FX c), .box b4 Au] := hM.Ea
   have hr0 := GU hc
   clear hok
   refine goM ?_
   refine AT (fun cc ρ h => ∃ (k : Nat) (s : St) (q : SV), k ≤ n ∧ cc = n - k ∧ GA c (ps.take k) = some s ∧ DO c s ∧ s.Fit ∧ q.Ok s ∧ Mem H h [.box b6 (q.c s), q.own s, .box b4 Au] ∧ ρ 1 = pv ∧ ρ 4 = .ptr b4 0 ∧ ρ 6 = .ptr b6 0 ∧ ρ 8 = .int .i64 (k : Int)) ⟨0, FX c, q, Nat.zero_le _, rfl, rfl, hr0, nf, k1, hM0, by simp [AD, AB, BT, *]⟩ ?_
   repeat clear hM
   clear hM0 hr0 nf k1 d1
   rintro _ ρ h ⟨k, s, q, hk, rfl, hrk, hrs, sf, hq, hM, g1, g4, g6, g8⟩
   refine goM ?_
   refine AE (fun hb => ?_) (fun hb => ?_)
   ·have hk' : k < n := by simpa using hb
    clear hb
    obtain ⟨x, hx⟩ : ∃ x, ps[k]? = some x := ⟨ps[k]'(by omega), by simp⟩
    obtain ⟨bo, oo, _, ji, rfl, _, jlo, _⟩ := (hp.mono hM.pre).get T27 rfl T3 rfl hx
    have jl := AF T3 rfl jlo
    have hw := AG (n := k) (by omega)
    have hstep := QJ (c := c) hx
    rw [hrk, Option.bind_some] at hstep
    clear jlo hx hrk
    rcases En hrs x with ⟨p, o, rfl, pk, hd, hs⟩ | ⟨p, o, rfl, _, _, hd, hs⟩ | ⟨_, hd, hs⟩
    ·rw [hs] at hstep
     have hrs2 := JT hrs pk
     have sf2 := UI pk sf
     clear pk hs
     generalize doS s p = s2 at *
     refine goM ?_
     obtain ⟨_, H6, c1, q2, rfl, k2, m1⟩ := dS hd h (hq.at_ hM) sf
     refine Be c1 (.inl m1.pre) ?_
     replace hM := hM.BH m1
     clear c1 m1 hd
     refine goM ?_
     refine IZ (cs := Au) T32 rfl fun b10 H7 hM => ?_
     refine DT T32 fun H8 hM => ?_
     refine goM ?_
     refine AM T32 fun H9 hM => ?_
     refine goM ?_
     exact ⟨n - (k + 1), by omega, k + 1, s2, q2, hk', rfl, hstep, hrs2, sf2, k2, ((hM.front (r := q2.own s2) tkG).front (r := .box b6 (q2.c s2)) tkG).sub sbG, by simp [AD, AB, *]⟩
    ·rw [hs] at hstep
     clear hs
     refine goM ?_
     obtain ⟨_, H6, c1, q2, rfl, k2, m1⟩ := dS hd h (hq.at_ hM) sf
     refine Be c1 (.inl m1.pre) ?_
     replace hM := hM.BH m1
     clear c1 m1 hd
     refine goM ?_
     refine IZ (cs := Au) T32 rfl fun b10 H7 hM => ?_
     refine DT T32 fun H8 hM => ?_
     refine goM ?_
     exact ⟨n - (k + 1), by omega, k + 1, s, q, hk', rfl, hstep, hrs, sf, hq, hM.Ea, by simp [AD, AB, *]⟩
    ·rw [hs] at hstep
     have hno := hrx (QI hstep)
     clear hs hstep hrx
     refine goM ?_
     obtain ⟨_, H6, c1, q2, rfl, k2, m1⟩ := dS hd h (hq.at_ hM) sf
     refine Be c1 (.inl m1.pre) ?_
     replace hM := hM.BH m1
     clear c1 m1 hd
     refine goM ?_
     refine IZ (cs := Au) T32 rfl fun b10 H7 hM => ?_
     refine DT T32 fun H8 hM => ?_
     refine goM ?_
     refine AM T32 fun H9 hM => ?_
     refine goM ?_
     exact An (Eu hM hno)
   ·have hk' : k = n := by have : ¬ k < n := by simpa using hb
                           omega
    clear hb
    rw [List.take_of_length_le (by omega)] at hrk
    have hend := hrn hrk
    clear hrk hrx hk
    refine goM ?_
    refine AM T32 fun H6 hM => ?_
    refine goM ?_
    refine An ?_
    rw [hend]
    exact ⟨q, rfl, hq, hM.Ea⟩
  ·have d1 : decide ((n : Int) > 256) = true := decide_eq_true (by omega)
   have hbad := Lb (c := c) (ps := ps) (by unfold JS; rw [decide_eq_false (by omega), Bool.and_false])
   clear h256 hc
   refine goM ?_
   refine AM T32 fun H6 hM => ?_
   refine goM ?_
   exact An (Eu hM hbad)
theorem Ox {s : St} (h : BZ s = true) : Gw s = (PA s, 0) := by unfold Gw; rw [h, if_pos rfl]
theorem Oy {s : St} (h : BZ s = false) : Gw s = (DN, 2500) := by unfold Gw; rw [h, if_neg (by decide)]
theorem Lu {s : St} (h : BZ s = true) : Hn s = (Ir s, 0) := by unfold Hn; rw [h, if_pos rfl]
theorem Lv {s : St} (h : BZ s = false) : Hn s = (false, 2500) := by unfold Hn; rw [h, if_neg (by decide)]
theorem cF (H : Heap) (s : St) (rv mv ev sv : V) (xs : List MR) (ha : Da H rv mv ev sv xs s) (hf : s.Fit) :
  ∃ w H', Call Tryz.prog 23 [.agg (stC s.c rv mv ev sv)] H w H' ∧ KD H (Gw s) w H' := by
 obtain ⟨z1, z2, z3, z4⟩ := ha.Ga
 refine Ao fit mixed Tryz.func23 rfl rfl rfl (by kernel_rfl) fun hM => ?_
 refine AO (AK ?_)
 refine Ax T32 fun b1 H1 hM => ?_
 refine Aj (cs := Au) T32 rfl fun b2 H2 hM => ?_
 have c1 := Iz H2 s rv mv ev sv xs (ha.mono hM.pre) hf
 cases hm : BZ s with
 | false =>
  rw [hm] at c1
  have hbad := Oy hm
  clear hm
  refine goM ?_
  refine AA c1 ?_
  refine goM ?_
  refine AM T32 fun H3 hM => ?_
  refine goM ?_
  exact An (Eu hM hbad)
 | true =>
  rw [hm] at c1
  have hok := Eh hm
  have hres := Ox hm
  have hsl := hok.st.len
  obtain ⟨_, H3, c2, u, mv1, ev1, sv1, rvs, ys, rfl, hlk, hval, m1⟩ := Kt H2 s rv mv ev sv xs (ha.mono hM.pre) hf (by omega)
  have hat := Tb (L := []) (by simpa using m1) hlk hval
  obtain ⟨q1, q2, q3, q4⟩ := hat.Ga
  clear hm hat
  refine goM ?_
  refine AA c1 ?_
  refine goM ?_
  refine AA c2 ?_
  replace hM : Mem H H3 (Cz u mv1 ev1 sv1 rvs ys s ++ _) := hM.call m1
  clear c1 c2 m1
  unfold Cz at hM
  simp only [List.cons_append, List.nil_append] at hM
  refine goM ?_
  refine Aj (cs := Au) T32 rfl fun b4 H4 hM => ?_
  refine AM T32 fun H5 hM => ?_
  refine goM ?_
  obtain ⟨_, H6, c1, x, rfl, m1⟩ := Tj H5 sv1 s.st (hM.sl (v := sv1) (xs := s.st) hsG) (by omega)
  rw [IL hok.st] at c1 m1
  simp only at c1 m1
  have t1 := (m1.sl .here).cells
  refine AA c1 ?_
  replace hM := hM.BH m1
  clear c1 m1
  refine goM ?_
  refine AM T30 fun H7 hM => ?_
  refine goM ?_
  refine AM T32 fun H8 hM => ?_
  refine goM ?_
  refine An ?_
  rw [hres]
  have h1 := ((hM.front (r := .own 3 BE x (s.st.filter fun e => decide (e.n ≠ 0))) tkG).front (r := .own 6 evC ev1 s.es) tkG).front (r := .own 6 mrC mv1 ys) tkG
  have h2 := (h1.front (r := .ro (pack (Bn ys))) tkG).front (r := .ro (pack (Bl u rvs s.c.rows))) tkG
  exact ⟨⟨u, mv1, ev1, x, rvs, ys⟩, rfl, ⟨hlk, hval⟩, Mem.svN (s := PA s) (h2.sub (by unfold Cz; (repeat (first | exact List.Sublist.slnil | exact List.Sublist.refl _ | refine List.Sublist.cons_cons _ ?_ | refine List.Sublist.cons _ ?_))))⟩
theorem gR (H : Heap) (s : St) (rv mv ev sv : V) (xs : List MR) (ha : Da H rv mv ev sv xs s) (hf : s.Fit) :
  ∃ w H', Call Tryz.prog 24 [.agg (stC s.c rv mv ev sv)] H w H' ∧ KD H (Gw s) w H' := by
 obtain ⟨z1, z2, z3, z4⟩ := ha.Ga
 refine Ao fit mixed Tryz.func24 rfl rfl rfl (by kernel_rfl) fun hM => ?_
 refine AO (AK ?_)
 refine Ax T32 fun b1 H1 hM => ?_
 refine Aj (cs := Au) T32 rfl fun b2 H2 hM => ?_
 have c1 := GM H2 s rv mv ev sv xs (ha.mono hM.pre) hf
 cases hm : BZ s with
 | false =>
  rw [hm] at c1
  have hbad := Oy hm
  clear hm
  refine goM ?_
  refine AA c1 ?_
  refine goM ?_
  refine AM T32 fun H3 hM => ?_
  refine goM ?_
  exact An (Eu hM hbad)
 | true =>
  rw [hm] at c1
  have hok := Eh hm
  have hres := Ox hm
  have hsl := hok.st.len
  obtain ⟨_, H3, c2, u, mv1, ev1, sv1, rvs, ys, rfl, hlk, hval, m1⟩ := Kv H2 s rv mv ev sv xs (ha.mono hM.pre) hf
  have hat := Tb (L := []) (by simpa using m1) hlk hval
  obtain ⟨q1, q2, q3, q4⟩ := hat.Ga
  clear hm hat
  refine goM ?_
  refine AA c1 ?_
  refine goM ?_
  refine AA c2 ?_
  replace hM : Mem H H3 (Cz u mv1 ev1 sv1 rvs ys s ++ _) := hM.call m1
  clear c1 c2 m1
  unfold Cz at hM
  simp only [List.cons_append, List.nil_append] at hM
  refine goM ?_
  refine Aj (cs := Au) T32 rfl fun b4 H4 hM => ?_
  refine AM T32 fun H5 hM => ?_
  refine goM ?_
  obtain ⟨_, H6, c1, x, rfl, m1⟩ := Mx H5 sv s.st (ha.mono hM.pre).st (by omega)
  rw [IL hok.st] at c1 m1
  simp only at c1 m1
  have t1 := (m1.sl .here).cells
  refine AA c1 ?_
  replace hM := hM.BH m1
  clear c1 m1
  refine goM ?_
  refine AM T30 fun H7 hM => ?_
  refine goM ?_
  refine AM T32 fun H8 hM => ?_
  refine goM ?_
  refine An ?_
  rw [hres]
  have h1 := ((hM.front (r := .own 3 BE x (s.st.filter fun e => decide (e.n ≠ 0))) tkG).front (r := .own 6 evC ev1 s.es) tkG).front (r := .own 6 mrC mv1 ys) tkG
  have h2 := (h1.front (r := .ro (pack (Bn ys))) tkG).front (r := .ro (pack (Bl u rvs s.c.rows))) tkG
  exact ⟨⟨u, mv1, ev1, x, rvs, ys⟩, rfl, ⟨hlk, hval⟩, Mem.svN (s := PA s) (h2.sub (by unfold Cz; (repeat (first | exact List.Sublist.slnil | exact List.Sublist.refl _ | refine List.Sublist.cons_cons _ ?_ | refine List.Sublist.cons _ ?_))))⟩
theorem gD (H : Heap) (b : Nat) (s : St) (rv mv ev sv : V) (x : MR) (hb : H[b]? = some (.row (stC s.c rv mv ev sv) true)) (hk : KAt H x.w x.v x.k) :
  Call Tryz.prog 59 [.agg (mC x.w x.v x.k x.h), .ptr b 0] H (.bool (!decide (x.k.t = s.c.total))) H := by
 have s1 := hk.ws.cells
 have s2 := hk.vs.cells
 have hl := AU (q := 5) T3 rfl hb (v := .int .i64 s.c.total) rfl
 have hd : (x.k.t != s.c.total) = (!decide (x.k.t = s.c.total)) := by by_cases h : x.k.t = s.c.total <;> simp [h]
 refine AQ fit mixed Tryz.func59 rfl rfl rfl (by kernel_rfl) rfl fun hM => ?_
 refine AO (AK ?_)
 refine Ax T84 fun b1 H1 hM => ?_
 have hl1 := CX hM.pre hl
 clear hl hk hb
 refine goM ?_
 exact AY ⟨rfl, hM.pre⟩
theorem UJ (H : Heap) (s : St) (rv mv ev sv : V) (xs : List MR) (ha : Da H rv mv ev sv xs s) (hf : s.Fit) :
  Call Tryz.prog 25 [.agg (stC s.c rv mv ev sv)] H (.tup [.bool (Hn s).1, .int .i64 (Hn s).2]) H := by
 obtain ⟨z1, z2, z3, z4⟩ := ha.Ga
 have l3 := hf.ms
 have hxl := ha.len
 refine AQ fit mixed Tryz.func25 rfl rfl rfl (by kernel_rfl) rfl fun hM => ?_
 refine AO (AK ?_)
 refine Ax T32 fun b1 H1 hM => ?_
 have c1 := Iz H1 s rv mv ev sv xs (ha.mono hM.pre) hf
 cases hm : BZ s with
 | false =>
  rw [hm] at c1
  rw [Lv hm]
  clear hm
  refine goM ?_
  refine AA c1 ?_
  refine goM ?_
  exact An ⟨rfl, hM.pre⟩
 | true =>
  rw [hm] at c1
  rw [Lu hm]
  have c2 := Ks H1 mv xs 59 [.ptr b1 0] (fun x => !decide (x.k.t = s.c.total)) (ha.ms.mono hM.pre) (by omega) (fun x hx => gD H1 b1 s rv mv ev sv x (hM.row hsG) ((ha.ks x hx).mono hM.pre))
  have hd : (!(xs.any fun x => !decide (x.k.t = s.c.total))) = Ir s := by
   unfold Ir
   rw [← ha.val, List.all_map, Bool.not_eq_eq_eq_not, List.not_all_eq_any_not]
   rfl
  generalize (xs.any fun x => !decide (x.k.t = s.c.total)) = y at *
  clear hm ha
  refine goM ?_
  refine AA c1 ?_
  refine goM ?_
  refine AA c2 ?_
  refine goM ?_
  exact An ⟨rfl, hM.pre⟩
theorem hU (H : Heap) (s : St) (rv mv ev sv : V) (xs : List MR) (ha : Da H rv mv ev sv xs s) (hf : s.Fit) :
  Call Tryz.prog 26 [.agg (stC s.c rv mv ev sv)] H (.tup [.bool (Hn s).1, .int .i64 (Hn s).2]) H := by
 obtain ⟨z1, z2, z3, z4⟩ := ha.Ga
 have l3 := hf.ms
 have hxl := ha.len
 have hlen := ha.ms.len T28 rfl
 obtain ⟨n, hn⟩ : ∃ n, xs.length = n := ⟨_, rfl⟩
 rw [hn] at hlen
 refine AQ fit mixed Tryz.func26 rfl rfl rfl (by kernel_rfl) rfl fun hM => ?_
 refine AO (AK ?_)
 refine Ax T32 fun b1 H1 hM => ?_
 have c1 := GM H1 s rv mv ev sv xs (ha.mono hM.pre) hf
 cases hm : BZ s with
 | false =>
  rw [hm] at c1
  rw [Lv hm]
  clear hm
  refine goM ?_
  refine AA c1 ?_
  refine goM ?_
  exact An ⟨rfl, hM.pre⟩
 | true =>
  rw [hm] at c1
  rw [Lu hm]
  have hdl := Wc (Eh hm)
  have hall : Ir s = xs.all fun x => !decide (x.k.t < s.c.total) := by rw [hdl, ← ha.val, List.all_map]; rfl
  have hno : ∀ (k : Nat) x, xs[k]? = some x → x.k.t < s.c.total → Ir s = false := fun k x hx ht => by
   rw [hall, List.all_eq_false]
   exact ⟨x, List.mem_of_getElem? hx, by simpa using ht⟩
  have hyes : (∀ (k : Nat) x, k < n → xs[k]? = some x → ¬ x.k.t < s.c.total) → Ir s = true := fun hh => by
   rw [hall, List.all_eq_true]
   intro x hx
   obtain ⟨k, hk⟩ := List.mem_iff_getElem?.1 hx
   have := hh k x (by have := (List.getElem?_eq_some_iff.1 hk).1; omega) hk
   simpa using this
  generalize Ir s = y at *
  clear hm hdl hall
  refine goM ?_
  refine AA c1 ?_
  refine goM ?_
  refine AT (fun cc ρ h => ∃ (k : Nat), k ≤ n ∧ cc = n - k ∧ (∀ (j : Nat) x, j < k → xs[j]? = some x → ¬ x.k.t < s.c.total) ∧ Mem H h [.box b1 (stC s.c rv mv ev sv)] ∧ ρ 1 = .ptr b1 0 ∧ ρ 4 = .int .i64 (k : Int)) ⟨0, Nat.zero_le _, rfl, fun j x hj => by omega, hM, by simp [AD, AB, BT, *]⟩ ?_
  repeat clear hM
  rintro _ ρ h ⟨k, hk, rfl, hpre, hM, g1, g4⟩
  refine goM ?_
  refine AE (fun hb => ?_) (fun hb => ?_)
  ·have hk' : k < n := by simpa using hb
   clear hb
   obtain ⟨x, hx⟩ : ∃ x, xs[k]? = some x := ⟨xs[k]'(by omega), by simp⟩
   obtain ⟨bo, oo, hi, _⟩ := EM (ha.ms.mono hM.pre) hx
   obtain ⟨_, _, l4, _⟩ := Fj (ha.ms.mono hM.pre) hi hx
   have hw := AG (n := k) (by omega)
   by_cases ht : x.k.t < s.c.total
   ·have dt : decide (x.k.t < s.c.total) = true := decide_eq_true ht
    have hy := hno k x hx ht
    clear hno hyes hpre hx ht
    rw [hy]
    refine goM ?_
    exact An ⟨rfl, hM.pre⟩
   ·have dt : decide (x.k.t < s.c.total) = false := decide_eq_false ht
    have hpre2 : ∀ (j : Nat) x, j < k + 1 → xs[j]? = some x → ¬ x.k.t < s.c.total := fun j z hj hz => by
     by_cases hjk : j = k
     ·rw [hjk, hx] at hz; cases hz; exact ht
     ·exact hpre j z (by omega) hz
    clear hno hyes hpre hx ht
    refine goM ?_
    exact ⟨n - (k + 1), by omega, k + 1, hk', rfl, hpre2, hM, by simp [AD, AB, *]⟩
  ·have hk' : k = n := by have : ¬ k < n := by simpa using hb
                          omega
   subst hk'
   clear hb
   have hy := hyes hpre
   clear hno hyes hpre
   rw [hy]
   refine goM ?_
   exact An ⟨rfl, hM.pre⟩
theorem eZ {c : Cfg} {ps : List Int} {a : St} {e : Int} (h : FH c ps = (a, e)) (H : Heap) {rv pv : V} (hr : Rows H rv c.rows) (cf : c.Fit) (hp : Sl 1 AH H pv ps) (hl : ps.length ≤ 2 ^ 47) :
  ∃ w H', Call Tryz.prog 18 [.agg (BJ c rv), pv] H w H' ∧ ∃ q : SV, w = .tup [.agg (q.c a), .int .i64 e] ∧ q.Ok a ∧ Mem H H' [q.own a] := by
 obtain ⟨w, H', h1, h2⟩ := gK H c rv pv ps hr cf hp hl
 exact ⟨w, H', h1, aH h h2⟩
theorem cG {s a : St} {e : Int} (h : Gw s = (a, e)) (H : Heap) {rv mv ev sv : V} {xs : List MR} (ha : Da H rv mv ev sv xs s) (hf : s.Fit) :
  ∃ w H', Call Tryz.prog 23 [.agg (stC s.c rv mv ev sv)] H w H' ∧ ∃ q : SV, w = .tup [.agg (q.c a), .int .i64 e] ∧ q.Ok a ∧ Mem H H' [q.own a] := by
 obtain ⟨w, H', h1, h2⟩ := cF H s rv mv ev sv xs ha hf
 exact ⟨w, H', h1, aH h h2⟩
structure dL (c : Cfg) (A S C : St) : Prop where
 run : FH c [0, 1, 0, 0, 0] = (A, 0)
 run4 : FH c [0, 1, 0, 0] = (A, 0)
 fit : A.Fit
 bad : FH c [2] = (DN, 2501)
 sweep : Gw A = (S, 0)
 two : S.st.length = 2
 recov : EX c (CJ [[0], [1]] ++ [120]) = (C, 0)
 some : 2 ≤ C.es.length
 done : Hn A = (false, 0)
theorem fG : ∃ A S C, dL Bv A S C := by
 have hin : ∀ x ∈ ([0, 1, 0, 0, 0] : List Int), 0 ≤ x ∧ x < Bv.m := by intro x hx; simp at hx; rcases hx with rfl | rfl | rfl <;> decide
 obtain ⟨A, hr, hR, hst, hfo⟩ := RW IJ (ps := [0, 1, 0, 0, 0]) (by decide) hin
 obtain ⟨B, hr4, hR4, _, _⟩ := RW IJ (ps := [0, 1, 0, 0]) (by decide) (fun x hx => hin x (by simp at hx ⊢; rcases hx with rfl | rfl | rfl <;> simp))
 have hAB : A = B := by
  have e : GA Bv ([0, 1, 0, 0] ++ [0]) = some A := hr
  rw [MU, hr4] at e
  have hB : B = (FH Bv [0, 1, 0, 0]).1 := by rw [hR4]
  have h2 : (doR (FH Bv [0, 1, 0, 0]).1 0).2 = 2301 := by decide +kernel
  rw [← hB] at h2
  have e2 : DA B 0 = some A := e
  unfold DA at e2
  rw [if_neg (by rw [h2]; decide), if_pos h2] at e2
  exact (Option.some.inj e2).symm
 have hA : A = (FH Bv [0, 1, 0, 0, 0]).1 := by rw [hR]
 have hb : FH Bv [2] = (DN, 2501) := by
  have h1 : GA Bv [2] = none := by
   have e : GA Bv ([] ++ [2]) = (GA Bv []).bind fun s => DA s 2 := MU Bv [] 2
   rw [Za] at e
   have e2 : GA Bv [2] = DA (FX Bv) 2 := e
   rw [e2]
   unfold DA
   rw [if_neg (by decide +kernel), if_neg (by decide +kernel)]
  unfold FH
  rw [if_pos (by decide +kernel), h1]
 have hs : (Gw A).2 = 0 ∧ (Gw A).1.st.length = 2 ∧ (Hn A).1 = false ∧ (Hn A).2 = 0 := by rw [hA]; decide +kernel
 have hc : (EX Bv (CJ [[0], [1]] ++ [120])).2 = 0 ∧ 2 ≤ (EX Bv (CJ [[0], [1]] ++ [120])).1.es.length := by decide +kernel
 have pr : ∀ {α : Type} (r : α × Int), r.2 = 0 → r = (r.1, 0) := fun r h => Prod.ext rfl h
 have hsw := pr _ hs.1
 have hrc := pr _ hc.1
 have hd : Hn A = (false, 0) := Prod.ext hs.2.2.1 hs.2.2.2
 have hc2 := hc.2
 have hs2 := hs.2.1
 obtain ⟨r, er⟩ : ∃ r, EX Bv (CJ [[0], [1]] ++ [120]) = r := ⟨_, rfl⟩
 obtain ⟨r2, er2⟩ : ∃ r2, Gw A = r2 := ⟨_, rfl⟩
 rw [er] at hrc hc2
 rw [er2] at hsw hs2
 have hr4' : FH Bv [0, 1, 0, 0] = (A, 0) := by rw [hAB]; exact hR4
 have hf := Uf hst.ok (by rw [hst.c]; exact Jo)
 refine ⟨A, r2.1, r.1, ?_⟩
 constructor
 ·exact hR
 ·exact hr4'
 ·exact hf
 ·exact hb
 ·exact er2.trans hsw
 ·exact hs2
 ·exact er.trans hrc
 ·exact hc2
 ·exact hd
theorem Yn : Fw [0, 1] = (CJ [[0], [1]], 0) := by decide +kernel
theorem Ym : (CJ [[0], [1]]).length = 14 := by decide +kernel
theorem Yl : Fw [8] = ([], 2501) := by decide +kernel
theorem Wd : Hn DN = (false, 2500) := by decide +kernel
theorem Zl (H : Heap) : ∃ w H', Call Tryz.prog 33 [] H w H' ∧ ∃ rv xv, w = .agg (BJ Bv rv) ∧ Mem H H' [.ro (EY rv xv Bv.rows)] := by
 refine Ao fit mixed Tryz.func33 rfl rfl rfl (by kernel_rfl) fun hM => ?_
 refine AO (AK ?_)
 refine Aj (cs := Cj) T26 rfl fun b0 H1 hM => ?_
 refine goM ?_
 refine Aa AH [65536] [.int .i64 65536] T27 rfl T3 rfl (Ba [65536]) (by decide) (fun x1 H2 hM => ?_)
 have t1 := (hM.sl .here).cells
 refine goM ?_
 refine Aa AH [-65536] [.int .i64 (-65536)] T27 rfl T3 rfl (Ba [-65536]) (by decide) (fun x2 H3 hM => ?_)
 have t2 := (hM.sl .here).cells
 refine goM ?_
 refine Aa Dg [(x1, 32768), (x2, 0)] [x1, .int .i64 32768, x2, .int .i64 0] T24 rfl GD rfl (Gb [(x1, 32768), (x2, 0)]) (by decide) (fun rv H4 hM => ?_)
 have t3 := (hM.sl .here).cells
 refine goM ?_
 refine AM T26 fun H5 hM => ?_
 refine goM ?_
 refine AY ⟨rv, [(x1, 32768), (x2, 0)], rfl, Mem.eM hM.pre ⟨hM.slG, rfl, fun k p r hp hr => ?_⟩ fun c hc => ?_⟩
 ·match k, hp, hr with
  | 0, hp, hr => cases hp; cases hr; exact ⟨hM.slG, rfl⟩
  | 1, hp, hr => cases hp; cases hr; exact ⟨hM.slG, rfl⟩
 ·rcases hc with hc | ⟨q, hq, hc⟩
  ·exact hM.low (.own 2 Dg rv [(x1, 32768), (x2, 0)]) (by simp) c hc
  ·simp at hq
   rcases hq with rfl | rfl
   ·exact hM.low (.own 1 AH x1 [65536]) (by simp) c hc
   ·exact hM.low (.own 1 AH x2 [-65536]) (by simp) c hc
theorem Pz : ∀ {ss : List (List Int)}, (∀ s ∈ ss, okB s) → okB (CJ ss)
 | [], _ => fun b hb => by simp [CJ] at hb
 | s :: ss, h => by
  have e : CJ (s :: ss) = Cc s ++ CJ ss := by simp [CJ]
  rw [e]
  refine GJ ?_ (Pz fun x hx => h x (List.mem_cons_of_mem _ hx))
  unfold Cc KR
  exact GJ (GJ (HN _ _) (h s List.mem_cons_self)) (HN _ _)
theorem bL : okB (CJ [[0], [1]]) := Pz fun s hs => by
 simp at hs
 rcases hs with rfl | rfl <;> (intro b hb; simp at hb; subst hb; decide)
theorem YB (K : Heap) : Call Tryz.prog 32 [] K (.bool true) K := by
 have hsm := Zl
 have hcf := Jo
 obtain ⟨A, S, C, W⟩ := fG
 generalize Bv = c at *
 have hR := W.run
 have hR4 := W.run4
 have hB := W.bad
 have hS := W.sweep
 have h2 := W.two
 have hC := W.recov
 have hC2 := W.some
 have hD := W.done
 have Af := W.fit
 clear W
 have hJ := Yn
 have hok := GJ bL (b := [120]) (fun b hb => by simp at hb; subst hb; decide)
 have hJl := HV (CJ [[0], [1]])
 have hJn := Ym
 have a1 := HU (a := CJ [[0], [1]]) (b := [120]) (by rw [hJn]; decide)
 have hrl : (CJ [[0], [1]] ++ [120]).length ≤ 2 ^ 47 := by rw [List.length_append, hJn]; decide
 rw [hJn] at hJl
 replace hJl : builtinP T .len [9] [.str (strOf (CJ [[0], [1]]))] = some (.int .i64 14) := hJl
 generalize CJ [[0], [1]] = J at *
 have hC3 : decide ((C.es.length : Int) ≥ 2) = true := decide_eq_true (by omega)
 refine AQ fit mixed Tryz.func32 rfl rfl rfl (by kernel_rfl) rfl fun hM => ?_
 obtain ⟨_, H1, c1, rv, xv, rfl, m0⟩ := hsm K
 refine AO (AK ?_)
 refine goM ?_
 refine AA c1 ?_
 replace hM := hM.BH m0
 clear c1 m0
 refine goM ?_
 refine Aa AH [0, 1, 0, 0, 0] [.int .i64 0, .int .i64 1, .int .i64 0, .int .i64 0, .int .i64 0] T27 rfl T3 rfl (Ba [0, 1, 0, 0, 0]) (by decide) (fun x1 H2 hM => ?_)
 obtain ⟨_, H3, c1, qa, rfl, ka, m1⟩ := Zb hR H2 (Jl (hM.fact (F := EY rv xv c.rows) hsG)) hcf (hM.sl .here) (by decide)
 refine goM ?_
 refine AA c1 ?_
 replace hM := hM.BH m1
 clear c1 m1
 refine goM ?_
 refine Aj (cs := Au) T32 rfl fun b1 H4 hM => ?_
 refine AM T32 fun H5 hM => ?_
 have hM0 : Mem K H5 [.box b1 (qa.c A), qa.own A] := hM.Ea
 clear hM
 have hM := hM0
 clear hM0
 obtain ⟨_, H6, c1, rv2, xv2, rfl, m0⟩ := hsm H5
 refine goM ?_
 refine AA c1 ?_
 replace hM := hM.BH m0
 clear c1 m0
 refine goM ?_
 refine Aa AH [0, 1, 0, 0] [.int .i64 0, .int .i64 1, .int .i64 0, .int .i64 0] T27 rfl T3 rfl (Ba [0, 1, 0, 0]) (by decide) (fun x2 H7 hM => ?_)
 obtain ⟨_, H8, c1, qb, rfl, kb, m1⟩ := eZ hR4 H7 (Jl (hM.fact (F := EY rv2 xv2 c.rows) hsG)) hcf (hM.sl .here) (by decide)
 refine goM ?_
 refine AA c1 ?_
 replace hM := hM.BH m1
 clear c1 m1
 refine goM ?_
 refine Aj (cs := Au) T32 rfl fun b3 H9 hM => ?_
 refine AM T32 fun H10 hM => ?_
 have hM0 : Mem K H10 [.box b3 (qb.c A), qb.own A, .box b1 (qa.c A), qa.own A] := hM.Ea
 clear hM
 have hM := hM0
 clear hM0
 obtain ⟨_, H11, c1, rv3, xv3, rfl, m0⟩ := hsm H10
 refine goM ?_
 refine AA c1 ?_
 replace hM := hM.BH m0
 clear c1 m0
 refine goM ?_
 refine Aa AH [2] [.int .i64 2] T27 rfl T3 rfl (Ba [2]) (by decide) (fun x3 H12 hM => ?_)
 obtain ⟨_, H13, c1, qc, rfl, kc, m1⟩ := Zb hB H12 (Jl (hM.fact (F := EY rv3 xv3 c.rows) hsG)) hcf (hM.sl .here) (by decide)
 refine goM ?_
 refine AA c1 ?_
 replace hM := hM.BH m1
 clear c1 m1
 refine goM ?_
 refine Aj (cs := Au) T32 rfl fun b5 H14 hM => ?_
 refine AM T32 fun H15 hM => ?_
 have hM0 : Mem K H15 [.box b3 (qb.c A), qb.own A, .box b1 (qa.c A), qa.own A] := hM.Ea
 clear hM
 have hM := hM0
 clear hM0
 refine goM ?_
 refine Aa AH [0, 1] [.int .i64 0, .int .i64 1] T27 rfl T3 rfl (Ba [0, 1]) (by decide) (fun x4 H16 hM => ?_)
 have c1 := Pp H16 x4 [0, 1] (hM.sl .here) (by decide)
 rw [hJ] at c1
 simp only at c1
 refine goM ?_
 refine AA c1 ?_
 clear c1 hJ
 refine goM ?_
 obtain ⟨_, H17, c1, rv4, xv4, rfl, m0⟩ := hsm H16
 refine AA c1 ?_
 replace hM := hM.BH m0
 clear c1 m0
 refine goM ?_
 refine BC (EC eLk eLk a1) ?_
 obtain ⟨_, H18, c1, qd, rfl, kd, m1⟩ := gJ hC H17 (Jl (hM.fact (F := EY rv4 xv4 c.rows) .here)) hcf hok hrl
 clear hrl hok a1
 refine goM ?_
 refine AA c1 ?_
 replace hM := hM.BH m1
 clear c1 m1
 refine goM ?_
 refine Aj (cs := Au) T32 rfl fun b9 H19 hM => ?_
 refine AM T32 fun H20 hM => ?_
 have hM0 : Mem K H20 [.box b9 (qd.c C), qd.own C, .box b3 (qb.c A), qb.own A, .box b1 (qa.c A), qa.own A] := hM.Ea
 clear hM
 have hM := hM0
 clear hM0
 refine goM ?_
 obtain ⟨_, H21, c1, qs, rfl, ks, m1⟩ := cG hS H20 (ka.at_ hM) Af
 refine AA c1 ?_
 replace hM := hM.BH m1
 clear c1 m1
 refine goM ?_
 refine Aj (cs := Au) T32 rfl fun b11 H22 hM => ?_
 refine AM T32 fun H23 hM => ?_
 have c1 := UJ H23 A qa.u qa.mv qa.ev qa.sv qa.xs (ka.at_ hM) Af
 rw [hD] at c1
 simp only at c1
 refine goM ?_
 refine AA c1 ?_
 clear c1 hD
 refine goM ?_
 refine Aa AH [8] [.int .i64 8] T27 rfl T3 rfl (Ba [8]) (by decide) (fun x6 H24 hM => ?_)
 have c1 := Pp H24 x6 [8] (hM.sl .here) (by decide)
 rw [Yl] at c1
 simp only at c1
 refine goM ?_
 refine AA c1 ?_
 clear c1
 have c1 := UJ H24 DN .AN .AN .AN .AN [] (bG H24) eP
 rw [Wd] at c1
 simp only at c1
 refine goM ?_
 refine AA c1 ?_
 clear c1
 have c1 := fC H24 A (ka.at_ hM) (kb.at_ hM) Af
 have g1 := (kd.at_ hM).es.len T29 rfl
 have g2 := (ks.at_ hM).st.len T30 rfl
 rw [h2] at g2
 replace g2 : builtinP T .len [30] [qs.sv] = some (.int .i64 2) := g2
 clear h2 hC2
 refine goM ?_
 refine AA c1 ?_
 refine goM ?_
 refine AA (MM _ _) ?_
 refine goM ?_
 refine AA (MM _ _) ?_
 refine goM ?_
 refine AA (MM _ _) ?_
 refine goM ?_
 refine AA (MM _ _) ?_
 refine goM ?_
 refine AA (MM _ _) ?_
 refine goM ?_
 refine AA (MM _ _) ?_
 refine goM ?_
 refine AA (MM _ _) ?_
 refine goM ?_
 refine AA (MM _ _) ?_
 refine goM ?_
 exact AY ⟨rfl, hM.pre⟩
end Go.Proofs.YtncjbjlmgnjhiaaGreat.VM
