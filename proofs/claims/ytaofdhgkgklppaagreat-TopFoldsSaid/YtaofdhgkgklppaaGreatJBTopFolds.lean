/- Joined texts: TopB. -/
import Derived.Test.YtaofdhgkgklppaaGreatJB1
import Derived.Test.YtaofdhgkgklppaaGreatJB2
import Derived.Test.YtaofdhgkgklppaaGreatJB3
import Derived.Test.YtaofdhgkgklppaaGreatJB4
import Derived.Test.YtaofdhgkgklppaaGreatJB5
import Derived.Test.YtaofdhgkgklppaaGreatJB6
import Derived.Test.YtaofdhgkgklppaaGreatJB7
import Derived.Test.YtaofdhgkgklppaaGreatJB8
import Derived.Test.YtaofdhgkgklppaaGreatJB9
import Derived.Test.YtaofdhgkgklppaaGreatJB10
import Derived.Test.YtaofdhgkgklppaaGreatJB11
import Derived.Test.YtaofdhgkgklppaaGreatJB12
import Derived.Test.YtaofdhgkgklppaaGreatJB13
import Derived.Test.YtaofdhgkgklppaaGreatJBTopAll
namespace Go.Proofs.YtaofdhgkgklppaaGreat.VM
open Go
set_option linter.unusedVariables false
set_option linter.unusedSimpArgs false
attribute [local irreducible] wq wqL wqD wqE wqO Th Bk EndR
set_option maxHeartbeats 8000000
theorem law_topFolds {D : Type} (K : Heap) (vs : List V) (ds : List (DataW D)) (ro : Ro K) (h : RdAll T K [26, 27] vs ds) : ∃ K', Call Tryz.prog 3 vs K (.bool true) K' := by
 obtain ⟨v1, vs, d1, ds, rfl, rfl, hv1, h⟩ := rdAll_cons h
 obtain ⟨v2, vs, d2, ds, rfl, rfl, hv2, h⟩ := rdAll_cons h
 obtain ⟨rfl, rfl⟩ := rdAll_nil h
 obtain ⟨c, rv, rfl, hr, cf⟩ := rd_config hv1
 obtain ⟨ps, hps, hpl⟩ := rd_ints hv2
 clear hv1 hv2 h
 replace hpl : ps.length * 8 ≤ 140737488351232 := Nat.le_trans hpl (by decide)
 have s3 : rv.cells = [rv] ∧ rv.isTup = false := by obtain ⟨_, h, _⟩ := hr; exact h.cells
 have hlen := hps.len T27 rfl
 obtain ⟨n, hn⟩ : ∃ n, ps.length = n := ⟨_, rfl⟩
 rw [hn] at hlen hpl
 refine ⟨K, ?_⟩
 refine call_pure fit mixed Tryz.func3 rfl rfl rfl (by kernel_rfl) rfl fun hM => ?_
 refine wq_seq (wq_line ?_)
 refine l_boxM T26 fun b2 H1 hM => ?_
 refine goM ?_
 refine l_callG (awakeT_ _) ?_
 cases hc : cfgMay c with
 | false =>
  have hne := newR_not hc
  have hbad := runR_bad (c := c) (ps := []) (by unfold runOk; rw [hc]; rfl)
  refine goM ?_
  obtain ⟨_, H2, c1, q0, rfl, k0, m1⟩ := newQ_ hne H1 rv (hr.mono hM.pre) cf
  refine l_callG c1 ?_
  replace hM := hM.call1 m1
  clear c1 m1 hne hc
  refine goM ?_
  refine l_newM (cs := zeroSt) T33 rfl fun b3 H3 hM => ?_
  refine l_putM T33 fun H4 hM => ?_
  refine goM ?_
  obtain ⟨_, H5, c1, q1, rfl, k1, m1⟩ := runQ_ hbad H4 (hr.mono hM.pre) cf (pv := .nils) (.inl ⟨rfl, rfl⟩) (by decide)
  refine l_callG c1 ?_
  replace hM := hM.call1 m1
  clear c1 m1
  refine goM ?_
  refine l_newM (cs := zeroSt) T33 rfl fun b4 H6 hM => ?_
  refine l_putM T33 fun H7 hM => ?_
  refine goM ?_
  refine l_callG (num_ _ _) ?_
  refine goM ?_
  exact end_1 (by first | exact .inl rfl | exact .inr rfl) ⟨rfl, hM.pre⟩
 | true =>
  have hne := newR_may hc
  have hR := runSt_new hc
  have hF := folds_new hc
  obtain ⟨⟨hm2, hm8⟩, _⟩ := cfgMay_split hc
  obtain ⟨m, hcm⟩ : ∃ m : Nat, c.m = m := ⟨c.m.toNat, by omega⟩
  have hm8' : m ≤ 8 := by omega
  replace hcm : Held (c.m = m) := hcm
  clear hm2 hm8
  refine goM ?_
  obtain ⟨_, H2, c1, q0, rfl, k0, m1⟩ := newQ_ hne H1 rv (hr.mono hM.pre) cf
  refine l_callG c1 ?_
  replace hM := hM.call1 m1
  clear c1 m1 hne
  refine goM ?_
  refine l_newM (cs := zeroSt) T33 rfl fun b5 H3 hM => ?_
  refine l_putM T33 fun H4 hM => ?_
  have hM0 : Mem K H4 [.box b5 (q0.c (newS c)), q0.own (newS c), .box b2 (cfgC c rv)] := hM.subG
  refine goM ?_
  refine wq_meet (fun ρ h => ∃ (s : St) (q : SV), RunSt c s ∧ Folds s ∧ q.Ok s ∧ Mem K h [.box b5 (q.c s), q.own s, .box b2 (cfgC c rv)] ∧ ρ 2 = .ptr b2 0 ∧ ρ 5 = .ptr b5 0) ?_ ?_
  ·refine wq_loop (fun cc ρ h => ∃ (k : Nat) (s : St) (q : SV), k ≤ n ∧ cc = n - k ∧ RunSt c s ∧ Folds s ∧ q.Ok s ∧ Mem K h [.box b5 (q.c s), q.own s, .box b2 (cfgC c rv)] ∧ ρ 1 = v2 ∧ ρ 2 = .ptr b2 0 ∧ ρ 5 = .ptr b5 0 ∧ ρ 9 = .int .i64 (k : Int)) ⟨0, newS c, q0, Nat.zero_le _, rfl, hR, hF, k0, hM0, by simp [put_app, put_none, rho0_app, *]⟩ ?_
   repeat clear hM
   clear hM0 hR hF k0
   rintro _ ρ h ⟨k, s, q, hk, rfl, hrs, hfo, hq, hM, g1, g2, g5, g9⟩
   have sf := run_fit cf hrs
   by_cases hlt : k < n ∧ k < 40
   ·have dk1 : decide ((k : Int) < (n : Int)) = true := decide_eq_true (by omega)
    have dk2 : decide ((k : Int) < 40) = true := decide_eq_true (by omega)
    obtain ⟨x, hx⟩ : ∃ x, ps[k]? = some x := ⟨ps[k]'(by omega), by simp⟩
    obtain ⟨bo, oo, _, ji, rfl, _, jlo, _⟩ := (hps.mono hM.pre).get T27 rfl T3 rfl hx
    have jl := loadV_one T3 rfl jlo
    have hw := wrap_succ (n := k) (by omega)
    clear jlo hx
    rcases doR_cases s x with ⟨p, o, rfl, pk, hd⟩ | ⟨e, hne, hd⟩
    ·have hrs2 := runSt_do hrs pk
     have hfo2 := folds_do hfo pk
     have hml := run_len hrs2
     have hmay := hrs2.ok.es
     rw [hrs2.c] at hmay
     have hel := (events_all hrs2.ok.es).2.1
     clear pk
     generalize doS s p = s2 at *
     refine goM ?_
     obtain ⟨_, H6, c1, q2, rfl, k2, m1⟩ := doP_ hd h (hq.at_ hM) sf
     refine d_callG c1 (.inl m1.pre) ?_
     replace hM := hM.call1 m1
     clear c1 m1 hd
     refine goM ?_
     refine d_newM (cs := zeroSt) T33 rfl fun b10 H7 hM => ?_
     refine d_putM T33 fun H8 hM => ?_
     have hat := k2.at_ hM
     have g6 := hat.ms.len T29 rfl
     rw [hat.len, hml] at g6
     have hcc : (c.m != c.m) = false := by simp
     have c1 := lineageMay H8 q2.ev s2.es c.m hat.es (by omega)
     rw [hmay] at c1
     clear hat hml
     refine goM ?_
     refine l_callG (num_ _ _) ?_
     refine goM ?_
     refine l_callG c1 ?_
     refine goM ?_
     refine l_putM T33 fun H9 hM => ?_
     refine goM ?_
     exact ⟨n - (k + 1), by omega, k + 1, s2, q2, by omega, rfl, hrs2, hfo2, k2, ((hM.front (r := q2.own s2) (by (repeat (first | exact Take.here | apply Take.there)))).front (r := .box b5 (q2.c s2)) (by (repeat (first | exact Take.here | apply Take.there)))).sub (by (repeat (first | exact List.Sublist.slnil | exact List.Sublist.refl _ | refine List.Sublist.cons_cons _ ?_ | refine List.Sublist.cons _ ?_))), by simp [put_app, put_none, *]⟩
    ·have hee : (e != 0) = true := by simpa using hne
     clear hne
     refine goM ?_
     obtain ⟨_, H6, c1, q2, rfl, k2, m1⟩ := doP_ hd h (hq.at_ hM) sf
     refine d_callG c1 (.inl m1.pre) ?_
     replace hM := hM.call1 m1
     clear c1 m1 hd
     refine goM ?_
     refine d_newM (cs := zeroSt) T33 rfl fun b10 H7 hM => ?_
     refine d_putM T33 fun H8 hM => ?_
     refine goM ?_
     refine l_callG (num_ _ _) ?_
     refine goM ?_
     exact ⟨n - (k + 1), by omega, k + 1, s, q, by omega, rfl, hrs, hfo, hq, hM.subG, by simp [put_app, put_none, *]⟩
   ·by_cases hk1 : k < n
    ·have dk1 : decide ((k : Int) < (n : Int)) = true := decide_eq_true (by omega)
     have dk2 : decide ((k : Int) < 40) = false := decide_eq_false (by omega)
     clear hlt hk1
     refine goM ?_
     exact ⟨s, q, hrs, hfo, hq, hM, by simp [put_app, put_none, *]⟩
    ·have dk1 : decide ((k : Int) < (n : Int)) = false := decide_eq_false (by omega)
     clear hlt hk1
     refine goM ?_
     exact ⟨s, q, hrs, hfo, hq, hM, by simp [put_app, put_none, *]⟩
  ·repeat clear hM
   clear hM0 hR hF k0
   rintro ρ h ⟨s, q, hrs, hfo, hq, hM, g2, g5⟩
   have sf := run_fit cf hrs
   have hml := run_len hrs
   have hel := (events_all hrs.ok.es).2.1
   have hko := hrs.ok.fits
   have hfold := fun (j : Nat) m' (hm : s.ms[j]? = some m') => folds_of hrs hfo hm
   clear hrs hfo
   refine goM ?_
   refine wq_loop (fun cc ρ h => ∃ (j : Nat), j ≤ m ∧ cc = m - j ∧ Mem K h [.box b5 (q.c s), q.own s, .box b2 (cfgC c rv)] ∧ ρ 2 = .ptr b2 0 ∧ ρ 5 = .ptr b5 0 ∧ ρ 12 = .int .i64 (j : Int)) ⟨0, Nat.zero_le _, rfl, hM, by simp [put_app, put_none, *]⟩ ?_
   repeat clear hM
   clear g2 g5
   rintro _ ρ h ⟨j, hj, rfl, hM, g2, g5, g12⟩
   by_cases hj' : j < m
   ·have dj : decide ((j : Int) < c.m) = true := decide_eq_true (by have : c.m = (m : Int) := hcm; omega)
    have hw := wrap_succ (n := j) (by omega)
    obtain ⟨mj, hmj⟩ : ∃ mj, s.ms[j]? = some mj := ⟨s.ms[j]'(by have : c.m = (m : Int) := hcm; omega), by simp⟩
    have hat := hq.at_ hM
    obtain ⟨y, hy, hyv⟩ := val_at hat.val hmj
    have hyk : y.k = mj.1 := congrArg Prod.fst hyv
    have hk1 := hat.ks y (List.mem_of_getElem? hy)
    have hkf := kFits_fit (hko mj (List.mem_of_getElem? hmj))
    obtain ⟨bo, oo, hi, _⟩ := mr_at hat.ms hy
    have c2 := many h q.ev s.es (j : Int) hat.es (by omega)
    obtain ⟨_, H7, c3, a, b, rfl, m2⟩ := foldQ_ (hfold j mj hmj) h (hr.mono hM.pre) cf hat.es (by omega)
    have s4 := (m2.sl .here).cells
    have s5 := (m2.sl (.there .here)).cells
    clear hat hfold hml hmj
    refine goM ?_
    refine d_call0G c2 ?_
    refine goM ?_
    refine d_callG c3 (.inl m2.pre) ?_
    replace hM := hM.call2 m2
    clear c2 c3 m2
    refine goM ?_
    refine d_newM (cs := zeroChk) T45 rfl fun b13 H8 hM => ?_
    refine d_putM T45 fun H9 hM => ?_
    have hat := hq.at_ hM
    obtain ⟨lo1, _⟩ := mr_in hat.ms hi hy
    have c1 := sameK_ H9 a b y.w y.v mj.1 y.k ⟨hM.sl (v := a) (xs := mj.1.ws) (by (repeat (first | exact Has.here | apply Has.there))), hM.sl (v := b) (xs := mj.1.vs) (by (repeat (first | exact Has.here | apply Has.there)))⟩ (hat.ks y (List.mem_of_getElem? hy)) hkf
    rw [hyk, kEq_self] at c1
    rw [hyk] at lo1
    clear hat hy hyv hk1 hyk
    refine goM ?_
    refine d_call0G (num_ _ _) ?_
    refine goM ?_
    refine d_call0G c1 ?_
    refine goM ?_
    exact ⟨m - (j + 1), by omega, j + 1, hj', rfl, hM.subG, by simp [put_app, put_none, *]⟩
   ·have dj : decide ((j : Int) < c.m) = false := decide_eq_false (by have : c.m = (m : Int) := hcm; omega)
    refine goM ?_
    exact end_1 (by first | exact .inl rfl | exact .inr rfl) ⟨rfl, hM.pre⟩
end Go.Proofs.YtaofdhgkgklppaaGreat.VM
