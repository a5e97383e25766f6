/- Joined texts: TopD. -/
import Derived.Test.YtaofdhgkgklppaaGreatJB1
import Derived.Test.YtaofdhgkgklppaaGreatJB2
import Derived.Test.YtaofdhgkgklppaaGreatJB3
import Derived.Test.YtaofdhgkgklppaaGreatJB4
import Derived.Test.YtaofdhgkgklppaaGreatJB5
import Derived.Test.YtaofdhgkgklppaaGreatJB6
import Derived.Test.YtaofdhgkgklppaaGreatJB7
import Derived.Test.YtaofdhgkgklppaaGreatJB8
import Derived.Test.YtaofdhgkgklppaaGreatJB9
import Derived.Test.YtaofdhgkgklppaaGreatJB10
import Derived.Test.YtaofdhgkgklppaaGreatJB11
import Derived.Test.YtaofdhgkgklppaaGreatJB12
import Derived.Test.YtaofdhgkgklppaaGreatJB13
import Derived.Test.YtaofdhgkgklppaaGreatJBTopAll
namespace Go.Proofs.YtaofdhgkgklppaaGreat.VM
open Go
set_option linter.unusedVariables false
set_option linter.unusedSimpArgs false
attribute [local irreducible] wq wqL wqD wqE wqO Th Bk EndR
set_option maxHeartbeats 8000000
theorem two_own {B H : Heap} {M : List Res} {q r : SV} {s t : St} (hM : Mem B H (q.own s :: r.own t :: M)) : Mem B H (.ro (pack [q.own s, r.own t]) :: M) := hM.pack2
theorem two_ats {q r : SV} {s t : St} (hq : q.Ok s) (hr : r.Ok t) : ∀ h, (pack [q.own s, r.own t]).p h → StAt h q.u q.mv q.ev q.sv q.xs s ∧ StAt h r.u r.mv r.ev r.sv r.xs t := fun h hp => by
 have hm := pack_mem hp
 exact ⟨hq.at_ hm .here, hr.at_ hm (.there .here)⟩
theorem law_topSweeps {D : Type} (K : Heap) (vs : List V) (ds : List (DataW D)) (ro : Ro K) (h : RdAll T K [26, 27, 3] vs ds) : ∃ K', Call Tryz.prog 14 vs K (.bool true) K' := by
 obtain ⟨v1, vs, d1, ds, rfl, rfl, hv1, h⟩ := rdAll_cons h
 obtain ⟨v2, vs, d2, ds, rfl, rfl, hv2, h⟩ := rdAll_cons h
 obtain ⟨v3, vs, d3, ds, rfl, rfl, hv3, h⟩ := rdAll_cons h
 obtain ⟨rfl, rfl⟩ := rdAll_nil h
 obtain ⟨c, rv, rfl, hr, cf⟩ := rd_config hv1
 obtain ⟨ps, hps, hpl⟩ := rd_ints hv2
 obtain ⟨sw, rfl, _⟩ := hv3.int T3 rfl
 clear hv1 hv2 hv3 h
 replace hpl : ps.length * 8 ≤ 140737488351232 := Nat.le_trans hpl (by decide)
 have s3 : rv.cells = [rv] ∧ rv.isTup = false := by obtain ⟨_, h, _⟩ := hr; exact h.cells
 have hlen := hps.len T27 rfl
 obtain ⟨n, hn⟩ : ∃ n, ps.length = n := ⟨_, rfl⟩
 rw [hn] at hlen hpl
 refine ⟨K, ?_⟩
 refine call_pure fit mixed Tryz.func14 rfl rfl rfl (by kernel_rfl) rfl fun hM => ?_
 refine wq_seq (wq_line ?_)
 refine l_boxM T26 fun b3 H1 hM => ?_
 refine goM ?_
 refine l_callG (awakeT_ _) ?_
 cases hc : cfgMay c with
 | false =>
  have hne := newR_not hc
  refine goM ?_
  obtain ⟨_, H2, c1, q0, rfl, k0, m1⟩ := newPQ_ hne H1 rv (hr.mono hM.pre) cf
  refine l_callG c1 ?_
  replace hM := hM.call1 m1
  clear c1 m1 hne hc
  refine goM ?_
  refine l_newM (cs := zeroSt) T33 rfl fun b7 H3 hM => ?_
  refine l_putM T33 fun H4 hM => ?_
  refine goM ?_
  refine l_newM (cs := zeroSt) T33 rfl fun b9 H5 hM => ?_
  refine l_putM T33 fun H6 hM => ?_
  have c1 := sameP_ H6 noSt (k0.at_ hM) (noSt_at H6) no_fit
  refine goM ?_
  refine l_callG (num_ _ _) ?_
  refine goM ?_
  refine l_callG c1 ?_
  refine goM ?_
  exact end_1 (by first | exact .inl rfl | exact .inr rfl) ⟨rfl, hM.pre⟩
 | true =>
  have hne := newR_may hc
  have hR := runSt_new hc
  refine goM ?_
  obtain ⟨_, H2, c1, q0, rfl, k0, m1⟩ := newPQ_ hne H1 rv (hr.mono hM.pre) cf
  refine l_callG c1 ?_
  replace hM := hM.call1 m1
  clear c1 m1 hne hc
  refine goM ?_
  refine l_newM (cs := zeroSt) T33 rfl fun b7 H3 hM => ?_
  refine l_putM T33 fun H4 hM => ?_
  refine goM ?_
  refine l_newM (cs := zeroSt) T33 rfl fun b9 H5 hM => ?_
  refine l_putM T33 fun H6 hM => ?_
  refine goM ?_
  refine l_callG (num_ _ _) ?_
  have hM0 : Mem K H6 [.ro (pack [q0.own (newS c)]), .box b7 (q0.c (newS c)), .box b9 (q0.c (newS c))] := Mem.packed (L := [q0.own (newS c)]) (((hM.front (r := .box b7 (q0.c (newS c))) (by (repeat (first | exact Take.here | apply Take.there)))).front (r := q0.own (newS c)) (by (repeat (first | exact Take.here | apply Take.there)))).sub (by (repeat (first | exact List.Sublist.slnil | exact List.Sublist.refl _ | refine List.Sublist.cons_cons _ ?_ | refine List.Sublist.cons _ ?_))))
  have hF0 : ∀ h, (pack [q0.own (newS c)]).p h → StAt h q0.u q0.mv q0.ev q0.sv q0.xs (newS c) ∧ StAt h q0.u q0.mv q0.ev q0.sv q0.xs (newS c) := fun h hp => ⟨k0.at_ (pack_mem hp) .here, k0.at_ (pack_mem hp) .here⟩
  refine goM ?_
  refine wq_meet (fun ρ h => ∃ (s t : St) (q r : SV) (F : Fact), RunSt c s ∧ RunSt c t ∧ Twin s t ∧ (∀ h, F.p h → StAt h q.u q.mv q.ev q.sv q.xs s ∧ StAt h r.u r.mv r.ev r.sv r.xs t) ∧ Mem K h [.ro F, .box b7 (q.c s), .box b9 (r.c t)] ∧ ρ 7 = .ptr b7 0 ∧ ρ 9 = .ptr b9 0) ?_ ?_
  ·refine wq_loop (fun cc ρ h => ∃ (k : Nat) (s t : St) (q r : SV) (F : Fact), k ≤ n ∧ cc = n - k ∧ RunSt c s ∧ RunSt c t ∧ Twin s t ∧ (∀ h, F.p h → StAt h q.u q.mv q.ev q.sv q.xs s ∧ StAt h r.u r.mv r.ev r.sv r.xs t) ∧ Mem K h [.ro F, .box b7 (q.c s), .box b9 (r.c t)] ∧ ρ 1 = v2 ∧ ρ 2 = .int .i64 sw ∧ ρ 7 = .ptr b7 0 ∧ ρ 9 = .ptr b9 0 ∧ ρ 10 = .int .i64 (k : Int)) ⟨0, newS c, newS c, q0, q0, _, Nat.zero_le _, rfl, hR, hR, Twin.refl _, hF0, hM0, by simp [put_app, put_none, rho0_app, *]⟩ ?_
   repeat clear hM
   clear hM0 hR hF0 k0
   rintro _ ρ h ⟨k, s, t, q, r, F, hk, rfl, hrs, hrt, htw, hF, hM, g1, g2, g7, g9, g10⟩
   have sf := run_fit cf hrs
   have tf := run_fit cf hrt
   by_cases hlt : k < n ∧ k < 30
   ·have dk1 : decide ((k : Int) < (n : Int)) = true := decide_eq_true (by omega)
    have dk2 : decide ((k : Int) < 30) = true := decide_eq_true (by omega)
    obtain ⟨x, hx⟩ : ∃ x, ps[k]? = some x := ⟨ps[k]'(by omega), by simp⟩
    obtain ⟨bo, oo, _, ji, rfl, _, jlo, _⟩ := hps.get T27 rfl T3 rfl hx
    have jl0 := loadV_one T3 rfl jlo
    have jl := loadV_pre hM.pre jl0
    have hw := wrap_succ (n := k) (by omega)
    have hkn : k < n := hlt.1
    clear jlo hx hlt
    rcases Twin.pick htw hrs hrt x with ⟨p, hd1, hd2, hrs2, hrt2, htw2⟩ | ⟨e, hne, hd1, hd2⟩
    ·have sf2 := run_fit cf hrs2
     have tf2 := run_fit cf hrt2
     have hsw := sweepR_may (of_stOk hrt2.ok)
     have hrt3 := runSt_swept hrt2
     have htw3 := htw2.swept
     generalize doS s p = s2 at *
     generalize doS t p = t2 at *
     generalize sweptS t2 = t3 at *
     refine goM ?_
     obtain ⟨_, H7, c1, q2, rfl, k2, m1⟩ := doP_ hd1 h (hF h (hM.fact (F := F) (by (repeat (first | exact Has.here | apply Has.there))))).1 sf
     refine d_callG c1 (.inl m1.pre) ?_
     replace hM := hM.call1 m1
     clear c1 m1 hd1 jl
     refine goM ?_
     refine d_newM (cs := zeroSt) T33 rfl fun b11 H8 hM => ?_
     refine d_putM T33 fun H9 hM => ?_
     have jl := loadV_pre hM.pre jl0
     refine goM ?_
     obtain ⟨_, H10, c1, r2, rfl, l2, m1⟩ := doP_ hd2 H9 (hF H9 (hM.fact (F := F) (by (repeat (first | exact Has.here | apply Has.there))))).2 tf
     refine d_callG c1 (.inl m1.pre) ?_
     replace hM := hM.call1 m1
     clear c1 m1 hd2 jl jl0
     refine goM ?_
     refine d_newM (cs := zeroSt) T33 rfl fun b13 H11 hM => ?_
     refine d_putM T33 fun H12 hM => ?_
     refine goM ?_
     refine l_callG (num_ _ _) ?_
     refine goM ?_
     refine l_callG (num_ _ _) ?_
     refine goM ?_
     refine l_callG (num_ _ _) ?_
     obtain ⟨y, hy, hy0, hy1⟩ := and_mask (k : Int) 31 (by decide) (by decide)
     replace hy : IntKind.i64.wrap ((BitVec.ofInt IntKind.i64.bits (k : Int) &&& BitVec.ofInt IntKind.i64.bits 31).toNat : Int) = y := hy
     have hyn : (y < 0) = False := eq_false (by omega)
     clear hy0 hy1 ji
     refine goM ?_
     refine cond_go (fun hb => ?_) (fun hb => ?_)
     ·refine goM ?_
      obtain ⟨_, H13, c1, r3, rfl, l3, m1⟩ := sweepQ_ hsw H12 (l2.at_ hM) tf2
      refine l_callG c1 ?_
      replace hM := hM.call1 m1
      clear c1 m1 hsw hb
      refine goM ?_
      refine l_newM (cs := zeroSt) T33 rfl fun b15 H14 hM => ?_
      refine l_putM T33 fun H15 hM => ?_
      refine goM ?_
      refine l_callG (num_ _ _) ?_
      refine goM ?_
      refine l_putM T33 (b := b13) (cs := r2.c t2) fun H16 hM => ?_
      refine goM ?_
      refine l_putM T33 (b := b7) (cs := q.c s) fun H17 hM => ?_
      refine goM ?_
      refine l_putM T33 (b := b9) (cs := r.c t) fun H18 hM => ?_
      refine goM ?_
      have h1 := ((hM.front (r := .box b9 (r3.c t3)) (by (repeat (first | exact Take.here | apply Take.there)))).front (r := .box b7 (q2.c s2)) (by (repeat (first | exact Take.here | apply Take.there)))).front (r := r3.own t3) (by (repeat (first | exact Take.here | apply Take.there)))
      have h2 := two_own (h1.front (r := q2.own s2) (by (repeat (first | exact Take.here | apply Take.there))))
      exact ⟨n - (k + 1), by omega, k + 1, s2, t3, q2, r3, _, by omega, rfl, hrs2, hrt3, htw3, two_ats k2 l3, h2.sub (by (repeat (first | exact List.Sublist.slnil | exact List.Sublist.refl _ | refine List.Sublist.cons_cons _ ?_ | refine List.Sublist.cons _ ?_))), by simp [put_app, put_none, *]⟩
     ·clear hb hsw hrt3 htw3
      refine goM ?_
      refine l_putM T33 (b := b7) (cs := q.c s) fun H17 hM => ?_
      refine goM ?_
      refine l_putM T33 (b := b9) (cs := r.c t) fun H18 hM => ?_
      refine goM ?_
      have h1 := ((hM.front (r := .box b9 (r2.c t2)) (by (repeat (first | exact Take.here | apply Take.there)))).front (r := .box b7 (q2.c s2)) (by (repeat (first | exact Take.here | apply Take.there)))).front (r := r2.own t2) (by (repeat (first | exact Take.here | apply Take.there)))
      have h2 := two_own (h1.front (r := q2.own s2) (by (repeat (first | exact Take.here | apply Take.there))))
      exact ⟨n - (k + 1), by omega, k + 1, s2, t2, q2, r2, _, by omega, rfl, hrs2, hrt2, htw2, two_ats k2 l2, h2.sub (by (repeat (first | exact List.Sublist.slnil | exact List.Sublist.refl _ | refine List.Sublist.cons_cons _ ?_ | refine List.Sublist.cons _ ?_))), by simp [put_app, put_none, *]⟩
    ·have hee : (e != 0) = true := by simpa using hne
     have hee2 : (e != e) = false := by simp
     clear hne
     refine goM ?_
     obtain ⟨_, H7, c1, q2, rfl, k2, m1⟩ := doP_ hd1 h (hF h (hM.fact (F := F) (by (repeat (first | exact Has.here | apply Has.there))))).1 sf
     refine d_callG c1 (.inl m1.pre) ?_
     replace hM := hM.call1 m1
     clear c1 m1 hd1 jl
     refine goM ?_
     refine d_newM (cs := zeroSt) T33 rfl fun b11 H8 hM => ?_
     refine d_putM T33 fun H9 hM => ?_
     have jl := loadV_pre hM.pre jl0
     refine goM ?_
     obtain ⟨_, H10, c1, r2, rfl, l2, m1⟩ := doP_ hd2 H9 (hF H9 (hM.fact (F := F) (by (repeat (first | exact Has.here | apply Has.there))))).2 tf
     refine d_callG c1 (.inl m1.pre) ?_
     replace hM := hM.call1 m1
     clear c1 m1 hd2 jl jl0
     refine goM ?_
     refine d_newM (cs := zeroSt) T33 rfl fun b13 H11 hM => ?_
     refine d_putM T33 fun H12 hM => ?_
     refine goM ?_
     refine l_callG (num_ _ _) ?_
     refine goM ?_
     refine l_callG (num_ _ _) ?_
     refine goM ?_
     refine l_callG (num_ _ _) ?_
     refine goM ?_
     exact ⟨n - (k + 1), by omega, k + 1, s, t, q, r, F, by omega, rfl, hrs, hrt, htw, hF, hM.subG, by simp [put_app, put_none, *]⟩
   ·by_cases hk1 : k < n
    ·have dk1 : decide ((k : Int) < (n : Int)) = true := decide_eq_true (by omega)
     have dk2 : decide ((k : Int) < 30) = false := decide_eq_false (by omega)
     clear hlt hk1
     refine goM ?_
     exact ⟨s, t, q, r, F, hrs, hrt, htw, hF, hM, by simp [put_app, put_none, *]⟩
    ·have dk1 : decide ((k : Int) < (n : Int)) = false := decide_eq_false (by omega)
     clear hlt hk1
     refine goM ?_
     exact ⟨s, t, q, r, F, hrs, hrt, htw, hF, hM, by simp [put_app, put_none, *]⟩
  ·repeat clear hM
   clear hM0 hR hF0 k0
   rintro ρ h ⟨s, t, q, r, F, hrs, hrt, htw, hF, hM, g7, g9⟩
   have sf := run_fit cf hrs
   have hel := (events_all hrs.ok.es).2.1
   obtain ⟨hat, hbt⟩ := hF h (hM.fact (F := F) (by (repeat (first | exact Has.here | apply Has.there))))
   obtain ⟨m, hm⟩ : ∃ m, s.ms.length = m := ⟨_, rfl⟩
   have hm2 : t.ms.length = m := by have := congrArg List.length htw.ms; simpa [hm] using this
   have hm8 : m ≤ 8 := by
    have h1 := run_len hrs
    obtain ⟨⟨_, h8⟩, _⟩ := cfgMay_split hrs.ok.c
    rw [hrs.c] at h8
    omega
   have g1 := hat.ms.len T29 rfl
   rw [hat.len, hm] at g1
   have g2 := hbt.ms.len T29 rfl
   rw [hbt.len, hm2] at g2
   have hmm : ((m : Int) != (m : Int)) = false := by simp
   have hes := htw.es
   have hms := htw.ms
   clear hat hbt htw hrs hrt
   refine goM ?_
   refine wq_loop (fun cc ρ h => ∃ (j : Nat), j ≤ m ∧ cc = m - j ∧ Mem K h [.ro F, .box b7 (q.c s), .box b9 (r.c t)] ∧ ρ 7 = .ptr b7 0 ∧ ρ 9 = .ptr b9 0 ∧ ρ 17 = .int .i64 (j : Int)) ⟨0, Nat.zero_le _, rfl, hM, by simp [put_app, put_none, *]⟩ ?_
   repeat clear hM
   clear g7 g9
   rintro _ ρ h ⟨j, hj, rfl, hM, g7, g9, g17⟩
   obtain ⟨hat, hbt⟩ := hF h (hM.fact (F := F) (by (repeat (first | exact Has.here | apply Has.there))))
   by_cases hj' : j < m
   ·have dj : decide ((j : Int) < (m : Int)) = true := decide_eq_true (by omega)
    have hw := wrap_succ (n := j) (by omega)
    obtain ⟨m0, hm0⟩ : ∃ m0, s.ms[j]? = some m0 := ⟨s.ms[j]'(by omega), by simp⟩
    obtain ⟨m1, hm1⟩ : ∃ m1, t.ms[j]? = some m1 := ⟨t.ms[j]'(by omega), by simp⟩
    have hmk : m1.1 = m0.1 := by
     have := congrArg (fun l => l[j]?) hms
     simp only [List.getElem?_map, hm0, hm1, Option.map_some, Option.some.injEq] at this
     exact this
    obtain ⟨y0, hy0, hv0⟩ := val_at hat.val hm0
    obtain ⟨y1, hy1, hv1⟩ := val_at hbt.val hm1
    have hk0 := hat.ks y0 (List.mem_of_getElem? hy0)
    have hk1 := hbt.ks y1 (List.mem_of_getElem? hy1)
    have hf0 := sf.kx hat y0 (List.mem_of_getElem? hy0)
    obtain ⟨bo, oo, hi0, _⟩ := mr_at hat.ms hy0
    obtain ⟨bo1, oo1, hi1, _⟩ := mr_at hbt.ms hy1
    obtain ⟨lo0, _⟩ := mr_in hat.ms hi0 hy0
    obtain ⟨lo1, _⟩ := mr_in hbt.ms hi1 hy1
    have hkk : y1.k = y0.k := by rw [show y1.k = m1.1 from congrArg Prod.fst hv1, show y0.k = m0.1 from congrArg Prod.fst hv0, hmk]
    have c1 := sameK_ h y0.w y0.v y1.w y1.v y0.k y1.k hk0 hk1 hf0
    rw [hkk, kEq_self] at c1
    rw [hkk] at lo1
    clear hes hms hm0 hm1 hmk hy0 hy1 hv0 hv1 hkk hk0 hk1 hat hbt hm hm2
    refine goM ?_
    refine d_call0G c1 ?_
    refine goM ?_
    exact ⟨m - (j + 1), by omega, j + 1, hj', rfl, hM, by simp [put_app, put_none, *]⟩
   ·have dj : decide ((j : Int) < (m : Int)) = false := decide_eq_false (by omega)
    have c1 := sameEvents h q.ev r.ev s.es t.es hat.es hbt.es (by omega)
    rw [decide_eq_true hes.symm] at c1
    clear hes hms hat hbt hm hm2
    refine goM ?_
    refine l_callG c1 ?_
    refine goM ?_
    exact end_1 (by first | exact .inl rfl | exact .inr rfl) ⟨rfl, hM.pre⟩
end Go.Proofs.YtaofdhgkgklppaaGreat.VM
