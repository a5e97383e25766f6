/- Joined texts: FoldU, FoldR, FoldV, FoldY, EvF, EvG, FoldA, FoldB, FoldC. -/
import Derived.Test.YtengdmagaeckoaaJF8
/- Layer 24: the program's Of. -/
namespace Go.Proofs.Ytengdmagaeckoaa.VM
open Go
set_option linter.unusedVariables false
set_option linter.unusedSimpArgs false
attribute [local irreducible] wq wqL wqD wqE wqO Th Bk EndR
set_option maxHeartbeats 8000000

def zeroPa : Pa := ⟨.nils, .nils, noChk, 0, false⟩
theorem Mem.zeroPaths {B H : Heap} {M : List Res} (h : Mem B H M) : ∀ n, Mem B H (paths (List.replicate n zeroPa) ++ M)
  | 0 => h
  | n + 1 => by
    have ih := Mem.zeroPaths h n
    exact (((ih.nil 1 intC).nil 1 intC).pack2)
theorem Mem.takePath {B H : Heap} {ps : List Pa} {M : List Res} {i : Nat} {p : Pa} (h : Mem B H (.ro (pack (paths ps)) :: M)) (hp : ps[i]? = some p) : Mem B H [.own 1 intC p.v p.k.vs, .own 1 intC p.w p.k.ws] := by
  have h1 := h.unpacked
  have hm : paPart p ∈ paths ps := by unfold paths; exact List.mem_map_of_mem (List.mem_of_getElem? hp)
  have h2 : Mem B H [paPart p] := h1.sub (List.singleton_sublist.2 (List.mem_append_left _ hm))
  exact (Mem.unpack2 h2).swap
theorem manyOf_mono (es : List Ev) (m : Int) (i : Nat) : manyOf (es.take i) m ≤ manyOf es m := (List.Sublist.filter _ (List.take_sublist i es)).length_le

theorem foldOf_bad (H : Heap) (c : Cfg) (rv v : V) (es : List Ev) (id at_ : Int) (hr : Rows H rv c.rows) (cf : c.Fit) (hes : Sl 6 evC H v es) (hl : es.length ≤ 2 ^ 42) (hb : foldOk c es id at_ = false) :
    Call Try.prog 8 [.agg (cfgC c rv), v, .int .i64 id, .int .i64 at_] H (.tup [.agg (kC .nils .nils noChk), .int .i64 2400]) H := by
  have l1 := cf.rows
  have l2 := cf.row
  have s1 := hes.cells
  refine call_pure fit mixed Try.func8 rfl rfl rfl (by kernel_rfl) rfl fun hM => ?_
  refine wq_seq (wq_line ?_)
  refine l_boxM T27 fun b1 H1 hM => ?_
  refine l_newM (cs := zeroChk) T37 rfl fun b2 H2 hM => ?_
  have c1 := confMay_ H2 c rv (hr.mono hM.pre) (by omega) (fun r hr => by have := l2 r hr; omega)
  have c2 := lineageMay H2 v es c.m (hes.mono hM.pre) (by omega)
  have c3 := confId_ H2 b1 c.m id (by have hrow := hM.row (.there .here); unfold Heap.loadN; rw [hrow]; rfl)
  have c4 := many H2 v es id (hes.mono hM.pre) (by omega)
  unfold foldOk at hb
  obtain ⟨q1, e1⟩ : ∃ q, cfgMay c = q := ⟨_, rfl⟩
  obtain ⟨q2, e2⟩ : ∃ q, eventsMay es c.m = q := ⟨_, rfl⟩
  obtain ⟨q3, e3⟩ : ∃ q, within id 0 (IntKind.i64.wrap (c.m - 1)) = q := ⟨_, rfl⟩
  obtain ⟨q4, e4⟩ : ∃ q, decide (at_ < 0) = q := ⟨_, rfl⟩
  obtain ⟨q5, e5⟩ : ∃ q, decide (at_ > (manyOf es id : Int)) = q := ⟨_, rfl⟩
  have n4 : decide (0 ≤ at_) = !q4 := by rw [← e4]; by_cases h : at_ < 0 <;> simp [h] <;> omega
  have n5 : decide (at_ ≤ (manyOf es id : Int)) = !q5 := by rw [← e5]; by_cases h : at_ > (manyOf es id : Int) <;> simp [h] <;> omega
  rw [e1] at c1 hb
  rw [e2] at c2 hb
  rw [e3] at c3 hb
  rw [n4, n5] at hb
  clear e1 e2 e3 n4 n5 l1 l2 cf hr hl
  cases q1 with
  | false =>
    clear hb
    refine goM ?_
    refine l_callG c1 ?_
    refine goM ?_
    refine l_putM T37 fun H3 hM => ?_
    refine goM ?_
    exact end_2 (by first | exact .inl rfl | exact .inr rfl) ⟨rfl, hM.pre⟩
  | true =>
    refine goM ?_
    refine l_callG c1 ?_
    refine goM ?_
    cases q2 with
    | false =>
      clear hb
      refine l_callG c2 ?_
      refine goM ?_
      refine l_putM T37 fun H3 hM => ?_
      refine goM ?_
      exact end_2 (by first | exact .inl rfl | exact .inr rfl) ⟨rfl, hM.pre⟩
    | true =>
      refine l_callG c2 ?_
      refine goM ?_
      cases q3 with
      | false =>
        clear hb
        refine l_callG c3 ?_
        refine goM ?_
        refine l_putM T37 fun H3 hM => ?_
        refine goM ?_
        exact end_2 (by first | exact .inl rfl | exact .inr rfl) ⟨rfl, hM.pre⟩
      | true =>
        refine l_callG c3 ?_
        cases q4 with
        | true =>
          clear hb
          refine goM ?_
          refine l_putM T37 fun H3 hM => ?_
          refine goM ?_
          exact end_2 (by first | exact .inl rfl | exact .inr rfl) ⟨rfl, hM.pre⟩
        | false =>
          have e5' : q5 = true := by simpa using hb
          subst e5'
          clear hb
          refine goM ?_
          refine l_callG c4 ?_
          refine goM ?_
          refine l_putM T37 fun H3 hM => ?_
          refine goM ?_
          exact end_2 (by first | exact .inl rfl | exact .inr rfl) ⟨rfl, hM.pre⟩

theorem foldOf_good (H : Heap) (c : Cfg) (rv v : V) (es : List Ev) (id at_ : Int) (hr : Rows H rv c.rows) (cf : c.Fit) (hes : Sl 6 evC H v es) (hl : es.length ≤ 2 ^ 42) (hok : foldOk c es id at_ = true) :
    ∃ w H', Call Try.prog 8 [.agg (cfgC c rv), v, .int .i64 id, .int .i64 at_] H w H' ∧ ∃ a b, w = .tup [.agg (kC a b (foldR c es id at_).1), .int .i64 (foldR c es id at_).2] ∧ Mem H H' [.own 1 intC b (foldR c es id at_).1.vs, .own 1 intC a (foldR c es id at_).1.ws] := by
  have l1 := cf.rows
  have l2 := cf.row
  have s1 := hes.cells
  have s2 : rv.cells = [rv] ∧ rv.isTup = false := by obtain ⟨_, h, _⟩ := hr; exact h.cells
  obtain ⟨hc, hev, hid, ha0, ham⟩ := foldOk_split hok
  obtain ⟨hm2, _⟩ := cfgMay_split hc
  obtain ⟨_, hel, _⟩ := eventsMay_at hev
  obtain ⟨id, rfl⟩ : ∃ d : Nat, id = d := ⟨id.toNat, by omega⟩
  obtain ⟨n, hn⟩ : ∃ n : Nat, c.m = n := ⟨c.m.toNat, by omega⟩
  refine call_mem fit mixed Try.func8 rfl rfl rfl (by kernel_rfl) fun hM => ?_
  refine wq_seq (wq_line ?_)
  refine l_boxM T27 fun b1 H1 hM => ?_
  refine l_newM (cs := zeroChk) T37 rfl fun b2 H2 hM => ?_
  have c1 := confMay_ H2 c rv (hr.mono hM.pre) (by omega) (fun r hr => by have := l2 r hr; omega)
  have c2 := lineageMay H2 v es c.m (hes.mono hM.pre) (by omega)
  have c3 := confId_ H2 b1 c.m id (by have hrow := hM.row (.there .here); unfold Heap.loadN; rw [hrow]; rfl)
  have c4 := many H2 v es id (hes.mono hM.pre) (by omega)
  rw [hc] at c1
  rw [hev] at c2
  rw [wrap_m hm2, within_iff.2 ⟨hid.1, by omega⟩] at c3
  have d1 : decide (at_ < 0) = false := decide_eq_false (by omega)
  have d2 : decide (at_ > (manyOf es id : Int)) = false := decide_eq_false (by omega)
  have hn8 : n ≤ 8 := by omega
  have hidn : id < n := by omega
  replace hn : Held (c.m = n) := hn
  refine goM ?_
  refine l_callG c1 ?_
  refine goM ?_
  refine l_callG c2 ?_
  refine goM ?_
  refine l_callG c3 ?_
  refine goM ?_
  refine l_callG c4 ?_
  clear c1 c2 c3 c4
  refine goM ?_
  refine d_makeM 7 pathC T61 rfl T67 (n := n) (z := zeroPa) rfl rfl rfl rfl rfl (hx := by rw [← (show c.m = (n : Int) from hn)]; exact eLk) (hy := by rw [← (show c.m = (n : Int) from hn)]; exact eLk) ⟨by show (88 : Int) * _ ≤ _; have : c.m = n := hn; omega, by have : c.m = n := hn; omega⟩ fun u H3 hM => ?_
  have s3 := (hM.sl .here).cells
  have hlen := (hM.sl .here).len T61 rfl
  rw [List.length_replicate] at hlen
  refine goM ?_
  refine d_boxM T63 (cs := foldC c rv u) fun fb H4 hM => ?_
  replace hM := hM.zeroPaths n
  replace hM := (hM.packed).sub (L' := [.ro (pack (paths (List.replicate n zeroPa))), .box fb (foldC c rv u), .own 7 pathC u (List.replicate n zeroPa), .box b2 zeroChk, .box b1 (cfgC c rv)]) (by (repeat (first | exact List.Sublist.slnil | exact List.Sublist.refl _ | refine List.Sublist.cons_cons _ ?_ | refine List.Sublist.cons _ ?_)))
  refine goM ?_
  -- each member at first
  refine wq_loop (fun cc ρ h => ∃ (k : Nat) (ps : List Pa), k ≤ n ∧ cc = n - k ∧ ps.length = n ∧ (∀ (i : Nat) p, ps[i]? = some p → p.n = 0 ∧ p.bad = false ∧ p.k.Fit ∧ (i < k → p.k = firstKR c i)) ∧ Mem H h [.ro (pack (paths ps)), .box fb (foldC c rv u), .own 7 pathC u ps, .box b2 zeroChk, .box b1 (cfgC c rv)] ∧ ρ 1 = v ∧ ρ 2 = .int .i64 (id : Int) ∧ ρ 3 = .int .i64 at_ ∧ ρ 4 = .ptr b1 0 ∧ ρ 8 = .ptr b2 0 ∧ ρ 10 = .ptr fb 0 ∧ ρ 53 = .int .i64 (n : Int) ∧ ρ 54 = .int .i64 (k : Int)) ⟨0, List.replicate n zeroPa, Nat.zero_le _, rfl, by simp, fun i p hp => ?_, hM, by simp [put_app, put_none, rho0_app, *]⟩ ?_
  · rw [List.getElem?_replicate] at hp
    split at hp
    · cases hp
      exact ⟨rfl, rfl, ⟨by decide, by decide⟩, fun h => by omega⟩
    · cases hp
  repeat clear hM
  rintro _ ρ h ⟨k, ps, hk, rfl, hps, hpa, hM, g1, g2, g3, g4, g8, g10, g53, g54⟩
  refine goM ?_
  refine cond_go (fun hb => ?_) (fun hb => ?_)
  · have hk' : k < n := by simpa using hb
    clear hb
    obtain ⟨p, hp⟩ : ∃ p, ps[k]? = some p := ⟨ps[k]'(by omega), by simp⟩
    obtain ⟨_, H5, c1, a1, a2, rfl, m1⟩ := member_First h c rv k (hr.mono hM.pre) cf
    have s4 := (m1.sl .here).cells
    have s5 := (m1.sl (.there .here)).cells
    have hw := wrap_succ (n := k) (by omega)
    refine goM ?_
    refine l_callG c1 ?_
    replace hM := hM.call2 m1
    clear c1 m1
    refine goM ?_
    refine l_newM (cs := zeroMem) T51 rfl fun b5 H6 hM => ?_
    refine l_putM T51 fun H7 hM => ?_
    refine goM ?_
    obtain ⟨b, o, hi, _⟩ := path_at hM (by (repeat (first | exact Has.here | apply Has.there))) hp
    obtain ⟨H8, st, hM8⟩ := path_put hM (.there (.there (.there (.there (.there .here))))) hp hi 0 T37 (by decide) (w := .agg (kC a1 a2 (firstKR c k))) (p' := ⟨a1, a2, firstKR c k, p.n, p.bad⟩) rfl rfl rfl
    simp only [Nat.add_zero] at st
    have h1 := ((hM8.front (r := .ro (pack (paths ps))) (by (repeat (first | exact Take.here | apply Take.there)))).front (r := .own 1 intC a2 (firstKR c k).vs) (by (repeat (first | exact Take.here | apply Take.there)))).front (r := .own 1 intC a1 (firstKR c k).ws) (by (repeat (first | exact Take.here | apply Take.there)))
    have h2 := Mem.newPath (p := ⟨a1, a2, firstKR c k, p.n, p.bad⟩) h1 (by rw [hps]; exact hk')
    clear h1 hM8
    refine goM ?_
    refine d_stM st ?_
    refine goM ?_
    refine ⟨n - (k + 1), by omega, k + 1, ps.set k ⟨a1, a2, firstKR c k, p.n, p.bad⟩, hk', rfl, by rw [List.length_set]; exact hps, fun i q hq => ?_, h2.sub (by (repeat (first | exact List.Sublist.slnil | exact List.Sublist.refl _ | refine List.Sublist.cons_cons _ ?_ | refine List.Sublist.cons _ ?_))), by simp [put_app, put_none, *]⟩
    rw [List.getElem?_set] at hq
    split at hq
    · rename_i e
      subst e
      rw [if_pos (by omega)] at hq
      cases hq
      obtain ⟨e1, e2, _⟩ := hpa _ _ hp
      exact ⟨e1, e2, firstKR_fit c k, fun _ => rfl⟩
    · rename_i e
      obtain ⟨e1, e2, e3, e4⟩ := hpa _ _ hq
      exact ⟨e1, e2, e3, fun h => e4 (by omega)⟩
  · have hk' : k = n := by have : ¬ k < n := by simpa using hb
                           omega
    subst hk'
    clear hb hk
    have hcm : c.m = (k : Int) := hn
    have hok0 : PathsOk c es 0 ps := paths_start hc (by omega) fun i p hp => by
      obtain ⟨e1, e2, _, e4⟩ := hpa i p hp
      exact ⟨e4 (by have := (List.getElem?_eq_some_iff.1 hp).1; omega), e1, e2⟩
    clear hpa
    clear hcm
    refine goM ?_
    refine wq_loop (fun cc ρ h => ∃ (i : Nat) (ps : List Pa), i ≤ es.length ∧ cc = es.length - i ∧ (manyOf (es.take i) id : Int) ≤ at_ ∧ PathsOk c es i ps ∧ Mem H h [.ro (pack (paths ps)), .box fb (foldC c rv u), .own 7 pathC u ps, .box b2 zeroChk, .box b1 (cfgC c rv)] ∧ ρ 1 = v ∧ ρ 2 = .int .i64 (id : Int) ∧ ρ 3 = .int .i64 at_ ∧ ρ 8 = .ptr b2 0 ∧ ρ 10 = .ptr fb 0 ∧ ρ 15 = .int .i64 (i : Int)) ⟨0, ps, Nat.zero_le _, rfl, by show (0 : Int) ≤ _; omega, hok0, hM, by simp [put_app, put_none, *]⟩ ?_
    repeat clear hM
    clear hok0 hps g1 g2 g3 g4 g8 g10 g53 g54
    rintro _ ρ h ⟨i, ps, hie, rfl, hma, hpo, hM, g1, g2, g3, g8, g10, g15⟩
    have hpl : ps.length = k := by have : c.m = (k : Int) := hn; have := hpo.len; omega
    obtain ⟨p, hp⟩ : ∃ p, ps[id]? = some p := ⟨ps[id]'(by omega), by simp⟩
    obtain ⟨b, o, hi, l0, l5, l6⟩ := path_at hM (by (repeat (first | exact Has.here | apply Has.there))) hp
    have hpn := hpo.n _ _ hp
    have hpw := hpo.now _ _ hp
    obtain ⟨pw, pv, pk, pn, pb⟩ := p
    simp only at l0 l5 l6 hpn hpw
    by_cases hlt : pn < at_
    · have dlt : decide (pn < at_) = true := decide_eq_true hlt
      have hil : i < es.length := by
        by_cases h : i < es.length
        · exact h
        · rw [List.take_of_length_le (by omega)] at hpn
          omega
      obtain ⟨e, he⟩ : ∃ e, es[i]? = some e := ⟨es[i]'(by omega), by simp⟩
      obtain ⟨eb, eo, ecs, hix, hec, _, hlo, hlc⟩ := (hes.mono hM.pre).get T33 rfl T32 rfl he
      rw [hec] at hlo hlc
      obtain ⟨hmb, hd, hkd, hy⟩ := evMay_in ((eventsMay_at hev).2.2 i e he)
      have hcm : c.m = (k : Int) := hn
      obtain ⟨q, hq⟩ : ∃ q, ps[e.member.toNat]? = some q := ⟨ps[e.member.toNat]'(by omega), by simp⟩
      have hqn := hpo.n _ _ hq
      have hqn2 := manyOf_le (es.take i) ((e.member.toNat : Nat) : Int)
      rw [List.length_take] at hqn2
      have hfr : Mem H h (.box fb (foldC c rv u) :: .own 7 pathC u ps :: .ro (pack (paths ps)) :: [.box b2 zeroChk, .box b1 (cfgC c rv)]) := ((hM.front (r := .own 7 pathC u ps) (by (repeat (first | exact Take.here | apply Take.there)))).front (r := .box fb (foldC c rv u)) (by (repeat (first | exact Take.here | apply Take.there)))).sub (by (repeat (first | exact List.Sublist.slnil | exact List.Sublist.refl _ | refine List.Sublist.cons_cons _ ?_ | refine List.Sublist.cons _ ?_)))
      obtain ⟨w, H5, c1, rfl, p', hp1, hp2, hM2⟩ := take24_ H h [.box b2 zeroChk, .box b1 (cfgC c rv)] c rv u ps fb eb eo e q hfr hr cf (fun i p hp => kFits_fit (hpo.fits i p hp)) (loadV_one T3 rfl (hlc 0 _ rfl)) (loadV_one T3 rfl (hlc 1 _ rfl)) (loadV_one T3 rfl (hlc 2 _ rfl)) (loadV_agg T30 rfl (loadN_in hlo (by decide))) hmb.1 hq
        (fun h1 => by
          obtain ⟨hdi, _⟩ := hd h1
          exact ⟨ps[e.donor.toNat]'(by omega), hdi.1, by simp⟩) (by rw [hqn]; omega)
      have hpo2 := took_ok hc hev he hpo hq hp1 hp2
      have hw := wrap_succ (n := i) (by omega)
      have hms := manyOf_succ (m := (id : Int)) he
      have hma2 : (manyOf (es.take (i + 1)) id : Int) ≤ at_ := by rw [hms]; split <;> omega
      clear hcm hpn hpw hqn hqn2 hfr hlc hlo hp1 hp2 hq hp he hd hmb hms
      refine goM ?_
      refine l_callG c1 ?_
      refine goM ?_
      exact ⟨es.length - (i + 1), by omega, i + 1, _, hil, rfl, hma2, hpo2, (hM2.front (r := .ro (pack (paths (ps.set e.member.toNat p')))) (by (repeat (first | exact Take.here | apply Take.there)))), by simp [put_app, put_none, *]⟩
    · have dlt : decide (pn < at_) = false := decide_eq_false hlt
      have hpe : at_ = (manyOf (es.take i) id : Int) := by omega
      have hfn := foldK_now (c := c) hev hid.1 hid.2 hie
      rw [← hpe, hpw] at hfn
      have hkat := paths_at (hM.factG) hp
      have t1 := hkat.ws.cells
      have t2 := hkat.vs.cells
      simp only at t1 t2
      clear hpn hpw hpe hlt hkat
      cases pb with
      | true =>
        rw [if_pos rfl] at hfn
        rw [foldR_none hfn]
        clear hfn
        refine goM ?_
        refine l_putM T37 fun H5 hM => ?_
        refine goM ?_
        exact end_2 (by first | exact .inl rfl | exact .inr rfl) ⟨.nils, .nils, rfl, ((hM.sub (L' := []) (by (repeat (first | exact List.Sublist.slnil | exact List.Sublist.refl _ | refine List.Sublist.cons_cons _ ?_ | refine List.Sublist.cons _ ?_)))).nil 1 intC).nil 1 intC⟩
      | false =>
        rw [if_neg (by decide)] at hfn
        rw [foldR_some hok hfn]
        clear hfn
        refine goM ?_
        refine l_putM T37 fun H5 hM => ?_
        refine goM ?_
        exact end_2 (by first | exact .inl rfl | exact .inr rfl) ⟨pw, pv, rfl, hM.takePath hp⟩

theorem foldOf_ (H : Heap) (c : Cfg) (rv v : V) (es : List Ev) (id at_ : Int) (hr : Rows H rv c.rows) (cf : c.Fit) (hes : Sl 6 evC H v es) (hl : es.length ≤ 2 ^ 42) :
    ∃ w H', Call Try.prog 8 [.agg (cfgC c rv), v, .int .i64 id, .int .i64 at_] H w H' ∧ ∃ a b, w = .tup [.agg (kC a b (foldR c es id at_).1), .int .i64 (foldR c es id at_).2] ∧ Mem H H' [.own 1 intC b (foldR c es id at_).1.vs, .own 1 intC a (foldR c es id at_).1.ws] := by
  cases hok : foldOk c es id at_ with
  | false =>
    rw [foldR_no hok]
    exact ⟨_, H, foldOf_bad H c rv v es id at_ hr cf hes hl hok, .nils, .nils, rfl, ((Mem.start H).nil 1 intC).nil 1 intC⟩
  | true => exact foldOf_good H c rv v es id at_ hr cf hes hl hok
end Go.Proofs.Ytengdmagaeckoaa.VM

/- Layer 24, the plain law: one event upon the fold ahead of it; events that are all training. -/
namespace Go.Proofs.Ytengdmagaeckoaa.VM
open Go
set_option linter.unusedVariables false
set_option linter.unusedSimpArgs false
attribute [local irreducible] wq wqL wqD wqE wqO Th Bk EndR
set_option maxHeartbeats 8000000

theorem fold_on {c : Cfg} {es : List Ev} (hm : eventsMay es c.m = true) {m : Int} {j : Nat} {e : Ev} (he : es[j]? = some e) (hmb : e.member = m) (hl : manyOf es m = manyOf (es.take (j + 1)) m) :
    1 ≤ manyOf es m ∧ foldK c es m (manyOf es m : Nat) = turnK c e (foldK c es m ((manyOf es m - 1 : Nat) : Int)) (if e.kind = 1 then foldK c es e.donor e.at_ else none) := by
  subst hmb
  have hj := (List.getElem?_eq_some_iff.1 he).1
  obtain ⟨hmb, hd, _⟩ := evMay_in ((eventsMay_at hm).2.2 j e he)
  have h1 := manyOf_succ (m := e.member) he
  rw [if_pos rfl] at h1
  have h2 := foldK_now (c := c) hm hmb.1 hmb.2 (i := j + 1) (by omega)
  have h3 := foldK_now (c := c) hm hmb.1 hmb.2 (i := j) (by omega)
  rw [← hl] at h2
  have h4 : manyOf (es.take j) e.member = manyOf es e.member - 1 := by omega
  rw [h4] at h3
  refine ⟨by omega, ?_⟩
  rw [h2, h3, nowH_step hm he hmb.1 hmb.2, if_pos rfl]
  by_cases hk : e.kind = 1
  · rw [if_pos hk, if_pos hk]
    obtain ⟨hdi, _, hat⟩ := hd hk
    rw [hat, foldK_now (c := c) hm hdi.1 hdi.2 (i := j) (by omega)]
  · rw [if_neg hk, if_neg hk]

def trainO (c : Cfg) (id : Int) (k : Option Chk) : Option Chk := match k with
  | none => none
  | some k => if (trainR c id k).2 = 0 then some (trainR c id k).1 else none
def trainsO (c : Cfg) (id : Int) : Nat → Option Chk
  | 0 => some (firstKR c id)
  | n + 1 => trainO c id (trainsO c id n)
theorem turnK_train {c : Cfg} {e : Ev} (h : e.kind = 0) (k d : Option Chk) : turnK c e k d = trainO c e.member k := by
  unfold turnK trainO
  cases k with
  | none => rfl
  | some k =>
    simp only
    rw [if_pos h]
theorem now_trains {c : Cfg} {es : List Ev} (hm : eventsMay es c.m = true) (hk : ∀ e ∈ es, e.kind = 0) {m : Int} (h0 : 0 ≤ m) (h : m < c.m) : ∀ k, k ≤ es.length → nowH (foldH c (es.take k)) m = trainsO c m (manyOf (es.take k) m)
  | 0, _ => by
    have h3 : foldH c (es.take 0) = startH c := rfl
    rw [h3]
    unfold nowH
    rw [startH_row h0 h]; rfl
  | k + 1, hlt => by
    have ih := now_trains hm hk h0 h k (by omega)
    have he : es[k]? = some (es[k]'(by omega)) := by simp
    generalize es[k]'(by omega) = e at he
    rw [nowH_step hm he h0 h, manyOf_succ he]
    by_cases hme : m = e.member
    · subst hme
      rw [if_pos rfl, if_pos rfl, turnK_train (hk e (List.mem_of_getElem? he)), ih]; rfl
    · rw [if_neg hme, if_neg (fun h => hme h.symm), ih, Nat.add_zero]
theorem fold_trains {c : Cfg} {es : List Ev} (hm : eventsMay es c.m = true) (hk : ∀ e ∈ es, e.kind = 0) {m : Int} (h0 : 0 ≤ m) (h : m < c.m) : foldK c es m (manyOf es m : Nat) = trainsO c m (manyOf es m) := by
  have h1 := foldK_now (c := c) hm h0 h (i := es.length) (Nat.le_refl _)
  have h2 := now_trains (c := c) hm hk h0 h es.length (Nat.le_refl _)
  rw [List.take_length] at h1 h2
  rw [h1, h2]
theorem trainsO_spec {c : Cfg} (hc : cfgMay c = true) {m : Int} (h0 : 0 ≤ m) (h : m < c.m) : ∀ n : Nat, ((n : Int) ≤ c.total → ∃ k, trainsO c m n = some k ∧ k.t = n ∧ kFits c k = true) ∧ (c.total < (n : Int) → trainsO c m n = none)
  | 0 => by
    obtain ⟨hm2, _, _, ht, _⟩ := cfgMay_split hc
    have hok : firstOk c m = true := by
      unfold firstOk
      rw [hc, wrap_m hm2, within_iff.2 ⟨h0, by omega⟩]; rfl
    refine ⟨fun _ => ⟨firstK c m, ?_, rfl, firstK_fits hc m⟩, fun h => by omega⟩
    show some (firstKR c m) = _
    unfold firstKR
    rw [if_pos hok]
  | n + 1 => by
    obtain ⟨_, _, _, ht, _⟩ := cfgMay_split hc
    obtain ⟨ih1, ih2⟩ := trainsO_spec hc h0 h n
    refine ⟨fun hn => ?_, fun hn => ?_⟩
    · obtain ⟨k, hk, hkt, hkf⟩ := ih1 (by omega)
      refine ⟨trainK c m k, ?_, ?_, train_fits hkf (by omega)⟩
      · show trainO c m (trainsO c m n) = _
        rw [hk]
        unfold trainO
        simp only
        rw [trainR_go hc ⟨h0, h⟩ hkf (by omega)]; rfl
      · show k.t + 1 = _
        rw [hkt]; omega
    · show trainO c m (trainsO c m n) = _
      by_cases hlt : c.total < (n : Int)
      · rw [ih2 hlt]; rfl
      · obtain ⟨k, hk, hkt, hkf⟩ := ih1 (by omega)
        rw [hk]
        unfold trainO
        simp only
        rw [trainR_done hc ⟨h0, h⟩ hkf (by omega)]
        rfl
end Go.Proofs.Ytengdmagaeckoaa.VM

/- Layer 24: the document's turned and CopyCheck. -/
namespace Go.Proofs.Ytengdmagaeckoaa.VM
open Go
set_option linter.unusedVariables false
set_option linter.unusedSimpArgs false
attribute [local irreducible] wq wqL wqD wqE wqO Th Bk EndR
set_option maxHeartbeats 8000000

/-- a slice of numbers that is one of some parts, or nil -/
def Lies (W : List Res) (v : V) (xs : List Int) : Prop := (v = .nils ∧ xs = []) ∨ Res.own 1 intC v xs ∈ W
theorem Lies.more {W : List Res} {v : V} {xs : List Int} (h : Lies W v xs) (N : List Res) : Lies (N ++ W) v xs := h.imp id fun h => List.mem_append_right _ h
theorem Lies.sl {W : List Res} {v : V} {xs : List Int} (h : Lies W v xs) {H : Heap} (hW : (pack W).p H) : Sl 1 intC H v xs := by
  rcases h with ⟨rfl, rfl⟩ | h
  · exact .inl ⟨rfl, rfl⟩
  · have hm := pack_mem hW
    have h2 : Mem [] H [.own 1 intC v xs] := hm.sub (List.singleton_sublist.2 h)
    exact h2.sl .here
theorem good_len {c : Cfg} {k : Option Chk} (h : Good c k) : ((k.getD noChk).ws.length : Int) = 0 ↔ k = none := by
  cases k with
  | none => simp
  | some k =>
    have := (kFits_len (h k rfl)).2.1
    simp; intro h; rw [h] at this; simp at this
theorem getD_fit {c : Cfg} {k : Option Chk} (h : Good c k) : (k.getD noChk).Fit := by
  cases k with
  | none => exact ⟨by simp, by simp⟩
  | some k => exact kFits_fit (h k rfl)

abbrev evV (e : Ev) : List V := [.int .i64 e.kind, .int .i64 e.member, .int .i64 e.donor, .int .i64 e.at_, .int .i64 e.rate, .int .i64 e.mom]
abbrev zeroEv : List V := [.int .i64 0, .int .i64 0, .int .i64 0, .int .i64 0, .int .i64 0, .int .i64 0]

end Go.Proofs.Ytengdmagaeckoaa.VM

/- Chapter 24: the small config; what every program answers. -/
namespace Go.Proofs.Ytengdmagaeckoaa.VM
open Go
set_option linter.unusedVariables false
set_option linter.unusedSimpArgs false
attribute [local irreducible] wq wqL wqD wqE wqO Th Bk EndR
set_option maxHeartbeats 8000000

theorem small24_ (H : Heap) : ∃ w H', Call Try.prog 7 [] H w H' ∧ ∃ rv xv, w = .agg (cfgC smallC rv) ∧ Mem H H' [.ro (rowsFact rv xv smallC.rows)] := by
  refine call_mem fit mixed Try.func7 rfl rfl rfl (by kernel_rfl) fun hM => ?_
  refine wq_seq (wq_line ?_)
  refine l_newM (cs := zeroCfg) T27 rfl fun b0 H1 hM => ?_
  refine goM ?_
  refine l_sliceM intC [65536] [.int .i64 65536] T35 rfl T3 rfl (cells_ints [65536]) (by decide) (fun x1 H2 hM => ?_)
  have t1 := (hM.sl .here).cells
  refine goM ?_
  refine l_sliceM intC [-65536] [.int .i64 (-65536)] T35 rfl T3 rfl (cells_ints [-65536]) (by decide) (fun x2 H3 hM => ?_)
  have t2 := (hM.sl .here).cells
  refine goM ?_
  refine l_sliceM rowC [(x1, 32768), (x2, 0)] [x1, .int .i64 32768, x2, .int .i64 0] T25 rfl T55 rfl (cells_rows [(x1, 32768), (x2, 0)]) (by decide) (fun rv H4 hM => ?_)
  have t3 := (hM.sl .here).cells
  refine goM ?_
  refine l_putM T27 fun H5 hM => ?_
  refine goM ?_
  refine end_1 (by first | exact .inl rfl | exact .inr rfl) ⟨rv, [(x1, 32768), (x2, 0)], rfl, Mem.mkro hM.pre ⟨hM.slG, rfl, fun k p r hp hr => ?_⟩ fun c hc => ?_⟩
  · match k, hp, hr with
    | 0, hp, hr => cases hp; cases hr; exact ⟨hM.slG, rfl⟩
    | 1, hp, hr => cases hp; cases hr; exact ⟨hM.slG, rfl⟩
  · rcases hc with hc | ⟨q, hq, hc⟩
    · exact hM.low (.own 2 rowC rv [(x1, 32768), (x2, 0)]) (by simp) c hc
    · simp at hq
      rcases hq with rfl | rfl
      · exact hM.low (.own 1 intC x1 [65536]) (by simp) c hc
      · exact hM.low (.own 1 intC x2 [-65536]) (by simp) c hc

def ev24 : List Ev := [⟨0, 1, 0, 0, 0, 0⟩, ⟨0, 0, 0, 0, 0, 0⟩, ⟨1, 0, 1, 1, 0, 0⟩, ⟨2, 0, 0, 0, 64, 1⟩]
def ev4 : List Ev := [⟨0, 0, 0, 0, 0, 0⟩, ⟨0, 0, 0, 0, 0, 0⟩, ⟨0, 0, 0, 0, 0, 0⟩, ⟨0, 0, 0, 0, 0, 0⟩]
theorem cells_evs (xs : List Ev) : Cells 6 evC (xs.flatMap fun e => evV e) xs := cells_of (R := evC) (fun e => evV e) (fun x => ⟨rfl, rfl⟩) xs
theorem trainO_go {c : Cfg} {id : Int} {k : Chk} (hc : cfgMay c = true) (hid : 0 ≤ id ∧ id < c.m) (hk : kFits c k = true) (ht : k.t < c.total) : trainO c id (some k) = some (trainK c id k) := by
  unfold trainO
  simp only
  rw [trainR_go hc hid hk ht]; rfl
theorem now_zero {c : Cfg} (hc : cfgMay c = true) (es : List Ev) {m : Int} (h0 : 0 ≤ m) (h : m < c.m) : nowH (foldH c (es.take 0)) m = some (firstK c m) := by
  have e : foldH c (es.take 0) = startH c := rfl
  obtain ⟨hm2, _⟩ := cfgMay_split hc
  have hok : firstOk c m = true := by
    unfold firstOk
    rw [hc, wrap_m hm2, within_iff.2 ⟨h0, by omega⟩]; rfl
  rw [e]
  unfold nowH
  rw [startH_row h0 h]
  show some (firstKR c m) = _
  unfold firstKR
  rw [if_pos hok]
theorem fold24_a : foldR smallC ev24 0 3 = (⟨(trainK smallC 1 (firstK smallC 1)).ws, (trainK smallC 1 (firstK smallC 1)).vs, 64, 1, 1⟩, 0) := by
  have hc := small_may
  have hev : eventsMay ev24 smallC.m = true := by decide +kernel
  have hok : foldOk smallC ev24 0 3 = true := by decide +kernel
  have hA : (trainK smallC 0 (firstK smallC 0)).t = 1 := rfl
  have a0 := now_zero hc ev24 (m := 0) (by decide) (by decide)
  have a1 := now_zero hc ev24 (m := 1) (by decide) (by decide)
  have g0 := trainO_go (id := 0) hc (by decide) (firstK_fits hc 0) (by decide)
  have g1 := trainO_go (id := 1) hc (by decide) (firstK_fits hc 1) (by decide)
  generalize trainK smallC 0 (firstK smallC 0) = A at *
  generalize trainK smallC 1 (firstK smallC 1) = K at *
  generalize firstK smallC 0 = F0 at *
  generalize firstK smallC 1 = F1 at *
  have b0 := nowH_step (c := smallC) hev (k := 0) (e := ⟨0, 1, 0, 0, 0, 0⟩) rfl (m := 0) (by decide) (by decide)
  have b1 := nowH_step (c := smallC) hev (k := 0) (e := ⟨0, 1, 0, 0, 0, 0⟩) rfl (m := 1) (by decide) (by decide)
  rw [if_neg (by decide), a0] at b0
  rw [if_pos rfl, turnK_train rfl, a1] at b1
  replace b1 := b1.trans g1
  have c0 := nowH_step (c := smallC) hev (k := 1) (e := ⟨0, 0, 0, 0, 0, 0⟩) rfl (m := 0) (by decide) (by decide)
  have c1 := nowH_step (c := smallC) hev (k := 1) (e := ⟨0, 0, 0, 0, 0, 0⟩) rfl (m := 1) (by decide) (by decide)
  rw [if_pos rfl, turnK_train rfl, b0] at c0
  replace c0 := c0.trans g0
  rw [if_neg (by decide), b1] at c1
  have d0 := nowH_step (c := smallC) hev (k := 2) (e := ⟨1, 0, 1, 1, 0, 0⟩) rfl (m := 0) (by decide) (by decide)
  rw [if_pos rfl, if_pos rfl, c0, c1] at d0
  have e0 := nowH_step (c := smallC) hev (k := 3) (e := ⟨2, 0, 0, 0, 64, 1⟩) rfl (m := 0) (by decide) (by decide)
  rw [if_pos rfl, d0] at e0
  have hk := foldK_now (c := smallC) hev (id := 0) (by decide) (by decide) (i := 4) (by decide)
  rw [show (4 : Nat) = 3 + 1 from rfl, e0] at hk
  refine foldR_some hok ?_
  refine Eq.trans (hk : foldK smallC ev24 0 3 = _) ?_
  show some (⟨K.ws, K.vs, 64, 1, A.t⟩ : Chk) = _
  rw [hA]
theorem fold24_b : foldR smallC ev24 0 4 = (noChk, 2400) := foldR_no (by decide +kernel)
theorem fold24_c : foldR smallC ev24 2 0 = (noChk, 2400) := foldR_no (by decide +kernel)
theorem fold24_d : foldR smallC ev4 0 4 = (noChk, 2400) := by
  have hev : eventsMay ev4 smallC.m = true := by decide +kernel
  refine foldR_none ?_
  have h := fold_trains (c := smallC) hev (by decide) (m := 0) (by decide) (by decide)
  refine Eq.trans (h : foldK smallC ev4 0 4 = _) ?_
  exact (trainsO_spec small_may (m := 0) (by decide) (by decide) 4).2 (by decide)
theorem fold24_e : ∃ k, foldR smallC ev4 0 3 = (k, 0) ∧ k.t = 3 ∧ k.Fit := by
  have hev : eventsMay ev4 smallC.m = true := by decide +kernel
  have hok : foldOk smallC ev4 0 3 = true := by decide +kernel
  have hok3 : foldOk smallC (ev4.take 3) 0 3 = true := by decide +kernel
  have hev3 : eventsMay (ev4.take 3) smallC.m = true := by decide +kernel
  have h := fold_trains (c := smallC) hev3 (by decide) (m := 0) (by decide) (by decide)
  obtain ⟨k, h1, h2, h3⟩ := (trainsO_spec small_may (m := 0) (by decide) (by decide) 3).1 (by decide)
  have hk : foldK smallC (ev4.take 3) 0 3 = some k := Eq.trans (h : foldK smallC (ev4.take 3) 0 3 = _) h1
  have hm := fold_more (c := smallC) (es := ev4) (i := 3) (by decide) hev hok3
  exact ⟨k, hm.trans (foldR_some hok3 hk), h2, kFits_fit h3⟩

theorem awake24_ (K : Heap) : Call Try.prog 6 [] K (.bool true) K := by
  have hsm := small24_
  have hO : ∀ (H : Heap) (rv v : V) (es : List Ev) (id at_ : Int), Rows H rv smallC.rows → Sl 6 evC H v es → es.length ≤ 2 ^ 42 → ∃ w H', Call Try.prog 8 [.agg (cfgC smallC rv), v, .int .i64 id, .int .i64 at_] H w H' ∧ ∃ a b, w = .tup [.agg (kC a b (foldR smallC es id at_).1), .int .i64 (foldR smallC es id at_).2] ∧ Mem H H' [.own 1 intC b (foldR smallC es id at_).1.vs, .own 1 intC a (foldR smallC es id at_).1.ws] :=
    fun H rv v es id at_ hr hs hl => foldOf_ H smallC rv v es id at_ hr small_fit hs hl
  have hF : ∀ (H : Heap) (rv : V), Rows H rv smallC.rows → ∃ w H', Call Try.prog 14 [.agg (cfgC smallC rv), .int .i64 1] H w H' ∧ ∃ a b, w = .tup [.agg (mC a b (firstK smallC 1) 0), .str (strOf (firstS smallC 1)), .int .i64 0] ∧ Mem H H' [.own 1 intC b (firstK smallC 1).vs, .own 1 intC a (firstK smallC 1).ws] := fun H rv hr => refFirst_good H smallC rv 1 hr small_may (by decide)
  have hT : ∀ (H : Heap) (rv w v : V), Rows H rv smallC.rows → KAt H w v (firstK smallC 1) → ∃ a b H', Call Try.prog 12 [.agg (cfgC smallC rv), .int .i64 1, .agg (kC w v (firstK smallC 1))] H (.tup [.agg (kC a b (trainK smallC 1 (firstK smallC 1))), .int .i64 0]) H' ∧ Mem H H' [.own 1 intC a (trainK smallC 1 (firstK smallC 1)).ws, .own 1 intC b (trainK smallC 1 (firstK smallC 1)).vs] := fun H rv w v hr hk => by
    have := refTrain_ H smallC rv w v 1 (firstK smallC 1) hr hk small_fit (kFits_fit (firstK_fits small_may 1))
    rw [trainR_go small_may (by decide) (firstK_fits small_may 1) (by decide)] at this
    exact this
  have f1 := fold24_a
  have f2 := fold24_b
  have f3 := fold24_c
  have f4 := fold24_d
  obtain ⟨k5, f5, k5t, k5f⟩ := fold24_e
  have hT1 : Held ((trainK smallC 1 (firstK smallC 1)).t = 1) := rfl
  have ff := kFits_fit (train_fits (c := smallC) (id := 1) (firstK_fits small_may 1) (by decide))
  have p1 := fun H rv v hr hs => hO H rv v ev24 0 3 hr hs (by decide)
  have p2 := fun H rv v hr hs => hO H rv v ev24 0 4 hr hs (by decide)
  have p3 := fun H rv v hr hs => hO H rv v ev24 2 0 hr hs (by decide)
  have p4 := fun H rv v hr hs => hO H rv v ev4 0 4 hr hs (by decide)
  have p5 := fun H rv v hr hs => hO H rv v ev4 0 3 hr hs (by decide)
  rw [f1] at p1
  rw [f2] at p2
  rw [f3] at p3
  rw [f4] at p4
  rw [f5] at p5
  clear hO f1 f2 f3 f4 f5
  generalize trainK smallC 1 (firstK smallC 1) = k1 at *
  generalize firstK smallC 1 = k0 at *
  generalize firstS smallC 1 = S at *
  generalize smallC = c at *
  obtain ⟨ws1, vs1, r1, m1', t1'⟩ := k1
  replace hT1 : t1' = 1 := hT1
  subst hT1
  refine call_pure fit mixed Try.func6 rfl rfl rfl (by kernel_rfl) rfl fun hM => ?_
  refine wq_seq (wq_line ?_)
  refine goM ?_
  refine l_sliceM evC ev24 [.int .i64 0, .int .i64 1, .int .i64 0, .int .i64 0, .int .i64 0, .int .i64 0, .int .i64 0, .int .i64 0, .int .i64 0, .int .i64 0, .int .i64 0, .int .i64 0, .int .i64 1, .int .i64 0, .int .i64 1, .int .i64 1, .int .i64 0, .int .i64 0, .int .i64 2, .int .i64 0, .int .i64 0, .int .i64 0, .int .i64 64, .int .i64 1] T33 rfl T32 rfl (cells_evs ev24) (by decide) fun ev H1 hM => ?_
  refine goM ?_
  -- a fold
  obtain ⟨_, H2, c1, rv, xv, rfl, m0⟩ := hsm H1
  refine l_callG c1 ?_
  replace hM := hM.grow m0.pre
  obtain ⟨_, H3, c2, a1, b1, rfl, m2⟩ := p1 H2 rv ev (rows_of (m0.fact .here)) (hM.slG)
  refine goM ?_
  refine l_callG c2 ?_
  replace hM := hM.call2 m2
  have s1 := (m2.sl .here).cells
  have s2 := (m2.sl (.there .here)).cells
  clear c1 c2 m0 m2
  refine goM ?_
  refine l_newM (cs := zeroChk) T37 rfl fun q1 H4 hM => ?_
  refine l_putM T37 fun H5 hM => ?_
  refine goM ?_
  -- the document's first member
  obtain ⟨_, H6, c1, rv2, xv2, rfl, m0⟩ := hsm H5
  refine l_callG c1 ?_
  replace hM := hM.grow m0.pre
  obtain ⟨_, H7, c2, a2, b2, rfl, m2⟩ := hF H6 rv2 (rows_of (m0.fact .here))
  refine goM ?_
  refine l_callG c2 ?_
  replace hM := hM.call2 m2
  have s3 := (m2.sl .here).cells
  have s4 := (m2.sl (.there .here)).cells
  clear c1 c2 m0 m2
  refine goM ?_
  refine l_newM (cs := zeroMem) T51 rfl fun q2 H8 hM => ?_
  refine l_putM T51 fun H9 hM => ?_
  refine goM ?_
  -- its training
  obtain ⟨_, H10, c1, rv3, xv3, rfl, m0⟩ := hsm H9
  refine d_callG c1 (.inl m0.pre) ?_
  replace hM := hM.grow m0.pre
  obtain ⟨a3, b3, H11, c2, m2⟩ := hT H10 rv3 a2 b2 (rows_of (m0.fact .here)) ⟨hM.slG, hM.slG⟩
  refine goM ?_
  refine d_callG c2 (.inl m2.pre) ?_
  replace hM := hM.call2 m2
  have s5 := (m2.sl .here).cells
  have s6 := (m2.sl (.there .here)).cells
  clear c1 c2 m0 m2
  refine goM ?_
  refine d_newM (cs := zeroChk) T37 rfl fun q3 H12 hM => ?_
  refine d_putM T37 fun H13 hM => ?_
  refine goM ?_
  -- too far
  obtain ⟨_, H14, c1, rv4, xv4, rfl, m0⟩ := hsm H13
  refine l_callG c1 ?_
  replace hM := hM.grow m0.pre
  obtain ⟨_, H15, c2, a4, b4, rfl, m2⟩ := p2 H14 rv4 ev (rows_of (m0.fact .here)) (hM.slG)
  refine goM ?_
  refine l_callG c2 ?_
  have s7 := (m2.sl .here).cells
  have s8 := (m2.sl (.there .here)).cells
  replace hM := hM.grow m2.pre
  clear c1 c2 m0 m2
  refine goM ?_
  refine l_newM (cs := zeroChk) T37 rfl fun q4 H16 hM => ?_
  refine l_putM T37 fun H17 hM => ?_
  refine goM ?_
  -- no member
  obtain ⟨_, H18, c1, rv5, xv5, rfl, m0⟩ := hsm H17
  refine l_callG c1 ?_
  replace hM := hM.grow m0.pre
  obtain ⟨_, H19, c2, a5, b5, rfl, m2⟩ := p3 H18 rv5 ev (rows_of (m0.fact .here)) (hM.slG)
  refine goM ?_
  refine l_callG c2 ?_
  have s9 := (m2.sl .here).cells
  have s10 := (m2.sl (.there .here)).cells
  replace hM := hM.grow m2.pre
  clear c1 c2 m0 m2
  refine goM ?_
  refine l_newM (cs := zeroChk) T37 rfl fun q5 H20 hM => ?_
  refine l_putM T37 fun H21 hM => ?_
  refine goM ?_
  -- four trainings
  refine l_sliceM evC ev4 [.int .i64 0, .int .i64 0, .int .i64 0, .int .i64 0, .int .i64 0, .int .i64 0, .int .i64 0, .int .i64 0, .int .i64 0, .int .i64 0, .int .i64 0, .int .i64 0, .int .i64 0, .int .i64 0, .int .i64 0, .int .i64 0, .int .i64 0, .int .i64 0, .int .i64 0, .int .i64 0, .int .i64 0, .int .i64 0, .int .i64 0, .int .i64 0] T33 rfl T32 rfl (cells_evs ev4) (by decide) fun fv H22 hM => ?_
  refine goM ?_
  obtain ⟨_, H23, c1, rv6, xv6, rfl, m0⟩ := hsm H22
  refine l_callG c1 ?_
  replace hM := hM.grow m0.pre
  obtain ⟨_, H24, c2, a6, b6, rfl, m2⟩ := p4 H23 rv6 fv (rows_of (m0.fact .here)) (hM.slG)
  refine goM ?_
  refine l_callG c2 ?_
  have s11 := (m2.sl .here).cells
  have s12 := (m2.sl (.there .here)).cells
  replace hM := hM.grow m2.pre
  clear c1 c2 m0 m2
  refine goM ?_
  refine l_newM (cs := zeroChk) T37 rfl fun q6 H25 hM => ?_
  refine l_putM T37 fun H26 hM => ?_
  refine goM ?_
  obtain ⟨_, H27, c1, rv7, xv7, rfl, m0⟩ := hsm H26
  refine l_callG c1 ?_
  replace hM := hM.grow m0.pre
  obtain ⟨_, H28, c2, a7, b7, rfl, m2⟩ := p5 H27 rv7 fv (rows_of (m0.fact .here)) (hM.slG)
  refine goM ?_
  refine l_callG c2 ?_
  have s13 := (m2.sl .here).cells
  have s14 := (m2.sl (.there .here)).cells
  replace hM := hM.grow m2.pre
  clear c1 c2 m0 m2
  simp only [k5t]
  refine goM ?_
  refine l_newM (cs := zeroChk) T37 rfl fun q7 H29 hM => ?_
  refine l_putM T37 fun H30 hM => ?_
  refine goM ?_
  -- what came
  refine l_putM T30 fun H31 hM => ?_
  have c1 := sameK_ H31 a1 b1 a3 b3 ⟨ws1, vs1, 64, 1, 1⟩ ⟨ws1, vs1, 64, 1, 1⟩ ⟨hM.slG, hM.slG⟩ ⟨hM.slG, hM.slG⟩ ⟨ff.ws, ff.vs⟩
  rw [kEq_self] at c1
  refine goM ?_
  refine l_callG c1 ?_
  refine goM ?_
  refine l_callG (num_ _ _) ?_
  refine goM ?_
  refine l_callG (num_ _ _) ?_
  refine goM ?_
  refine l_callG (num_ _ _) ?_
  refine goM ?_
  refine l_callG (num_ _ _) ?_
  refine goM ?_
  refine l_callG (num_ _ _) ?_
  refine goM ?_
  exact end_1 (by first | exact .inl rfl | exact .inr rfl) ⟨rfl, hM.pre⟩
end Go.Proofs.Ytengdmagaeckoaa.VM

/- The statements' helpers: copies of events, events that are lent (LinF). -/
namespace Go.Proofs.Ytengdmagaeckoaa.VM
open Go
set_option linter.unusedVariables false
set_option linter.unusedSimpArgs false
attribute [local irreducible] wq wqL wqD wqE wqO Th Bk EndR
set_option maxHeartbeats 8000000

def mark : Ev := ⟨0, 0, 0, 77777, 0, 0⟩
end Go.Proofs.Ytengdmagaeckoaa.VM

/- Events that are lent, as a part of the memory; what is known of the events handed in. -/
namespace Go.Proofs.Ytengdmagaeckoaa.VM
open Go
set_option linter.unusedVariables false
set_option linter.unusedSimpArgs false
attribute [local irreducible] wq wqL wqD wqE wqO Th Bk EndR
set_option maxHeartbeats 8000000

def lentF (u : V) (es ms : List Ev) : Fact where
  S c := u.blk = some c
  p H := Lent 6 evC H u es ms
  st H H' h hf := by
    obtain ⟨b, cap, t, cs, wr, rfl, h1, h2, h3⟩ := h
    exact ⟨b, cap, t, cs, wr, rfl, h1, (hf b rfl).trans h2, h3⟩
  lt H c h hc := by
    obtain ⟨b, cap, t, cs, wr, rfl, h1, h2, h3⟩ := h
    cases hc
    exact (List.getElem?_eq_some_iff.1 h2).1
theorem lentF_sl {B H : Heap} {L : List Res} {f : Res → List Res} {u : V} {es ms : List Ev} (hM : Mem B H L) (hh : Has L (.ro (lentF u es ms)) f) : Sl 6 evC H u es := Lent.sl (hM.fact hh)
theorem Own.lendB {sz : Nat} {α : Type} {R : List V → α → Prop} {H : Heap} {b : Nat} {v : V} {xs ms : List α} (h : Own sz R H b v (xs ++ ms)) : ∃ u, sliceV sz v none (some (.int .i64 (xs.length : Int))) none = some u ∧ Lent sz R H u xs ms ∧ u.blk = some b := by
  obtain ⟨cap, t, cs, rfl, h1, h2, h3, h4⟩ := h
  rw [List.length_append] at h1
  refine ⟨.slc b 0 xs.length cap t sz, ?_, ⟨b, cap, t, cs, true, rfl, by rw [List.length_append]; exact h1, h2, h4⟩, rfl⟩
  simp only [sliceV, boundV, Option.isSome_none, Bool.false_and, Bool.false_eq_true, if_false, ne_eq, not_true_eq_false]
  rw [if_pos (by omega)]
  simp
theorem rd_event {K : Heap} {D : Type} {vs : List V} {d : DataW D} (h : Rd T K 32 vs d) : ∃ e : Ev, vs = evV e := by
  obtain ⟨hl, hf⟩ := h.field T32 rfl
  replace hl : vs.length = 6 := hl
  obtain ⟨x0, h0⟩ := hf 0 _ _ rfl T3
  obtain ⟨x1, h1⟩ := hf 1 _ _ rfl T3
  obtain ⟨x2, h2⟩ := hf 2 _ _ rfl T3
  obtain ⟨x3, h3⟩ := hf 3 _ _ rfl T3
  obtain ⟨x4, h4⟩ := hf 4 _ _ rfl T30
  obtain ⟨n0, e0, _⟩ := h0.isInt T3 rfl
  obtain ⟨n1, e1, _⟩ := h1.isInt T3 rfl
  obtain ⟨n2, e2, _⟩ := h2.isInt T3 rfl
  obtain ⟨n3, e3, _⟩ := h3.isInt T3 rfl
  obtain ⟨n4, n5, e4⟩ := rd_hyper h4
  match vs, hl, e0, e1, e2, e3, e4 with
  | [a, b, c, e, f, g], _, e0, e1, e2, e3, e4 =>
    simp at e0 e1 e2 e3 e4
    obtain ⟨rfl, rfl⟩ := e4
    subst e0; subst e1; subst e2; subst e3
    exact ⟨⟨n0, n1, n2, n3, n4, n5⟩, rfl⟩
theorem rd_events {K : Heap} {D : Type} {v : V} {d : DataW D} (h : RdV T K 33 v d) : ∃ es : List Ev, Sl 6 evC K v es ∧ es.length * 48 ≤ 140737488351232 :=
  (h.plain T33 rfl).isSlice T33 rfl T32 fun cs x hx => rd_event hx
end Go.Proofs.Ytengdmagaeckoaa.VM

/- Chapter 24: the statements FoldForms, FoldOther, FoldOn. -/
namespace Go.Proofs.Ytengdmagaeckoaa.VM
open Go
set_option linter.unusedVariables false
set_option linter.unusedSimpArgs false
attribute [local irreducible] wq wqL wqD wqE wqO Th Bk EndR
set_option maxHeartbeats 8000000

theorem u64_remN (x : Int) {n : Nat} (hn : 1 ≤ n) : ∃ q : Nat, q < n ∧ (IntKind.u64.wrap x).tmod (n : Int) = (q : Int) := by
  have h : 0 ≤ IntKind.u64.wrap x := by
    unfold IntKind.wrap
    simp only [IntKind.bits, IntKind.signed, Bool.false_and, Bool.false_eq_true, if_false, Int.reducePow]
    omega
  have h1 := Int.tmod_lt_of_pos (IntKind.u64.wrap x) (show (0 : Int) < (n : Int) by omega)
  have h2 := Int.tmod_nonneg (n : Int) h
  exact ⟨((IntKind.u64.wrap x).tmod (n : Int)).toNat, by omega, by omega⟩
def cut24 : Cfg := { smallC with cutn := 2 }
def two24 : List Ev := [⟨0, 1, 0, 0, 0, 0⟩, ⟨0, 0, 0, 0, 0, 0⟩]
theorem forms24_0 : foldR cut24 two24 0 1 = (noChk, 2400) := foldR_no (by decide +kernel)
theorem forms24_1 (d : Int) (hd : 1 ≤ d) : foldR smallC [⟨0, 1 + d, 0, 0, 0, 0⟩, ⟨0, 0, 0, 0, 0, 0⟩] 0 1 = (noChk, 2400) := foldR_no (by
  have h : eventsMay [⟨0, 1 + d, 0, 0, 0, 0⟩, ⟨0, 0, 0, 0, 0, 0⟩] smallC.m = false := by
    refine eventsMay_no (k := 0) (e := ⟨0, 1 + d, 0, 0, 0, 0⟩) rfl ?_
    unfold evMay
    have : within (1 + d) 0 (smallC.m - 1) = false := by
      unfold within
      rw [decide_eq_false (show ¬ (1 + d ≤ smallC.m - 1) from by show ¬ (1 + d ≤ 2 - 1); omega)]
      simp
    rw [this]; rfl
  unfold foldOk
  rw [h]; simp)
theorem forms24_2 : foldR smallC [⟨0, 1, 0, 0, 0, 0⟩, ⟨2, 0, 0, 0, 0, 0⟩] 0 1 = (noChk, 2400) := foldR_no (by decide +kernel)
theorem forms24_m (m : Int) (hm : m < 0 ∨ 2 ≤ m) : foldR smallC two24 m 1 = (noChk, 2400) := foldR_no (by
  have h : within m 0 (IntKind.i64.wrap (smallC.m - 1)) = false := by
    have e : IntKind.i64.wrap (smallC.m - 1) = 1 := by decide +kernel
    rw [e]
    unfold within
    rcases hm with h | h
    · rw [decide_eq_false (show ¬ 0 ≤ m by omega)]; rfl
    · rw [decide_eq_false (show ¬ m ≤ 1 by omega)]; simp
  unfold foldOk
  rw [h]; simp)
theorem forms24_a (a : Int) (ha : a < 0 ∨ 2 ≤ a) : foldR smallC two24 0 a = (noChk, 2400) := foldR_no (by
  have e : (manyOf two24 0 : Int) = 1 := rfl
  unfold foldOk
  rw [e]
  rcases ha with h | h
  · rw [decide_eq_false (show ¬ 0 ≤ a by omega)]; simp
  · rw [decide_eq_false (show ¬ a ≤ 1 by omega)]; simp)

theorem law_foldForms {D : Type} (K : Heap) (vs : List V) (ds : List (DataW D)) (ro : Ro K) (h : RdAll T K [3, 3] vs ds) : ∃ K', Call Try.prog 3 vs K (.bool true) K' := by
  obtain ⟨v1, vs, d1, ds, rfl, rfl, hv1, h⟩ := rdAll_cons h
  obtain ⟨v2, vs, d2, ds, rfl, rfl, hv2, h⟩ := rdAll_cons h
  obtain ⟨rfl, rfl⟩ := rdAll_nil h
  obtain ⟨n, rfl, _⟩ := hv1.int T3 rfl
  obtain ⟨x, rfl, _⟩ := hv2.int T3 rfl
  clear hv1 hv2 h
  obtain ⟨y, hy, hy0, hy1⟩ := and_mask x 1023 (by decide) (by decide)
  replace hy : IntKind.i64.wrap ((BitVec.ofInt IntKind.i64.bits x &&& BitVec.ofInt IntKind.i64.bits 1023).toNat : Int) = y := hy
  obtain ⟨d, hd⟩ : ∃ d : Int, 1 + y = d := ⟨_, rfl⟩
  have hd1 : IntKind.i64.wrap (1 + y) = d := by rw [hd]; exact wrap_i64 (by omega) (by omega)
  have w1 : IntKind.i64.wrap (0 - d) = 0 - d := wrap_i64 (by omega) (by omega)
  have w2 : IntKind.i64.wrap (1 + d) = 1 + d := wrap_i64 (by omega) (by omega)
  obtain ⟨q, hq8, hq⟩ := u64_remN n (n := 8) (by decide)
  replace hq : (IntKind.u64.wrap n).tmod 8 = (q : Int) := hq
  have r0 := forms24_0
  have r1 := forms24_1 d (by omega)
  have r2 := forms24_2
  have r3 := forms24_m (0 - d) (.inl (by omega))
  have r4 := forms24_m (1 + d) (.inr (by omega))
  have r5 := forms24_a (0 - d) (.inl (by omega))
  have r6 := forms24_a (1 + d) (.inr (by omega))
  have r7 := fold24_d
  clear hd hy0 hy1
  refine ⟨K, ?_⟩
  refine call_pure fit mixed Try.func3 rfl rfl rfl (by kernel_rfl) rfl fun hM => ?_
  refine wq_seq (wq_line ?_)
  refine goM ?_
  refine l_callG (awake24_ _) ?_
  refine goM ?_
  obtain ⟨_, H2, c1, rv, xv, rfl, m0⟩ := small24_ K
  refine l_callG c1 ?_
  have s3 : rv.cells = [rv] ∧ rv.isTup = false := (m0.fact .here).1.cells
  replace hM := hM.call1 m0
  clear c1 m0
  refine goM ?_
  refine l_newM (cs := zeroCfg) T27 rfl fun b6 H3 hM => ?_
  refine l_putM T27 fun H4 hM => ?_
  refine goM ?_
  refine l_sliceM evC two24 [.int .i64 0, .int .i64 1, .int .i64 0, .int .i64 0, .int .i64 0, .int .i64 0, .int .i64 0, .int .i64 0, .int .i64 0, .int .i64 0, .int .i64 0, .int .i64 0] T33 rfl T32 rfl (cells_evs two24) (by decide) fun ev H5 hM => ?_
  have s1 := (hM.sl .here).cells
  obtain ⟨e0, i0, p0⟩ := hM.elemAt (sz := 6) (R := evC) (v := ev) (xs := two24) .here T33 rfl T32 rfl (k := 0) (x := ⟨0, 1, 0, 0, 0, 0⟩) rfl 1 T3 (by decide)
  obtain ⟨e1, i1, p1⟩ := hM.elemAt (sz := 6) (R := evC) (v := ev) (xs := two24) .here T33 rfl T32 rfl (k := 1) (x := ⟨0, 0, 0, 0, 0, 0⟩) rfl 0 T3 (by decide)
  obtain ⟨G1, st1, hM1⟩ := p0 (.int .i64 (1 + d)) ⟨0, 1 + d, 0, 0, 0, 0⟩ rfl rfl fun cs hl hR => by rw [hR]; rfl
  obtain ⟨G2, st2, hM2⟩ := p1 (.int .i64 2) ⟨2, 0, 0, 0, 0, 0⟩ rfl rfl fun cs hl hR => by rw [hR]; rfl
  replace hM1 : Mem K G1 [.own 6 evC ev [⟨0, 1 + d, 0, 0, 0, 0⟩, ⟨0, 0, 0, 0, 0, 0⟩], .box b6 (cfgC smallC rv), .ro (rowsFact rv xv smallC.rows)] := hM1
  replace hM2 : Mem K G2 [.own 6 evC ev [⟨0, 1, 0, 0, 0, 0⟩, ⟨2, 0, 0, 0, 0, 0⟩], .box b6 (cfgC smallC rv), .ro (rowsFact rv xv smallC.rows)] := hM2
  replace i0 : idxV T 33 ev 0 = some (.ptr e0 0) := by simpa using i0
  replace i1 : idxV T 33 ev 1 = some (.ptr e1 6) := by simpa using i1
  simp only [Nat.zero_mul, Nat.one_mul, Nat.zero_add, Nat.add_zero] at st1 st2
  clear p0 p1
  have sf := small_fit
  refine goM ?_
  refine wq_meet (fun ρ h => ∃ (c' : Cfg) (u : V) (es' : List Ev) (m a : Int), c'.rows = smallC.rows ∧ es'.length ≤ 4 ∧ foldR c' es' m a = (noChk, 2400) ∧ Mem K h [.own 6 evC u es', .box b6 (cfgC c' rv), .ro (rowsFact rv xv smallC.rows)] ∧ ρ 6 = .ptr b6 0 ∧ ρ 7 = u ∧ ρ 8 = .int .i64 m ∧ ρ 9 = .int .i64 a) ?_ ?_
  · have qs : q = 0 ∨ q = 1 ∨ q = 2 ∨ q = 3 ∨ q = 4 ∨ q = 5 ∨ q = 6 ∨ q = 7 := by omega
    rcases qs with rfl | rfl | rfl | rfl | rfl | rfl | rfl | rfl
    · refine goM ?_
      refine l_putM T3 fun H8 hM => ?_
      refine goM ?_
      exact ⟨cut24, ev, two24, 0, 1, rfl, by decide, r0, hM, by simp [put_app, put_none, *]⟩
    · refine goM ?_
      refine l_stM st1 ?_
      refine goM ?_
      exact ⟨smallC, ev, _, 0, 1, rfl, by simp, r1, hM1, by simp [put_app, put_none, *]⟩
    · refine goM ?_
      refine l_stM st2 ?_
      refine goM ?_
      exact ⟨smallC, ev, _, 0, 1, rfl, by simp, r2, hM2, by simp [put_app, put_none, *]⟩
    · refine goM ?_
      exact ⟨smallC, ev, two24, 0 - d, 1, rfl, by decide, r3, hM, by simp [put_app, put_none, *]⟩
    · refine goM ?_
      exact ⟨smallC, ev, two24, 1 + d, 1, rfl, by decide, r4, hM, by simp [put_app, put_none, *]⟩
    · refine goM ?_
      exact ⟨smallC, ev, two24, 0, 0 - d, rfl, by decide, r5, hM, by simp [put_app, put_none, *]⟩
    · refine goM ?_
      exact ⟨smallC, ev, two24, 0, 1 + d, rfl, by decide, r6, hM, by simp [put_app, put_none, *]⟩
    · refine goM ?_
      refine l_sliceM evC ev4 [.int .i64 0, .int .i64 0, .int .i64 0, .int .i64 0, .int .i64 0, .int .i64 0, .int .i64 0, .int .i64 0, .int .i64 0, .int .i64 0, .int .i64 0, .int .i64 0, .int .i64 0, .int .i64 0, .int .i64 0, .int .i64 0, .int .i64 0, .int .i64 0, .int .i64 0, .int .i64 0, .int .i64 0, .int .i64 0, .int .i64 0, .int .i64 0] T33 rfl T32 rfl (cells_evs ev4) (by decide) fun fv H22 hM => ?_
      refine goM ?_
      exact ⟨smallC, fv, ev4, 0, 4, rfl, by decide, r7, hM.subG, by simp [put_app, put_none, *]⟩
  · clear hM hM1 hM2 r0 r1 r2 r3 r4 r5 r6 r7 st1 st2 i0 i1 s1
    rintro ρ h ⟨c', u, es', m, a, hrw, hel, hbad, hM, g6, g7, g8, g9⟩
    have hsl := hM.sl (v := u) (xs := es') .here
    have s1 := hsl.cells
    have hr := rows_of (hM.fact (F := rowsFact rv xv smallC.rows) (by (repeat (first | exact Has.here | apply Has.there))))
    rw [← hrw] at hr
    have hO := foldOf_ h c' rv u es' m a hr ⟨by rw [hrw]; exact sf.rows, by rw [hrw]; exact sf.row⟩ hsl (by omega)
    rw [hbad] at hO
    obtain ⟨_, H9, c1, a1, a2, rfl, m1⟩ := hO
    clear hsl hr hbad hrw hel
    refine goM ?_
    refine l_callG c1 ?_
    have s4 := (m1.sl .here).cells
    have s5 := (m1.sl (.there .here)).cells
    replace hM := hM.call2 m1
    clear c1 m1
    refine goM ?_
    refine l_newM (cs := zeroChk) T37 rfl fun b10 H10 hM => ?_
    refine l_putM T37 fun H11 hM => ?_
    have c1 := sameK_ H11 a1 a2 .nils .nils noChk noChk ⟨hM.slG, hM.slG⟩ ⟨.inl ⟨rfl, rfl⟩, .inl ⟨rfl, rfl⟩⟩ ⟨by decide, by decide⟩
    rw [kEq_self] at c1
    refine goM ?_
    refine l_callG c1 ?_
    refine goM ?_
    refine l_callG (num_ _ _) ?_
    refine goM ?_
    exact end_1 (by first | exact .inl rfl | exact .inr rfl) ⟨rfl, hM.pre⟩
end Go.Proofs.Ytengdmagaeckoaa.VM

/- Chapter 24: the statements FoldOther, FoldOn. -/
namespace Go.Proofs.Ytengdmagaeckoaa.VM
open Go
set_option linter.unusedVariables false
set_option linter.unusedSimpArgs false
attribute [local irreducible] wq wqL wqD wqE wqO Th Bk EndR
set_option maxHeartbeats 8000000

def trE (n : Int) (r : Int) : Ev := ⟨0, (IntKind.u64.wrap r).tmod n, 0, 0, 0, 0⟩
theorem trE_in {n : Int} (hn : 1 ≤ n) (r : Int) : 0 ≤ (trE n r).member ∧ (trE n r).member < n := by
  obtain ⟨q, h1, h2⟩ := u64_remN r (n := n.toNat) (by omega)
  rw [show ((n.toNat : Nat) : Int) = n by omega] at h2
  unfold trE
  simp only
  rw [h2]
  omega
theorem trains_may {n : Int} (hn : 1 ≤ n ∧ n ≤ 8) {es : List Ev} (hl : es.length ≤ 1024) (h : ∀ e ∈ es, ∃ r, e = trE n r) : eventsMay es n = true := by
  refine eventsMay_yes (within_iff.2 hn) hl fun k e he => ?_
  obtain ⟨r, rfl⟩ := h e (List.mem_of_getElem? he)
  have := trE_in hn.1 r
  rw [evMay_0 rfl, within_iff.2 ⟨this.1, by omega⟩]
  rfl
theorem own_many {es : List Ev} {m : Int} : manyOf (es.filter fun e => e.member == m) m = manyOf es m := by
  unfold manyOf
  rw [List.filter_filter]
  simp
theorem fold_other {c : Cfg} (hc : cfgMay c = true) {es : List Ev} (hl : es.length ≤ 1024) (h : ∀ e ∈ es, ∃ r, e = trE c.m r) {m : Int} (hm : 0 ≤ m ∧ m < c.m) :
    (c.total < (manyOf es m : Int) ∧ foldR c es m (manyOf es m : Nat) = (noChk, 2400) ∧ foldR c (es.filter fun e => e.member == m) m (manyOf es m : Nat) = (noChk, 2400)) ∨ ((manyOf es m : Int) ≤ c.total ∧ ∃ k : Chk, k.Fit ∧ k.t = (manyOf es m : Int) ∧ foldR c es m (manyOf es m : Nat) = (k, 0) ∧ foldR c (es.filter fun e => e.member == m) m (manyOf es m : Nat) = (k, 0)) := by
  obtain ⟨hm2, _⟩ := cfgMay_split hc
  have e1 := trains_may (n := c.m) ⟨by omega, hm2.2⟩ hl h
  have e2 := trains_may (n := c.m) (es := es.filter fun e => e.member == m) ⟨by omega, hm2.2⟩ (by have := List.length_filter_le (fun e : Ev => e.member == m) es; omega) (fun e he => h e (List.mem_filter.1 he).1)
  have k1 : ∀ e ∈ es, e.kind = 0 := fun e he => by obtain ⟨r, rfl⟩ := h e he; rfl
  have f1 := fold_trains (c := c) e1 k1 hm.1 hm.2
  have f2 := fold_trains (c := c) e2 (fun e he => k1 e (List.mem_filter.1 he).1) hm.1 hm.2
  rw [own_many] at f2
  have o1 := foldOk_of (a := (manyOf es m : Nat)) hc e1 hm (by omega) (by omega)
  have o2 := foldOk_of (es := es.filter fun e => e.member == m) (a := (manyOf es m : Nat)) hc e2 hm (by omega) (by rw [own_many]; omega)
  obtain ⟨s1, s2⟩ := trainsO_spec hc hm.1 hm.2 (manyOf es m)
  by_cases ht : (manyOf es m : Int) ≤ c.total
  · right
    obtain ⟨k, g1, g2, g3⟩ := s1 ht
    exact ⟨ht, k, kFits_fit g3, g2, foldR_some o1 (f1.trans g1), foldR_some o2 (f2.trans g1)⟩
  · left
    have g1 := s2 (by omega)
    exact ⟨by omega, foldR_none (f1.trans g1), foldR_none (f2.trans g1)⟩

theorem law_foldOther {D : Type} (K : Heap) (vs : List V) (ds : List (DataW D)) (ro : Ro K) (h : RdAll T K [27, 35, 3] vs ds) : ∃ K', Call Try.prog 4 vs K (.bool true) K' := by
  obtain ⟨v1, vs, d1, ds, rfl, rfl, hv1, h⟩ := rdAll_cons h
  obtain ⟨v2, vs, d2, ds, rfl, rfl, hv2, h⟩ := rdAll_cons h
  obtain ⟨v3, vs, d3, ds, rfl, rfl, hv3, h⟩ := rdAll_cons h
  obtain ⟨rfl, rfl⟩ := rdAll_nil h
  obtain ⟨c, rv, rfl, hr, cf⟩ := rd_config hv1
  obtain ⟨rs, hrs, hrl⟩ := rd_ints hv2
  replace hrl : rs.length * 8 ≤ 140737488351232 := hrl
  obtain ⟨mm, rfl, _⟩ := hv3.int T3 rfl
  clear hv1 hv2 hv3 h
  have s1 := hrs.cells
  have s3 : rv.cells = [rv] ∧ rv.isTup = false := by obtain ⟨_, h, _⟩ := hr; exact h.cells
  have hlen := hrs.len T35 rfl
  have hC := fun H hr => refConfMay_ H c rv hr (by have := cf.rows; omega) (fun r hr => by have := cf.row r hr; omega)
  refine ⟨K, ?_⟩
  refine call_pure fit mixed Try.func4 rfl rfl rfl (by kernel_rfl) rfl fun hM => ?_
  refine wq_seq (wq_line ?_)
  refine l_boxM T27 fun b3 H1 hM => ?_
  refine goM ?_
  refine l_callG (awake24_ _) ?_
  have c1 := hC H1 (hr.mono hM.pre)
  cases hcm : cfgMay c with
  | false =>
    rw [hcm] at c1
    refine goM ?_
    refine l_callG c1 ?_
    refine goM ?_
    exact end_1 (by first | exact .inl rfl | exact .inr rfl) ⟨rfl, hM.pre⟩
  | true =>
    rw [hcm] at c1
    obtain ⟨hm2, _⟩ := cfgMay_split hcm
    obtain ⟨n, hn⟩ : ∃ n : Nat, c.m = n := ⟨c.m.toNat, by omega⟩
    have u1 : IntKind.u64.wrap c.m = c.m := by
      unfold IntKind.wrap
      simp only [IntKind.bits, IntKind.signed, Bool.false_and, Bool.false_eq_true, if_false, Int.reducePow]
      omega
    have hne : ¬ (c.m = 0) := by omega
    have rem : ∀ r : Int, ∃ q : Nat, q < n ∧ (IntKind.u64.wrap r).tmod c.m = (q : Int) := fun r => by rw [hn]; exact u64_remN r (by omega)
    have wq : ∀ q : Nat, q < n → IntKind.i64.wrap (q : Int) = (q : Int) := fun q h => wrap_nat (by omega)
    obtain ⟨m, hmn, hm⟩ := rem mm
    have wm := wq m hmn
    have hmi : (0 : Int) ≤ (m : Int) ∧ (m : Int) < c.m := by omega
    replace hn : Held (c.m = n) := hn
    refine goM ?_
    refine l_callG c1 ?_
    clear c1 hC
    refine goM ?_
    refine wq_loop (fun cc ρ h => ∃ (k : Nat) (es : List Ev) (ev ov : V), k ≤ rs.length ∧ k ≤ 30 ∧ cc = rs.length - k ∧ es.length = k ∧ (∀ e ∈ es, ∃ r, e = trE c.m r) ∧ Mem K h [.own 6 evC ov (es.filter fun e => e.member == (m : Int)), .own 6 evC ev es, .box b3 (cfgC c rv)] ∧ ρ 1 = v2 ∧ ρ 3 = .ptr b3 0 ∧ ρ 7 = .int .i64 (m : Int) ∧ ρ 8 = ev ∧ ρ 9 = ov ∧ ρ 10 = .int .i64 (k : Int)) ⟨0, [], .nils, .nils, Nat.zero_le _, by decide, rfl, rfl, by simp, (hM.nil 6 evC).nil 6 evC, by simp [put_app, put_none, rho0_app, *]⟩ ?_
    repeat clear hM
    rintro _ ρ h ⟨k, es, ev, ov, hk, hk30, rfl, hel, hes, hM, g1, g3, g7, g8, g9, g10⟩
    have t1 := (hM.sl (v := ev) (xs := es) (by (repeat (first | exact Has.here | apply Has.there)))).cells
    have t2 := (hM.sl (v := ov) (xs := es.filter fun e => e.member == (m : Int)) (by (repeat (first | exact Has.here | apply Has.there)))).cells
    have hol := List.length_filter_le (fun e : Ev => e.member == (m : Int)) es
    by_cases hgo : k < rs.length ∧ k < 30
    · have dk : decide ((k : Int) < (rs.length : Int)) = true := decide_eq_true (by omega)
      have dk2 : decide ((k : Int) < 30) = true := decide_eq_true (by omega)
      obtain ⟨r, hrk⟩ : ∃ r, rs[k]? = some r := ⟨rs[k]'hgo.1, by simp⟩
      obtain ⟨b', o', _, hi', rfl, _, hlo, _⟩ := (hrs.mono hM.pre).get T35 rfl T3 rfl hrk
      have ho := loadV_one T3 rfl hlo
      obtain ⟨q, hqn, hq⟩ := rem r
      have wqq := wq q hqn
      have hw := wrap_succ (n := k) (by omega)
      have hte : trE c.m r = ⟨0, (q : Int), 0, 0, 0, 0⟩ := by unfold trE; rw [hq]
      clear hlo
      refine goM ?_
      refine d_newM (cs := zeroEv) T32 rfl fun b11 H3 hM => ?_
      refine d_putM (ds := evV ⟨0, (q : Int), 0, 0, 0, 0⟩) (hc := rfl) T32 fun H4 hM => ?_
      refine goM ?_
      refine l_sliceM evC [⟨0, (q : Int), 0, 0, 0, 0⟩] (evV ⟨0, (q : Int), 0, 0, 0, 0⟩) T33 rfl T32 rfl (cells_evs [⟨0, (q : Int), 0, 0, 0, 0⟩]) (by decide) fun x1 H5 hM => ?_
      refine goM ?_
      refine l_appM (hM.sl .here) (xs := es) (hh := .there (.there (.there .here))) (hb := by rw [hel]; show (k + 1) * 48 ≤ _ ∧ k + 1 ≤ _; omega) fun ev' H6 hM => ?_
      have t3 := (hM.sl (v := ev') (xs := es ++ [⟨0, (q : Int), 0, 0, 0, 0⟩]) (by (repeat (first | exact Has.here | apply Has.there)))).cells
      refine goM ?_
      have hes' : ∀ e ∈ es ++ [⟨0, (q : Int), 0, 0, 0, 0⟩], ∃ r, e = trE c.m r := fun e he => by
        rw [List.mem_append, List.mem_singleton] at he
        rcases he with he | rfl
        · exact hes e he
        · exact ⟨r, hte.symm⟩
      by_cases hqm : q = m
      · have dq : ((q : Int) == (m : Int)) = true := by rw [hqm]; simp
        have hf : (es ++ [(⟨0, (q : Int), 0, 0, 0, 0⟩ : Ev)]).filter (fun e => e.member == (m : Int)) = (es.filter fun e => e.member == (m : Int)) ++ [⟨0, (q : Int), 0, 0, 0, 0⟩] := by
          rw [List.filter_append]
          simp [hqm]
        clear hqm
        refine goM ?_
        refine l_sliceM evC [⟨0, (q : Int), 0, 0, 0, 0⟩] (evV ⟨0, (q : Int), 0, 0, 0, 0⟩) T33 rfl T32 rfl (cells_evs [⟨0, (q : Int), 0, 0, 0, 0⟩]) (by decide) fun x2 H7 hM => ?_
        refine goM ?_
        refine l_appM (hM.sl .here) (xs := es.filter fun e => e.member == (m : Int)) (hh := .there (.there (.there .here))) (hb := by show (_ + 1) * 48 ≤ _ ∧ _ + 1 ≤ _; omega) fun ov' H8 hM => ?_
        have t4 := (hM.sl (v := ov') (xs := (es.filter fun e => e.member == (m : Int)) ++ [⟨0, (q : Int), 0, 0, 0, 0⟩]) (by (repeat (first | exact Has.here | apply Has.there)))).cells
        refine goM ?_
        refine ⟨rs.length - (k + 1), by omega, k + 1, _, ev', ov', by omega, by omega, rfl, by simp [hel], hes', ?_, by simp [put_app, put_none, *]⟩
        rw [hf]
        exact hM.subG
      · have dq : ((q : Int) == (m : Int)) = false := by simp; omega
        have hf : (es ++ [(⟨0, (q : Int), 0, 0, 0, 0⟩ : Ev)]).filter (fun e => e.member == (m : Int)) = (es.filter fun e => e.member == (m : Int)) := by
          rw [List.filter_append]
          simp [dq]
        clear hqm
        refine goM ?_
        refine ⟨rs.length - (k + 1), by omega, k + 1, _, ev', ov, by omega, by omega, rfl, by simp [hel], hes', ?_, by simp [put_app, put_none, *]⟩
        rw [hf]
        exact hM.subG
    · obtain ⟨z, hz⟩ : ∃ z, decide ((k : Int) < (rs.length : Int)) = z := ⟨_, rfl⟩
      have dk2 : z = true → decide ((k : Int) < 30) = false := fun h => decide_eq_false (by rw [h] at hz; have := of_decide_eq_true hz; omega)
      have hlaw := fold_other hcm (es := es) (by omega) hes hmi
      have hown : (es.filter fun e => e.member == (m : Int)).length = manyOf es (m : Int) := rfl
      have hmy := manyOf_le es (m : Int)
      have hlen2 := (hM.sl (v := ov) (xs := es.filter fun e => e.member == (m : Int)) (by (repeat (first | exact Has.here | apply Has.there)))).len T33 rfl
      rw [hown] at hlen2
      have hP := fun H rv v hr hs => foldOf_ H c rv v es m (manyOf es (m : Int) : Nat) hr cf hs (by omega)
      have hQ := fun H rv v hr hs => foldOf_ H c rv v (es.filter fun e => e.member == (m : Int)) m (manyOf es (m : Int) : Nat) hr cf hs (by omega)
      generalize foldR c es m (manyOf es (m : Int) : Nat) = o1 at *
      generalize foldR c (es.filter fun e => e.member == (m : Int)) m (manyOf es (m : Int) : Nat) = o2 at *
      generalize hN : manyOf es (m : Int) = N at *
      clear hes hol hgo hown hmy rem wq hm hrs
      have hzz : z = false ∨ (z = true ∧ decide ((k : Int) < 30) = false) := by
        cases z with
        | false => exact .inl rfl
        | true => exact .inr ⟨rfl, dk2 rfl⟩
      clear dk2
      have s2 := s1
      rcases hzz with rfl | ⟨rfl, dk2⟩
      all_goals
        refine goM ?_
        obtain ⟨_, H2, c1, a1, a2, rfl, m1⟩ := hP h rv ev (hr.mono hM.pre) (hM.sl (v := ev) (xs := es) (by (repeat (first | exact Has.here | apply Has.there))))
        refine l_callG c1 ?_
        have s4 := (m1.sl .here).cells
        have s5 := (m1.sl (.there .here)).cells
        replace hM := hM.call2 m1
        clear c1 m1
        refine goM ?_
        refine l_newM (cs := zeroChk) T37 rfl fun b12 H3 hM => ?_
        refine l_putM T37 fun H4 hM => ?_
        refine goM ?_
        obtain ⟨_, H5, c1, e1, e2, rfl, m1⟩ := hQ H4 rv ov (hr.mono hM.pre) (hM.sl (v := ov) (xs := es.filter fun e => e.member == (m : Int)) (by (repeat (first | exact Has.here | apply Has.there))))
        refine l_callG c1 ?_
        have s6 := (m1.sl .here).cells
        have s7 := (m1.sl (.there .here)).cells
        replace hM := hM.call2 m1
        clear c1 m1
        refine goM ?_
        refine l_newM (cs := zeroChk) T37 rfl fun b14 H6 hM => ?_
        refine l_putM T37 fun H7 hM => ?_
        rcases hlaw with ⟨ht, rfl, rfl⟩ | ⟨ht, k', kf, hkt, rfl, rfl⟩
        · have dt : decide ((N : Int) > c.total) = true := decide_eq_true ht
          refine goM ?_
          refine l_callG (num_ _ _) ?_
          refine goM ?_
          refine l_callG (num_ _ _) ?_
          refine goM ?_
          exact end_1 (by first | exact .inl rfl | exact .inr rfl) ⟨rfl, hM.pre⟩
        · have dt : decide ((N : Int) > c.total) = false := decide_eq_false (by omega)
          have c1 := sameK_ H7 a1 a2 e1 e2 k' k' ⟨hM.slG, hM.slG⟩ ⟨hM.slG, hM.slG⟩ kf
          rw [kEq_self] at c1
          clear ht
          obtain ⟨ws', vs', r', m', t'⟩ := k'
          simp only at hkt
          subst hkt
          refine goM ?_
          refine l_callG (num_ _ _) ?_
          refine goM ?_
          refine l_callG (num_ _ _) ?_
          refine goM ?_
          refine l_callG c1 ?_
          refine goM ?_
          exact end_1 (by first | exact .inl rfl | exact .inr rfl) ⟨rfl, hM.pre⟩
end Go.Proofs.Ytengdmagaeckoaa.VM

/- Chapter 24: the statement FoldOn. -/
namespace Go.Proofs.Ytengdmagaeckoaa.VM
open Go
set_option linter.unusedVariables false
set_option linter.unusedSimpArgs false
attribute [local irreducible] wq wqL wqD wqE wqO Th Bk EndR
set_option maxHeartbeats 8000000

theorem train_cases24 (c : Cfg) (id : Int) (k : Chk) : (∃ x, trainR c id k = (x, 0)) ∨ ∃ e, e ≠ 0 ∧ trainR c id k = (noChk, e) := by
  unfold trainR
  split
  · split
    · exact .inr ⟨2101, by decide, rfl⟩
    · exact .inl ⟨_, rfl⟩
  · exact .inr ⟨2100, by decide, rfl⟩
theorem on_law {c : Cfg} {es : List Ev} {id : Int} {j : Nat} {e : Ev} (he : es[j]? = some e) (hmb : e.member = id) (hl : manyOf es id = manyOf (es.take (j + 1)) id) :
    (foldR c es id (manyOf es id : Nat) = (noChk, 2400)) ∨ (∃ ka kb : Chk, foldR c es id ((manyOf es id : Nat) - 1 : Int) = (ka, 0) ∧ foldR c es id (manyOf es id : Nat) = (kb, 0) ∧ ka.Fit ∧ kb.Fit ∧
      ((e.kind = 0 ∧ trainR c id ka = (kb, 0)) ∨ (e.kind = 1 ∧ ∃ d : Chk, d.Fit ∧ foldR c es e.donor e.at_ = (d, 0) ∧ kb = ⟨d.ws, d.vs, d.r, d.m, ka.t⟩) ∨ (e.kind ≠ 0 ∧ e.kind ≠ 1 ∧ kb = ⟨ka.ws, ka.vs, e.rate, e.mom, ka.t⟩))) := by
  rcases foldR_cases c es id (manyOf es id : Nat) with ⟨kb, h1, h2, h3, h4⟩ | h
  · right
    obtain ⟨hc, hev, hid, _, _⟩ := foldOk_split h1
    obtain ⟨g1, g2⟩ := fold_on (c := c) hev he hmb hl
    have hcast : ((manyOf es id - 1 : Nat) : Int) = (manyOf es id : Int) - 1 := by omega
    have hok1 : foldOk c es id ((manyOf es id : Nat) - 1 : Int) = true := foldOk_of hc hev hid (by omega) (by omega)
    rw [h2, hcast] at g2
    have hj := (List.getElem?_eq_some_iff.1 he).1
    obtain ⟨hmbi, hd, hkd, hy⟩ := evMay_in ((eventsMay_at hev).2.2 j e he)
    cases ha : foldK c es id ((manyOf es id : Nat) - 1 : Int) with
    | none =>
      rw [ha] at g2
      unfold turnK at g2
      cases g2
    | some ka =>
      have fa := foldK_good hc hev hid.1 hid.2 _ ka ha
      refine ⟨ka, kb, foldR_some hok1 ha, h4, kFits_fit fa, kFits_fit h3, ?_⟩
      rw [ha] at g2
      unfold turnK at g2
      simp only at g2
      by_cases h0 : e.kind = 0
      · left
        rw [if_pos h0, hmb] at g2
        refine ⟨h0, ?_⟩
        rcases train_cases24 c id ka with ⟨_, hr⟩ | ⟨e', he', hr⟩
        · rw [hr] at g2 ⊢
          rw [if_pos rfl] at g2
          cases g2; rfl
        · rw [hr] at g2
          simp [he'] at g2
      · rw [if_neg h0] at g2
        by_cases h1' : e.kind = 1
        · right; left
          rw [if_pos h1', if_pos h1'] at g2
          obtain ⟨hdi, _, hat⟩ := hd h1'
          have hmo : manyOf (es.take j) e.donor ≤ manyOf es e.donor := (List.Sublist.filter _ (List.take_sublist j es)).length_le
          have hokd : foldOk c es e.donor e.at_ = true := foldOk_of hc hev hdi (by omega) (by omega)
          cases hdk : foldK c es e.donor e.at_ with
          | none => rw [hdk] at g2; cases g2
          | some d =>
            rw [hdk] at g2
            cases g2
            exact ⟨h1', d, kFits_fit (foldK_good hc hev hdi.1 hdi.2 _ d hdk), foldR_some hokd hdk, rfl⟩
        · right; right
          rw [if_neg h1'] at g2
          cases g2
          exact ⟨h0, h1', rfl⟩
  · exact .inl h

theorem law_foldOn {D : Type} (K : Heap) (vs : List V) (ds : List (DataW D)) (ro : Ro K) (h : RdAll T K [27, 33, 3] vs ds) : ∃ K', Call Try.prog 5 vs K (.bool true) K' := by
  obtain ⟨v1, vs, d1, ds, rfl, rfl, hv1, h⟩ := rdAll_cons h
  obtain ⟨v2, vs, d2, ds, rfl, rfl, hv2, h⟩ := rdAll_cons h
  obtain ⟨v3, vs, d3, ds, rfl, rfl, hv3, h⟩ := rdAll_cons h
  obtain ⟨rfl, rfl⟩ := rdAll_nil h
  obtain ⟨c, rv, rfl, hr, cf⟩ := rd_config hv1
  obtain ⟨es, hes, hel⟩ := rd_events hv2
  obtain ⟨id, rfl, _⟩ := hv3.int T3 rfl
  clear hv1 hv2 hv3 h
  have s1 := hes.cells
  have s3 : rv.cells = [rv] ∧ rv.isTup = false := by obtain ⟨_, h, _⟩ := hr; exact h.cells
  have hlen := hes.len T33 rfl
  refine ⟨K, ?_⟩
  refine call_pure fit mixed Try.func5 rfl rfl rfl (by kernel_rfl) rfl fun hM => ?_
  refine wq_seq (wq_line ?_)
  refine l_boxM T27 fun b3 H1 hM => ?_
  refine goM ?_
  refine l_callG (awake24_ _) ?_
  refine goM ?_
  refine l_newM (cs := zeroEv) T32 rfl fun b7 H2 hM => ?_
  refine l_putM (ds := zeroEv) (hc := rfl) T32 fun H3 hM => ?_
  refine goM ?_
  refine wq_loop (fun cc ρ h => ∃ (i : Nat) (e : Ev), i ≤ es.length ∧ cc = es.length - i ∧ (manyOf (es.take i) id = 0 ∨ ∃ j, j < i ∧ es[j]? = some e ∧ e.member = id ∧ manyOf (es.take (j + 1)) id = manyOf (es.take i) id) ∧ Mem K h [.box b7 (evV e), .box b3 (cfgC c rv)] ∧ ρ 1 = v2 ∧ ρ 2 = .int .i64 id ∧ ρ 3 = .ptr b3 0 ∧ ρ 7 = .ptr b7 0 ∧ ρ 8 = .int .i64 (manyOf (es.take i) id : Nat) ∧ ρ 9 = .int .i64 (i : Int)) ⟨0, ⟨0, 0, 0, 0, 0, 0⟩, Nat.zero_le _, rfl, .inl rfl, hM, rfl, rfl, rfl, rfl, rfl, rfl⟩ ?_
  repeat clear hM
  rintro _ ρ h ⟨i, e, hi, rfl, hlast, hM, g1, g2, g3, g7, g8, g9⟩
  refine goM ?_
  refine cond_go (fun hb => ?_) (fun hb => ?_)
  · have hil : i < es.length := by simpa using hb
    clear hb
    obtain ⟨x, hx⟩ : ∃ e, es[i]? = some e := ⟨es[i]'hil, by simp⟩
    obtain ⟨eb, eo, ecs, hix, hec, _, hlo, hlc⟩ := (hes.mono hM.pre).get T33 rfl T32 rfl hx
    rw [hec] at hlo hlc
    have ho := loadV_agg T32 rfl hlo
    have ho1 : loadV T 3 h eb (eo + 1) = some (.int .i64 x.member) := loadV_one T3 rfl (hlc 1 _ rfl)
    have hw := wrap_succ (n := i) (by omega)
    have hms := manyOf_succ (m := id) hx
    have hml := manyOf_le (es.take i) id
    rw [List.length_take] at hml
    have hw2 := wrap_succ (n := manyOf (es.take i) id) (by omega)
    clear hlo hlc
    by_cases hm : x.member = id
    · have dm : (x.member == id) = true := by simpa using hm
      rw [if_pos hm] at hms
      replace hm : Held (x.member = id) := hm
      refine goM ?_
      refine l_putM (ds := evV x) (hc := rfl) T32 fun H4 hM => ?_
      refine goM ?_
      refine ⟨es.length - (i + 1), by omega, i + 1, x, hil, rfl, .inr ⟨i, by omega, hx, hm, rfl⟩, hM, ?_⟩
      rw [hms]
      simp [put_app, put_none, *]
    · have dm : (x.member == id) = false := by simpa using hm
      replace hms : manyOf (es.take (i + 1)) id = manyOf (es.take i) id := by rw [hms, if_neg hm]; rfl
      clear hm
      refine goM ?_
      refine ⟨es.length - (i + 1), by omega, i + 1, e, hil, rfl, ?_, hM, ?_⟩
      · rcases hlast with h0 | ⟨j, h1, h2, h3, h4⟩
        · exact .inl (by rw [hms]; exact h0)
        · exact .inr ⟨j, by omega, h2, h3, by rw [h4, hms]⟩
      · rw [hms]
        simp [put_app, put_none, *]
  · have hil : i = es.length := by have : ¬ i < es.length := by simpa using hb
                                   omega
    subst hil
    clear hb
    rw [List.take_of_length_le (Nat.le_refl _)] at hlast g8
    by_cases hz : manyOf es id = 0
    · rw [hz] at g8
      refine goM ?_
      exact end_1 (by first | exact .inl rfl | exact .inr rfl) ⟨rfl, hM.pre⟩
    · have dz : ((manyOf es id : Int) == 0) = false := by simpa using hz
      obtain ⟨j, hj, he, hmb, hmo⟩ := hlast.resolve_left hz
      have hlaw := on_law (c := c) he hmb hmo.symm
      have hmy := manyOf_le es id
      have w1 : IntKind.i64.wrap ((manyOf es id : Int) - 1) = (manyOf es id : Int) - 1 := wrap_i64 (by omega) (by omega)
      have hP := fun H rv v hr hs => foldOf_ H c rv v es id ((manyOf es id : Nat) - 1 : Int) hr cf hs (by omega)
      have hQ := fun H rv v hr hs => foldOf_ H c rv v es id (manyOf es id : Nat) hr cf hs (by omega)
      have hT := fun H rv w v k hr hk kf => refTrain_ H c rv w v id k hr hk cf kf
      have hD := fun H rv v hr hs => foldOf_ H c rv v es e.donor e.at_ hr cf hs (by omega)
      generalize foldR c es id ((manyOf es id : Nat) - 1 : Int) = o1 at *
      generalize foldR c es id (manyOf es id : Nat) = o2 at *
      clear hmo hlast hz hmy he
      refine goM ?_
      obtain ⟨_, H4, c1, a1, a2, rfl, m1⟩ := hP h rv v2 (hr.mono hM.pre) (hes.mono hM.pre)
      refine l_callG c1 ?_
      have s4 := (m1.sl .here).cells
      have s5 := (m1.sl (.there .here)).cells
      replace hM := hM.call2 m1
      clear c1 m1
      refine goM ?_
      refine l_newM (cs := zeroChk) T37 rfl fun b10 H5 hM => ?_
      refine l_putM T37 fun H6 hM => ?_
      refine goM ?_
      obtain ⟨_, H7, c1, e1, e2, rfl, m1⟩ := hQ H6 rv v2 (hr.mono hM.pre) (hes.mono hM.pre)
      refine l_callG c1 ?_
      have s6 := (m1.sl .here).cells
      have s7 := (m1.sl (.there .here)).cells
      replace hM := hM.call2 m1
      clear c1 m1
      refine goM ?_
      refine l_newM (cs := zeroChk) T37 rfl fun b12 H8 hM => ?_
      refine l_putM T37 fun H9 hM => ?_
      refine goM ?_
      refine l_callG (num_ _ _) ?_
      rcases hlaw with rfl | ⟨ka, kb, rfl, rfl, fa, fb, hlaw⟩
      · have c1 := sameK_ H9 e1 e2 .nils .nils noChk noChk ⟨hM.sl (v := e1) (xs := ([] : List Int)) (by (repeat (first | exact Has.here | apply Has.there))), hM.sl (v := e2) (xs := ([] : List Int)) (by (repeat (first | exact Has.here | apply Has.there)))⟩ ⟨.inl ⟨rfl, rfl⟩, .inl ⟨rfl, rfl⟩⟩ ⟨by decide, by decide⟩
        rw [kEq_self] at c1
        obtain ⟨f1, hf1⟩ : ∃ f, (o1.2 != 0) = f := ⟨_, rfl⟩
        cases f1 with
        | true =>
          refine goM ?_
          refine l_callG (num_ _ _) ?_
          refine goM ?_
          refine l_callG c1 ?_
          refine goM ?_
          exact end_1 (by first | exact .inl rfl | exact .inr rfl) ⟨rfl, hM.pre⟩
        | false =>
          refine goM ?_
          refine l_callG (num_ _ _) ?_
          refine goM ?_
          refine l_callG (num_ _ _) ?_
          refine goM ?_
          refine l_callG c1 ?_
          refine goM ?_
          exact end_1 (by first | exact .inl rfl | exact .inr rfl) ⟨rfl, hM.pre⟩
      · refine goM ?_
        refine l_callG (num_ _ _) ?_
        have qa : Sl 1 intC H9 a1 ka.ws := hM.sl (v := a1) (xs := ka.ws) (by (repeat (first | exact Has.here | apply Has.there)))
        have qb : Sl 1 intC H9 a2 ka.vs := hM.sl (v := a2) (xs := ka.vs) (by (repeat (first | exact Has.here | apply Has.there)))
        have qc : Sl 1 intC H9 e1 kb.ws := hM.sl (v := e1) (xs := kb.ws) (by (repeat (first | exact Has.here | apply Has.there)))
        have qd : Sl 1 intC H9 e2 kb.vs := hM.sl (v := e2) (xs := kb.vs) (by (repeat (first | exact Has.here | apply Has.there)))
        have hpre : K <+: H9 := hM.pre
        rcases hlaw with ⟨hk0, htr⟩ | ⟨hk1, d, fd, hdd, rfl⟩ | ⟨hn0, hn1, rfl⟩
        · have hT2 := hT H9 rv a1 a2 ka (hr.mono hM.pre) ⟨qa, qb⟩ fa
          rw [htr] at hT2
          obtain ⟨t1, t2, H10, c1, m1⟩ := hT2
          have dk : (e.kind == 0) = true := by rw [hk0]; rfl
          have s8 := (m1.sl .here).cells
          have s9 := (m1.sl (.there .here)).cells
          clear hT hD hP hQ htr hk0
          refine goM ?_
          refine l_callG c1 ?_
          replace hM := hM.call2 m1
          have qt1 : Sl 1 intC H10 t1 kb.ws := m1.sl .here
          have qt2 : Sl 1 intC H10 t2 kb.vs := m1.sl (.there .here)
          have qc2 := qc.mono m1.pre
          have qd2 := qd.mono m1.pre
          have mp := m1.pre
          clear c1 m1 qa qb qc qd
          refine goM ?_
          refine l_newM (cs := zeroChk) T37 rfl fun b14 H11 hM => ?_
          refine l_putM T37 fun H12 hM => ?_
          have c1 := sameK_ H12 t1 t2 e1 e2 kb kb ⟨hM.sl (v := t1) (xs := kb.ws) (by (repeat (first | exact Has.here | apply Has.there))), hM.sl (v := t2) (xs := kb.vs) (by (repeat (first | exact Has.here | apply Has.there)))⟩ ⟨hM.sl (v := e1) (xs := kb.ws) (by (repeat (first | exact Has.here | apply Has.there))), hM.sl (v := e2) (xs := kb.vs) (by (repeat (first | exact Has.here | apply Has.there)))⟩ fb
          rw [kEq_self] at c1
          refine goM ?_
          refine l_callG c1 ?_
          refine goM ?_
          exact end_1 (by first | exact .inl rfl | exact .inr rfl) ⟨rfl, hM.pre⟩
        · have hD2 := hD H9 rv v2 (hr.mono hM.pre) (hes.mono hM.pre)
          rw [hdd] at hD2
          obtain ⟨_, H10, c1, t1, t2, rfl, m1⟩ := hD2
          have dk0 : (e.kind == 0) = false := by rw [hk1]; rfl
          have dk : (e.kind == 1) = true := by rw [hk1]; rfl
          have s8 := (m1.sl .here).cells
          have s9 := (m1.sl (.there .here)).cells
          have ld1 := fd.ws
          have ld2 := fd.vs
          clear hT hD hP hQ hdd hk1 qa qb qc qd
          refine goM ?_
          refine l_callG c1 ?_
          replace hM := hM.call2 m1
          clear c1 m1
          refine goM ?_
          refine l_newM (cs := zeroChk) T37 rfl fun b14 H11 hM => ?_
          refine l_putM T37 fun H12 hM => ?_
          have c1 := sameInts_ H12 e1 t1 d.ws d.ws (hM.sl (v := e1) (xs := d.ws) (by (repeat (first | exact Has.here | apply Has.there)))) (hM.sl (v := t1) (xs := d.ws) (by (repeat (first | exact Has.here | apply Has.there)))) (by omega)
          have c2 := sameInts_ H12 e2 t2 d.vs d.vs (hM.sl (v := e2) (xs := d.vs) (by (repeat (first | exact Has.here | apply Has.there)))) (hM.sl (v := t2) (xs := d.vs) (by (repeat (first | exact Has.here | apply Has.there)))) (by omega)
          rw [decide_eq_true rfl] at c1 c2
          refine goM ?_
          refine l_callG (num_ _ _) ?_
          refine goM ?_
          refine l_callG c1 ?_
          refine goM ?_
          refine l_callG c2 ?_
          refine goM ?_
          exact end_1 (by first | exact .inl rfl | exact .inr rfl) ⟨rfl, hM.pre⟩
        · have dk0 : (e.kind == 0) = false := by simpa using hn0
          have dk : (e.kind == 1) = false := by simpa using hn1
          have ld1 := fa.ws
          have ld2 := fa.vs
          have c1 := sameInts_ H9 a1 e1 ka.ws ka.ws qa qc (by omega)
          have c2 := sameInts_ H9 a2 e2 ka.vs ka.vs qb qd (by omega)
          rw [decide_eq_true rfl] at c1 c2
          clear hT hD hP hQ qa qb qc qd
          refine goM ?_
          refine l_callG c1 ?_
          refine goM ?_
          refine l_callG c2 ?_
          refine goM ?_
          exact end_1 (by first | exact .inl rfl | exact .inr rfl) ⟨rfl, hM.pre⟩
end Go.Proofs.Ytengdmagaeckoaa.VM
