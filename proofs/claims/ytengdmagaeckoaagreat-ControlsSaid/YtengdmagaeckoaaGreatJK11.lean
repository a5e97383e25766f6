/- Joined texts: CtlH, CtlI, EvG, CtlJ, CtlK. -/
import Derived.Test.YtengdmagaeckoaaGreatJK10
/- Layer 22: states that are written over. -/
namespace Go.Proofs.YtengdmagaeckoaaGreat.VM
open Go
set_option linter.unusedVariables false
set_option linter.unusedSimpArgs false
attribute [local irreducible] wq wqL wqD wqE wqO Th Bk EndR
set_option maxHeartbeats 8000000

theorem spoilEvents_ (B H : Heap) (L : List Res) (f : Res → List Res) (v : V) (xs : List Ev) (hM : Mem B H L) (hh : Has L (.own 6 evC v xs) f) (lx : xs.length ≤ 2 ^ 42) : ∃ w H', Call Tryz.prog 74 [v] H w H' ∧ w = .tup [] ∧ ∃ ys : List Ev, ys.length = xs.length ∧ Mem B H' (f (.own 6 evC v ys)) := by
  refine call_turn fit mixed hM Tryz.func74 rfl rfl rfl (by kernel_rfl) fun _ => ?_
  obtain ⟨n, hn⟩ : ∃ n, xs.length = n := ⟨_, rfl⟩
  refine goM ?_
  refine wq_loop (fun c ρ hp => ∃ (k : Nat) (ys : List Ev) (L' : List Res), k ≤ n ∧ c = n - k ∧ ys.length = n ∧ Mem B hp L' ∧ Has L' (.own 6 evC v ys) f ∧ ρ 0 = v ∧ ρ 2 = .int .i64 (k : Int)) ⟨0, xs, L, Nat.zero_le _, rfl, hn, hM, hh, rfl, rfl⟩ ?_
  clear hM hh
  rintro _ ρ hp ⟨k, ys, L', hk, rfl, hys, hM, hh, h0, h2⟩
  have hlen := (hM.sl hh).len T27 rfl
  rw [hys] at hlen
  refine goM ?_
  refine cond_go (fun hb => ?_) (fun hb => ?_)
  · have hk' : k < n := by simpa using hb
    clear hb
    obtain ⟨e, he⟩ : ∃ e, ys[k]? = some e := ⟨ys[k]'(by omega), by simp⟩
    obtain ⟨b, o, cs, hi, hc, _, hlo, hlc⟩ := (hM.sl hh).get T27 rfl T78 rfl he
    have lo3 : loadV T 3 hp b (o + 3) = some (.int .i64 e.at_) := loadV_one T3 rfl (hlc 3 _ (by rw [hc]; rfl))
    obtain ⟨b', hix, hput⟩ := hM.elemAt hh T27 rfl T78 rfl he 3 T3 (by decide)
    rw [hi] at hix
    cases hix
    obtain ⟨z, hz⟩ : ∃ z, IntKind.i64.wrap ((BitVec.ofInt IntKind.i64.bits e.at_ ^^^ BitVec.ofInt IntKind.i64.bits 90).toNat : Int) = z := ⟨_, rfl⟩
    obtain ⟨H', hst, hM'⟩ := hput (.int .i64 z) ⟨e.kind, e.member, e.donor, z, e.rate, e.mom⟩ rfl rfl (fun cs hl hR => by rw [hR]; rfl)
    have hw := wrap_succ (n := k) (by omega)
    clear he hput hlo hlc hc
    refine goM ?_
    refine l_stM hst ?_
    refine goM ?_
    exact ⟨n - (k + 1), by omega, k + 1, _, _, hk', rfl, by simpa using hys, hM', hh.again _, by simp [put_app, put_none, *]⟩
  · clear hb
    refine goM ?_
    refine end_normal (by simp only [resRf, resRs, resR]; first | done | rfl) ⟨rfl, ys, by omega, ?_⟩
    rw [hh.same]; exact hM

/-- parts of rows, whatever their numbers -/
structure RowsQ (rv : List (V × Int)) (P : List Res) : Prop where
  len : P.length = rv.length
  at_ : ∀ (j : Nat) p, rv[j]? = some p → ∃ xs : List Int, P[j]? = some (.own 1 intC p.1 xs) ∧ xs.length ≤ 140737488351232
theorem rowsQ_of {rv : List (V × Int)} {rs : List (List Int × Int)} (h : Like rv rs) (hl : ∀ r ∈ rs, r.1.length * 8 ≤ 140737488351232) : RowsQ rv (rowsP rv rs) := by
  refine ⟨by unfold rowsP; rw [List.length_zipWith, h.1, Nat.min_self], fun j p hp => ?_⟩
  have hj := (List.getElem?_eq_some_iff.1 hp).1
  have hr : rs[j]? = some (rs[j]'(by rw [← h.1]; exact hj)) := by simp
  exact ⟨_, rowsP_get hp hr, by have := hl _ (List.mem_of_getElem? hr); omega⟩
theorem spoilRows_ (B H : Heap) (L P : List Res) (u : V) (rv : List (V × Int)) (hM : Mem B H (.own 2 rowC u rv :: (P ++ L))) (hq : RowsQ rv P) (lx : rv.length ≤ 2 ^ 42) : ∃ w H', Call Tryz.prog 73 [u] H w H' ∧ w = .tup [] ∧ Mem B H' L := by
  refine call_turn fit mixed hM Tryz.func73 rfl rfl rfl (by kernel_rfl) fun _ => ?_
  obtain ⟨n, hn⟩ : ∃ n, rv.length = n := ⟨_, rfl⟩
  refine goM ?_
  refine wq_loop (fun c ρ hp => ∃ (k : Nat) (rv : List (V × Int)) (P : List Res), k ≤ n ∧ c = n - k ∧ rv.length = n ∧ RowsQ rv P ∧ Mem B hp (.own 2 rowC u rv :: (P ++ L)) ∧ ρ 0 = u ∧ ρ 2 = .int .i64 (k : Int)) ⟨0, rv, P, Nat.zero_le _, rfl, hn, hq, hM, rfl, rfl⟩ ?_
  have lxn : n ≤ 2 ^ 42 := by omega
  clear hM hq hn lx
  rintro _ ρ hp ⟨k, rv, P, hk, rfl, hrl, hq, hM, h0, h2⟩
  have hlen := (hM.sl .here).len T24 rfl
  rw [hrl] at hlen
  refine goM ?_
  refine cond_go (fun hb => ?_) (fun hb => ?_)
  · have hk' : k < n := by simpa using hb
    clear hb
    obtain ⟨⟨p, y⟩, he⟩ : ∃ e, rv[k]? = some e := ⟨rv[k]'(by omega), by simp⟩
    obtain ⟨xs, hP, hxs⟩ := hq.at_ k _ he
    obtain ⟨b, o, cs, hi, hc, _, hlo, hlc⟩ := (hM.sl .here).get T24 rfl T113 rfl he
    have lo0 : loadV T 30 hp b o = some p := loadV_one T30 rfl (hlc 0 _ (by rw [hc]; rfl))
    obtain ⟨_, H2, c1, rfl, ys, hys, hM2⟩ := spoilIntsM_ B hp _ _ p xs hM (.there (Has.app (Has.nth hP))) (by omega)
    obtain ⟨b', o', cs', hi', hc', _, hlo', hlc'⟩ := (hM2.sl .here).get T24 rfl T113 rfl he
    rw [hi] at hi'
    cases hi'
    have lo1 : loadV T 3 H2 b (o + 1) = some (.int .i64 y) := loadV_one T3 rfl (hlc' 1 _ (by rw [hc']; rfl))
    obtain ⟨b', hix, hput⟩ := hM2.elemAt .here T24 rfl T113 rfl he 1 T3 (by decide)
    rw [hi] at hix
    cases hix
    obtain ⟨z, hz⟩ : ∃ z, IntKind.i64.wrap ((BitVec.ofInt IntKind.i64.bits y ^^^ BitVec.ofInt IntKind.i64.bits 90).toNat : Int) = z := ⟨_, rfl⟩
    obtain ⟨H', hst, hM'⟩ := hput (.int .i64 z) (p, z) rfl rfl (fun cs hl hR => by rw [hR]; rfl)
    have hw := wrap_succ (n := k) (by omega)
    have hkP := (List.getElem?_eq_some_iff.1 hP).1
    have hq2 : RowsQ (rv.set k (p, z)) (P.set k (.own 1 intC p ys)) := ⟨by rw [List.length_set, List.length_set]; exact hq.len, fun j q hj => by
      by_cases hjk : k = j
      · subst hjk
        rw [List.getElem?_set_self (by omega)] at hj
        cases hj
        exact ⟨ys, List.getElem?_set_self hkP, by omega⟩
      · rw [List.getElem?_set_ne hjk] at hj ⊢
        exact hq.at_ j q hj⟩
    clear he hput hlo hlc hc hlo' hlc' hc' hP hM2
    refine goM ?_
    refine l_callG c1 ?_
    refine goM ?_
    refine l_stM hst ?_
    refine goM ?_
    exact ⟨n - (k + 1), by omega, k + 1, _, _, hk', rfl, by simpa using hrl, hq2, hM', by simp [put_app, put_none, *]⟩
  · clear hb
    refine goM ?_
    exact end_normal (by simp only [resRf, resRs, resR]; first | done | rfl) ⟨rfl, (hM.drop).sub (List.sublist_append_right _ _)⟩

theorem spoilState_ (B H : Heap) (L : List Res) (s : St) (u mv ev sv : V) (rvs : List (V × Int)) (xs : List MR) (hM : Mem B H (stOwn u mv ev sv rvs xs s ++ L)) (hl : Like rvs s.c.rows) (hv : xs.map MR.val = s.ms) (hf : s.Fit) :
    ∃ w H', Call Tryz.prog 32 [.agg (stC s.c u mv ev sv)] H w H' ∧ w = .tup [] ∧ Mem B H' L := by
  have hat := st_at hM hl hv
  have z1 : u.cells = [u] ∧ u.isTup = false := by obtain ⟨_, h, _⟩ := hat.rows; exact h.cells
  have z2 := hat.ms.cells
  have z3 := hat.es.cells
  have z4 := hat.st.cells
  have l1 := hf.c.rows
  have l4 := hf.es
  have l5 := hf.st
  have hkx := hf.kx hat
  have hlx := hat.len
  have hlm := hf.ms
  obtain ⟨n, hn⟩ : ∃ n, xs.length = n := ⟨_, rfl⟩
  have hlen := hat.ms.len T56 rfl
  rw [hn] at hlen
  clear hat
  refine call_turn fit mixed hM Tryz.func32 rfl rfl rfl (by kernel_rfl) fun _ => ?_
  refine wq_seq (wq_line ?_)
  refine l_boxM T59 fun b1 H1 hM => ?_
  have hr := (hM.front (r := .ro (pack (rowsR u rvs s.c.rows))) (.there .here)).unpacked
  obtain ⟨_, H2, c1, rfl, hM2⟩ := spoilRows_ B H1 (.box b1 (stC s.c u mv ev sv) :: .ro (pack (mems xs)) :: .own 6 mrC mv xs :: .own 6 evC ev s.es :: .own 3 entC sv s.st :: L) (rowsP rvs s.c.rows) u rvs hr (rowsQ_of hl hf.c.row) (by have := hl.1; omega)
  clear hr
  refine goM ?_
  refine l_callG c1 ?_
  clear c1
  repeat clear hM
  have hM := hM2
  clear hM2
  refine goM ?_
  refine wq_loop (fun c ρ hp => ∃ (k : Nat) (ys : List MR) (P : List Res), k ≤ n ∧ c = n - k ∧ ys.length = n ∧ P.length = n ∧ (∀ (j : Nat) y, k ≤ j → ys[j]? = some y → P[j]? = some (kPart y.w y.v y.k.ws y.k.vs) ∧ y.k.Fit) ∧ Mem B hp (.box b1 (stC s.c u mv ev sv) :: .ro (pack P) :: .own 6 mrC mv ys :: .own 6 evC ev s.es :: .own 3 entC sv s.st :: L) ∧ ρ 1 = .ptr b1 0 ∧ ρ 2 = .int .i64 (k : Int)) ⟨0, xs, mems xs, Nat.zero_le _, rfl, hn, by unfold mems; rw [List.length_map, hn], fun j y _ hy => ⟨by unfold mems; rw [List.getElem?_map, hy]; rfl, hkx y (List.mem_of_getElem? hy)⟩, hM, by simp [put_app, put_none, rho0_app, *]⟩ ?_
  repeat clear hM
  have hnb : n * 80 ≤ 140737488351232 := by omega
  clear hkx hn hv hlx
  rintro _ ρ hp ⟨k, ys, P, hk, rfl, hyl, hPl, hP, hM, g1, g2⟩
  refine goM ?_
  refine cond_go (fun hb => ?_) (fun hb => ?_)
  · have hk' : k < n := by simpa using hb
    clear hb
    obtain ⟨y, hy⟩ : ∃ e, ys[k]? = some e := ⟨ys[k]'(by omega), by simp⟩
    obtain ⟨hPk, kf⟩ := hP k y (Nat.le_refl _) hy
    obtain ⟨bo, o, hi, _, loK, _⟩ := mr_at (hM.sl (v := mv) (xs := ys) (by (repeat (first | exact Has.here | apply Has.there)))) hy
    have hka := kPart_at ((hM.front (r := .ro (pack P)) (by (repeat (first | exact Take.here | apply Take.there)))).pull hPk |>.get .here)
    have t1 := hka.ws.cells
    have t2 := hka.vs.cells
    have h1 := ((hM.front (r := .ro (pack P)) (by (repeat (first | exact Take.here | apply Take.there)))).pull hPk).unpack2
    obtain ⟨_, H3, c1, rfl, hM3⟩ := spoilCheckM_ B hp _ y.w y.v y.k h1 kf
    obtain ⟨bo2, o2, hi2, _, _, loH⟩ := mr_at (hM3.sl (v := mv) (xs := ys) (by (repeat (first | exact Has.here | apply Has.there)))) hy
    rw [hi] at hi2
    cases hi2
    obtain ⟨b', hix, hput⟩ := hM3.elemAt (sz := 6) (R := mrC) (v := mv) (xs := ys) (by (repeat (first | exact Has.here | apply Has.there))) T56 rfl T48 rfl hy 5 T3 (by decide)
    rw [hi] at hix
    cases hix
    obtain ⟨z, hz⟩ : ∃ z, IntKind.i64.wrap ((BitVec.ofInt IntKind.i64.bits y.h ^^^ BitVec.ofInt IntKind.i64.bits 90).toNat : Int) = z := ⟨_, rfl⟩
    obtain ⟨H', hst, hM4⟩ := hput (.int .i64 z) ⟨y.w, y.v, y.k, z⟩ rfl rfl (fun cs hl hR => by rw [hR]; rfl)
    have hw := wrap_succ (n := k) (by omega)
    have hP2 : ∀ (j : Nat) x, k + 1 ≤ j → (ys.set k ⟨y.w, y.v, y.k, z⟩)[j]? = some x → (P.set k (.own 1 intC .nils []))[j]? = some (kPart x.w x.v x.k.ws x.k.vs) ∧ x.k.Fit := fun j x hj hx => by
      rw [List.getElem?_set_ne (by omega)] at hx ⊢
      exact hP j x (by omega) hx
    clear hput h1 hy hPk hP hka
    refine goM ?_
    refine l_callG c1 ?_
    clear c1 loK
    repeat clear hM
    have hM := hM3
    clear hM3
    refine goM ?_
    refine d_stM hst ?_
    repeat clear hM
    have hM5 := hM4.front (r := .box b1 (stC s.c u mv ev sv)) (by (repeat (first | exact Take.here | apply Take.there)))
    clear hM4
    refine goM ?_
    exact ⟨n - (k + 1), by omega, k + 1, _, _, hk', rfl, by simpa using hyl, by simpa using hPl, hP2, hM5, by simp [put_app, put_none, *]⟩
  · clear hb
    obtain ⟨_, H3, c1, rfl, es', _, hM3⟩ := spoilEvents_ B hp _ _ ev s.es hM (by (repeat (first | exact Has.here | apply Has.there))) (by omega)
    refine goM ?_
    refine l_callG c1 ?_
    clear c1
    repeat clear hM
    have hM := hM3
    clear hM3
    refine goM ?_
    obtain ⟨_, H4, c1, rfl, st', _, hM4⟩ := spoilEnts_ B H3 _ _ sv s.st hM (by (repeat (first | exact Has.here | apply Has.there))) (by omega)
    refine l_callG c1 ?_
    clear c1
    refine goM ?_
    exact end_normal (by simp only [resRf, resRs, resR]; first | done | rfl) ⟨rfl, hM4.sub (by (repeat (first | exact List.Sublist.slnil | exact List.Sublist.refl _ | refine List.Sublist.cons_cons _ ?_ | refine List.Sublist.cons _ ?_)))⟩
end Go.Proofs.YtengdmagaeckoaaGreat.VM

/- Chapter 22: the small config; its new state. -/
namespace Go.Proofs.YtengdmagaeckoaaGreat.VM
open Go
set_option linter.unusedVariables false
set_option linter.unusedSimpArgs false
attribute [local irreducible] wq wqL wqD wqE wqO Th Bk EndR
set_option maxHeartbeats 8000000

theorem small22_ (H : Heap) : ∃ w H', Call Tryz.prog 35 [] H w H' ∧ ∃ rv xv, w = .agg (cfgC smallC rv) ∧ Mem H H' [.ro (rowsFact rv xv smallC.rows)] := by
  refine call_mem fit mixed Tryz.func35 rfl rfl rfl (by kernel_rfl) fun hM => ?_
  refine wq_seq (wq_line ?_)
  refine l_newM (cs := zeroCfg) T26 rfl fun b0 H1 hM => ?_
  refine goM ?_
  refine l_sliceM intC [65536] [.int .i64 65536] T30 rfl T3 rfl (cells_ints [65536]) (by decide) (fun x1 H2 hM => ?_)
  have t1 := (hM.sl .here).cells
  refine goM ?_
  refine l_sliceM intC [-65536] [.int .i64 (-65536)] T30 rfl T3 rfl (cells_ints [-65536]) (by decide) (fun x2 H3 hM => ?_)
  have t2 := (hM.sl .here).cells
  refine goM ?_
  refine l_sliceM rowC [(x1, 32768), (x2, 0)] [x1, .int .i64 32768, x2, .int .i64 0] T24 rfl T113 rfl (cells_rows [(x1, 32768), (x2, 0)]) (by decide) (fun rv H4 hM => ?_)
  have t3 := (hM.sl .here).cells
  refine goM ?_
  refine l_putM T26 fun H5 hM => ?_
  refine goM ?_
  refine end_1 (by first | exact .inl rfl | exact .inr rfl) ⟨rv, [(x1, 32768), (x2, 0)], rfl, Mem.mkro hM.pre ⟨hM.slG, rfl, fun k p r hp hr => ?_⟩ fun c hc => ?_⟩
  · match k, hp, hr with
    | 0, hp, hr => cases hp; cases hr; exact ⟨hM.slG, rfl⟩
    | 1, hp, hr => cases hp; cases hr; exact ⟨hM.slG, rfl⟩
  · rcases hc with hc | ⟨q, hq, hc⟩
    · exact hM.low (.own 2 rowC rv [(x1, 32768), (x2, 0)]) (by simp) c hc
    · simp at hq
      rcases hq with rfl | rfl
      · exact hM.low (.own 1 intC x1 [65536]) (by simp) c hc
      · exact hM.low (.own 1 intC x2 [-65536]) (by simp) c hc

theorem texts_differ : txEq (textK (firstK smallC 0)) (textK (firstK smallC 1)) = false := by decide +kernel
theorem put_fresh {es : List Ent} (h : Store es) {t : ByteArray} (ht : textOk t = true) (hno : ∀ e ∈ es, txEq e.tx t = false) (hl : es.length < 64) : putS es t = (insE es t 1, (freeN es : Int), 0) := by
  have hN : holdsN es t = es.length := holdsN_none fun j x hx => hno x (List.mem_of_getElem? hx)
  unfold putS
  rw [of_store h, ht, if_neg (by decide), hN, List.getElem?_eq_none (Nat.le_refl _)]
  simp only
  rw [if_neg (by omega)]; rfl
theorem new_small : newR smallC = (⟨smallC, [(firstK smallC 0, 0), (firstK smallC 1, 1)], [], [⟨0, textK (firstK smallC 0), 1⟩, ⟨1, textK (firstK smallC 1), 1⟩]⟩, 0) := by
  have hd := texts_differ
  have t0 := textK_ok (firstK_fits small_may 0)
  have t1 := textK_ok (firstK_fits small_may 1)
  have hst := (new_ok small_may 1 (by decide)).1.store
  have e1 : newF smallC 1 = ([(firstK smallC 0, 0)], [⟨0, textK (firstK smallC 0), 1⟩]) := by
    have := put_fresh store_empty t0 (fun e he => by cases he) (by decide)
    show ([] ++ [(firstK smallC ((0 : Nat) : Int), (putS [] (textK (firstK smallC ((0 : Nat) : Int)))).2.1)], (putS [] (textK (firstK smallC ((0 : Nat) : Int)))).1) = _
    rw [show ((0 : Nat) : Int) = 0 from rfl, this]; rfl
  rw [e1] at hst
  have e2 : newF smallC 2 = ([(firstK smallC 0, 0), (firstK smallC 1, 1)], [⟨0, textK (firstK smallC 0), 1⟩, ⟨1, textK (firstK smallC 1), 1⟩]) := by
    have := put_fresh hst t1 (fun e he => by rw [List.mem_singleton] at he; subst he; exact hd) (by simp)
    show ((newF smallC 1).1 ++ [(firstK smallC ((1 : Nat) : Int), (putS (newF smallC 1).2 (textK (firstK smallC ((1 : Nat) : Int)))).2.1)], (putS (newF smallC 1).2 (textK (firstK smallC ((1 : Nat) : Int)))).1) = _
    rw [e1, show ((1 : Nat) : Int) = 1 from rfl, this]; rfl
  unfold newR
  rw [if_pos small_may]
  unfold newS
  rw [show smallC.m.toNat = 2 from rfl, e2]
theorem new_none : newR noCfg = (noSt, 2200) := by
  unfold newR
  rw [if_neg (by decide)]
theorem none_bad : stateMay noSt = false := by
  unfold stateMay
  rw [show cfgMay noSt.c = false from by decide]; rfl
theorem none_scores : scoresR noSt = ([], 2200) := by
  unfold scoresR
  rw [none_bad, if_neg (by decide)]
theorem newR_fit {c : Cfg} (hf : c.Fit) : (newR c).1.Fit := by
  unfold newR
  cases hc : cfgMay c with
  | false =>
    rw [if_neg (by decide)]
    exact ⟨⟨by decide, fun r hr => (by cases hr)⟩, by decide, fun m hm => (by cases hm), by decide, by decide⟩
  | true =>
    obtain ⟨hm2, _⟩ := cfgMay_split hc
    obtain ⟨h1, h2, h3, h4, h5, h6⟩ := (new_ok hc c.m.toNat (by omega)).1
    rw [if_pos rfl]
    refine ⟨hf, ?_, fun m hm => ?_, by show (0 : Nat) * 48 ≤ _; decide, ?_⟩
    · show (newF c c.m.toNat).1.length * 80 ≤ _
      omega
    · obtain ⟨j, hj⟩ := List.mem_iff_getElem?.1 (show m ∈ (newF c c.m.toNat).1 from hm)
      rw [h2 j m hj]
      exact kFits_fit (firstK_fits hc _)
    · show (newF c c.m.toNat).2.length * 32 ≤ _
      omega

theorem list_two {α β : Type} {f : α → β} {xs : List α} {a b : β} (h : xs.map f = [a, b]) : ∃ x y, xs = [x, y] ∧ f x = a ∧ f y = b := by
  match xs, h with
  | [x, y], h => simp at h; exact ⟨x, y, rfl, h.1, h.2⟩
theorem score_first {c : Cfg} (hc : cfgMay c = true) (id : Int) : (scoreR c (firstK c id)).2 = 0 := by
  unfold scoreR
  rw [hc, firstK_fits hc id]; rfl
theorem awake22_ (K : Heap) : Call Tryz.prog 34 [] K (.bool true) K := by
  have hsm := small22_
  have hN : ∀ (H : Heap) (rv : V), Rows H rv smallC.rows → ∃ w H', Call Tryz.prog 24 [.agg (cfgC smallC rv)] H w H' ∧ ∃ u mv sv rvs xs, w = .tup [.agg (stC (newR smallC).1.c u mv .nils sv), .int .i64 (newR smallC).2] ∧ Like rvs (newR smallC).1.c.rows ∧ xs.map MR.val = (newR smallC).1.ms ∧ Mem H H' (stOwn u mv .nils sv rvs xs (newR smallC).1) := fun H rv hr => controlNew_ H smallC rv hr small_fit
  have hN0 := fun H => controlNew_ H noCfg .nils ⟨[], .inl ⟨rfl, rfl⟩, rfl, fun k p r hp => (by cases hp)⟩ ⟨by decide, fun r hr => (by cases hr)⟩
  have hS0 := fun H => controlScores_ H noSt .nils .nils .nils .nils [] ⟨⟨[], .inl ⟨rfl, rfl⟩, rfl, fun k p r hp => (by cases hp)⟩, .inl ⟨rfl, rfl⟩, rfl, fun x hx => (by cases hx), .inl ⟨rfl, rfl⟩, .inl ⟨rfl, rfl⟩⟩ ⟨⟨by decide, fun r hr => (by cases hr)⟩, by decide, fun m hm => (by cases hm), by decide, by decide⟩
  rw [new_none] at hN0
  rw [none_scores] at hS0
  obtain ⟨S, hS, hSm, hSe, hSs, hmay, hsf, hscore, hx2⟩ : ∃ S : St, newR smallC = (S, 0) ∧ S.ms = [(firstK smallC 0, 0), (firstK smallC 1, 1)] ∧ S.es = [] ∧ S.st.length = 2 ∧ stateMay S = true ∧ S.Fit ∧ scoresR S = ([(scoreR smallC (firstK smallC 0)).1, (scoreR smallC (firstK smallC 1)).1], 0) ∧ (scoreR smallC (firstK smallC 1)).2 = 0 := by
    have hmay : stateMay (newS smallC) = true := newS_may small_may
    have hSt : (newR smallC).1 = newS smallC := by unfold newR; rw [if_pos small_may]
    have hsf := newR_fit small_fit
    rw [← hSt] at hmay
    rw [new_small] at hmay hsf
    refine ⟨_, new_small, rfl, rfl, rfl, hmay, hsf, ?_, score_first small_may 1⟩
    unfold scoresR
    rw [if_pos hmay]; rfl
  rw [hS] at hN
  simp only at hN
  have hScore := fun H rv w v k h hr hk kf => refScoreOf_ H smallC rv w v k h hr hk small_fit kf
  have kf1 := kFits_fit (firstK_fits small_may 1)
  clear hS
  generalize firstK smallC 0 = K0 at *
  generalize firstK smallC 1 = K1 at *
  obtain ⟨z1, hz1⟩ : ∃ z, scoreR smallC K1 = z := ⟨_, rfl⟩
  obtain ⟨z0, hz0⟩ : ∃ z, scoreR smallC K0 = z := ⟨_, rfl⟩
  rw [hz1] at hx2 hscore
  rw [hz0] at hscore
  obtain ⟨z1, e1⟩ := z1
  simp only at hx2 hscore
  subst hx2
  clear hz0
  generalize smallC = c at *
  have hCM := fun H rv mv ev sv xs ha => controlMay_ H S rv mv ev sv xs ha hsf
  have hCS := fun H rv mv ev sv xs ha => controlScores_ H S rv mv ev sv xs ha hsf
  rw [hmay] at hCM
  rw [hscore] at hCS
  clear hmay hscore
  refine call_pure fit mixed Tryz.func34 rfl rfl rfl (by kernel_rfl) rfl fun hM => ?_
  obtain ⟨_, H1, c1, rv, xv, rfl, m0⟩ := hsm K
  have r1 := rows_of (m0.fact .here)
  obtain ⟨_, H2, c2, u, mv, sv, rvs, xs, rfl, hlk, hval, m1⟩ := hN H1 rv r1
  refine wq_seq (wq_line ?_)
  refine goM ?_
  refine l_callG c1 ?_
  replace hM := hM.grow m0.pre
  refine goM ?_
  refine l_callG c2 ?_
  have hat2 := st_at (L := []) (by simpa using m1) hlk hval
  have z1' : u.cells = [u] ∧ u.isTup = false := by obtain ⟨_, h, _⟩ := hat2.rows; exact h.cells
  have z2' := hat2.ms.cells
  have z4' := hat2.st.cells
  clear hat2
  replace hM : Mem K H2 (stOwn u mv .nils sv rvs xs S ++ []) := hM.call m1
  clear c1 c2 m0 m1 r1
  unfold stOwn at hM
  simp only [List.append_nil] at hM
  rw [hSm] at hval
  obtain ⟨⟨w0, v0, k0, h0⟩, ⟨w1, v1, k1, h1⟩, rfl, hv0, hv1⟩ := list_two hval
  cases hv0
  cases hv1
  refine goM ?_
  refine l_newM (cs := zeroSt) T59 rfl fun b1 H3 hM => ?_
  refine l_putM T59 fun H4 hM => ?_
  have hval2 : [(⟨w0, v0, k0, 0⟩ : MR), ⟨w1, v1, k1, 1⟩].map MR.val = S.ms := by rw [hSm]; rfl
  have hat4 : StAt H4 u mv .nils sv [⟨w0, v0, k0, 0⟩, ⟨w1, v1, k1, 1⟩] S := st_at (L := [.box b1 (stC S.c u mv .nils sv)]) (hM.perm (List.perm_append_comm (l₁ := [Res.box b1 (stC S.c u mv .nils sv)]))) hlk hval2
  obtain ⟨_, H5, c1, sc, rfl, m1⟩ := hCS H4 u mv .nils sv _ hat4
  refine goM ?_
  refine l_callG c1 ?_
  have t1 := (m1.sl .here).cells
  replace hM := hM.call1 m1
  have hsm1 := m1.pre
  clear c1 m1
  refine goM ?_
  obtain ⟨_, H6, c1, u2, mv2, sv2, rvs2, xs2, rfl, _, _, m1⟩ := hN0 H5
  refine l_callG c1 ?_
  have hp6 := m1.pre
  have q1 : u2.cells = [u2] ∧ u2.isTup = false := by
    have := rows_pack (m1.fact .here) (by assumption)
    obtain ⟨_, h, _⟩ := this
    exact h.cells
  have q2 := (m1.sl (v := mv2) (xs := xs2) (.there (.there .here))).cells
  have q4 := (m1.sl (v := sv2) (xs := ([] : List Ent)) (.there (.there (.there (.there .here))))).cells
  replace hM := hM.grow m1.pre
  clear c1 m1
  refine goM ?_
  refine l_newM (cs := zeroSt) T59 rfl fun b5 H7 hM => ?_
  refine l_putM T59 fun H8 hM => ?_
  refine goM ?_
  obtain ⟨_, H9, c1, sc2, rfl, m1⟩ := hS0 H8
  refine l_callG c1 ?_
  have t2 := (m1.sl .here).cells
  replace hM := hM.call1 m1
  clear c1 m1
  have hsx : Sl 6 mrC H9 mv [⟨w0, v0, k0, 0⟩, ⟨w1, v1, k1, 1⟩] := hM.sl (v := mv) (xs := [(⟨w0, v0, k0, 0⟩ : MR), ⟨w1, v1, k1, 1⟩]) (by (repeat (first | exact Has.here | apply Has.there)))
  have hlm := hsx.len T56 rfl
  have hlc := (hM.sl (v := sc) (xs := [z0.1, z1]) (by (repeat (first | exact Has.here | apply Has.there)))).len T30 rfl
  obtain ⟨x1, o1, i1, lo1, _, lh1⟩ := mr_at hsx (j := 1) (x := ⟨w1, v1, k1, 1⟩) rfl
  replace i1 : idxV T 56 mv 1 = some (.ptr x1 o1) := i1
  replace hlm : builtinP T .len [56] [mv] = some (.int .i64 2) := hlm
  replace hlc : builtinP T .len [30] [sc] = some (.int .i64 2) := hlc
  refine goM ?_
  obtain ⟨_, H10, c1, rv3, xv3, rfl, m0⟩ := hsm H9
  have r3 := rows_of (m0.fact .here)
  have lo1' := loadV_pre m0.pre lo1
  refine d_callG c1 (.inl m0.pre) ?_
  replace hM := hM.grow m0.pre
  clear c1 m0 lo1 hsx lh1
  have hsx : Sl 6 mrC H10 mv [⟨w0, v0, k0, 0⟩, ⟨w1, v1, k1, 1⟩] := hM.sl (v := mv) (xs := [(⟨w0, v0, k0, 0⟩ : MR), ⟨w1, v1, k1, 1⟩]) (by (repeat (first | exact Has.here | apply Has.there)))
  obtain ⟨x0, o0, i0, _, _, lh0⟩ := mr_at hsx (j := 0) (x := ⟨w0, v0, k0, 0⟩) rfl
  replace i0 : idxV T 56 mv 0 = some (.ptr x0 o0) := i0
  obtain ⟨y1, p1, i1', _, _, lh1⟩ := mr_at hsx (j := 1) (x := ⟨w1, v1, k1, 1⟩) rfl
  replace i1' : idxV T 56 mv 1 = some (.ptr y1 p1) := i1'
  rw [i1] at i1'
  cases i1'
  obtain ⟨xs0, os0, _, is1, rfl, _, ls1, _⟩ := (hM.sl (v := sc) (xs := [z0.1, z1]) (by (repeat (first | exact Has.here | apply Has.there)))).get T30 rfl T3 rfl (k := 1) (x := z1) rfl
  replace is1 : idxV T 30 sc 1 = some (.ptr xs0 os0) := is1
  have hs1 := loadV_one T3 rfl ls1
  have hkk := mems_at (hM.fact (F := pack (mems [⟨w0, v0, k0, 0⟩, ⟨w1, v1, k1, 1⟩])) (by (repeat (first | exact Has.here | apply Has.there)))) ⟨w1, v1, k1, 1⟩ (by simp)
  have c2 := hScore H10 rv3 w1 v1 k1 1 r3 hkk kf1
  rw [hz1] at c2
  have hle : builtinP T .len [27] [.nils] = some (.int .i64 0) := rfl
  have hls := (hM.sl (v := sv) (xs := S.st) (by (repeat (first | exact Has.here | apply Has.there)))).len T57 rfl
  rw [hSs] at hls
  replace hls : builtinP T .len [57] [sv] = some (.int .i64 2) := hls
  have hat10 : StAt H10 u mv .nils sv [⟨w0, v0, k0, 0⟩, ⟨w1, v1, k1, 1⟩] S := ⟨rows_pack (hM.fact (F := pack (rowsR u rvs S.c.rows)) (by (repeat (first | exact Has.here | apply Has.there)))) hlk, hsx, hval2, mems_at (hM.fact (F := pack (mems [⟨w0, v0, k0, 0⟩, ⟨w1, v1, k1, 1⟩])) (by (repeat (first | exact Has.here | apply Has.there)))), by rw [hSe]; exact .inl ⟨rfl, rfl⟩, hM.sl (v := sv) (xs := S.st) (by (repeat (first | exact Has.here | apply Has.there)))⟩
  have c3 := hCM H10 u mv .nils sv _ hat10
  clear hkk ls1 hSs hSe
  refine goM ?_
  refine d_call0G c2 ?_
  refine goM ?_
  refine l_callG (num_ _ _) ?_
  refine goM ?_
  refine l_callG (num_ _ _) ?_
  refine goM ?_
  refine l_callG (num_ _ _) ?_
  refine goM ?_
  refine l_callG (num_ _ _) ?_
  refine goM ?_
  refine l_callG c3 ?_
  refine goM ?_
  exact end_1 (by first | exact .inl rfl | exact .inr rfl) ⟨rfl, hM.pre⟩
end Go.Proofs.YtengdmagaeckoaaGreat.VM

/- Events that are lent, as a part of the memory; what is known of the events handed in. -/
namespace Go.Proofs.YtengdmagaeckoaaGreat.VM
open Go
set_option linter.unusedVariables false
set_option linter.unusedSimpArgs false
attribute [local irreducible] wq wqL wqD wqE wqO Th Bk EndR
set_option maxHeartbeats 8000000

theorem rd_event {K : Heap} {D : Type} {vs : List V} {d : DataW D} (h : Rd T K 78 vs d) : ∃ e : Ev, vs = evV e := by
  obtain ⟨hl, hf⟩ := h.field T78 rfl
  replace hl : vs.length = 6 := hl
  obtain ⟨x0, h0⟩ := hf 0 _ _ rfl T3
  obtain ⟨x1, h1⟩ := hf 1 _ _ rfl T3
  obtain ⟨x2, h2⟩ := hf 2 _ _ rfl T3
  obtain ⟨x3, h3⟩ := hf 3 _ _ rfl T3
  obtain ⟨x4, h4⟩ := hf 4 _ _ rfl T32
  obtain ⟨n0, e0, _⟩ := h0.isInt T3 rfl
  obtain ⟨n1, e1, _⟩ := h1.isInt T3 rfl
  obtain ⟨n2, e2, _⟩ := h2.isInt T3 rfl
  obtain ⟨n3, e3, _⟩ := h3.isInt T3 rfl
  obtain ⟨n4, n5, e4⟩ := rd_hyper h4
  match vs, hl, e0, e1, e2, e3, e4 with
  | [a, b, c, e, f, g], _, e0, e1, e2, e3, e4 =>
    simp at e0 e1 e2 e3 e4
    obtain ⟨rfl, rfl⟩ := e4
    subst e0; subst e1; subst e2; subst e3
    exact ⟨⟨n0, n1, n2, n3, n4, n5⟩, rfl⟩
theorem rd_events {K : Heap} {D : Type} {v : V} {d : DataW D} (h : RdV T K 27 v d) : ∃ es : List Ev, Sl 6 evC K v es ∧ es.length * 48 ≤ 140737488351232 :=
  (h.plain T27 rfl).isSlice T27 rfl T78 fun cs x hx => rd_event hx
end Go.Proofs.YtengdmagaeckoaaGreat.VM

/- Chapter 22: states that are handed in; the statement Controls. -/
namespace Go.Proofs.YtengdmagaeckoaaGreat.VM
open Go
set_option linter.unusedVariables false
set_option linter.unusedSimpArgs false
attribute [local irreducible] wq wqL wqD wqE wqO Th Bk EndR
set_option maxHeartbeats 8000000

def rdMemC (K : Heap) (cs : List V) (x : MR) : Prop := cs = mC x.w x.v x.k x.h ∧ KAt K x.w x.v x.k ∧ x.k.Fit
theorem rd_mrcells {K : Heap} {D : Type} {vs : List V} {d : DataW D} (hr : Rd T K 48 vs d) : ∃ x : MR, rdMemC K vs x := by
  obtain ⟨hl, hf⟩ := hr.field T48 rfl
  replace hl : vs.length = 6 := hl
  obtain ⟨x0, h0⟩ := hf 0 _ _ rfl T34
  obtain ⟨x1, h1⟩ := hf 1 _ _ rfl T3
  obtain ⟨n1, e1, _⟩ := h1.isInt T3 rfl
  obtain ⟨w, u, k, e0, hk, hf'⟩ := rd_checkcells h0
  match vs, hl, e0, e1 with
  | [a, b, c, e, f, g], _, e0, e1 =>
    simp at e0 e1
    obtain ⟨rfl, rfl, rfl, rfl, rfl⟩ := e0
    subst e1
    exact ⟨⟨a, b, k, n1⟩, rfl, hk, hf'⟩
theorem rd_members {K : Heap} {D : Type} {v : V} {d : DataW D} (h : RdV T K 56 v d) : ∃ xs : List MR, Sl 6 mrC K v xs ∧ xs.length * 80 ≤ 140737488351232 ∧ ∀ x ∈ xs, KAt K x.w x.v x.k ∧ x.k.Fit := by
  obtain ⟨xs, h1, h2⟩ := (h.plain T56 rfl).isSlice (R := rdMemC K) T56 rfl T48 fun cs x hx => rd_mrcells hx
  have h3 := h1.all (Q := fun p => KAt K p.w p.v p.k ∧ p.k.Fit) fun cs x hx => hx.2
  have h4 := h1.map (R' := mrC) (fun p => p) fun cs x hx => (show mrC cs x from hx.1)
  rw [List.map_id'] at h4
  exact ⟨xs, h4, Nat.le_trans h2 (by decide), h3⟩
theorem rd_state {K : Heap} {D : Type} {v : V} {d : DataW D} (h : RdV T K 59 v d) : ∃ s rv mv ev sv xs, v = .agg (stC s.c rv mv ev sv) ∧ StAt K rv mv ev sv xs s ∧ s.Fit := by
  obtain ⟨vs, rfl, hr⟩ := h.agg T59 rfl
  obtain ⟨hl, hf⟩ := hr.field T59 rfl
  replace hl : vs.length = 12 := hl
  obtain ⟨x0, h0⟩ := hf 0 _ _ rfl T26
  obtain ⟨x1, h1⟩ := hf 1 _ _ rfl T56
  obtain ⟨x2, h2⟩ := hf 2 _ _ rfl T27
  obtain ⟨x3, h3⟩ := hf 3 _ _ rfl T57
  obtain ⟨c, rv, e0, hrows, cf⟩ := rd_config ⟨_, T26, .inl ⟨rfl, _, rfl, h0⟩⟩
  match vs, hl, e0, h1, h2, h3 with
  | [a0, a1, a2, a3, a4, a5, a6, a7, a8, a9, a10, a11], _, e0, h1, h2, h3 =>
    obtain ⟨xs, m1, m2, m3⟩ := rd_members ⟨_, T56, .inr ⟨rfl, h1⟩⟩
    obtain ⟨es, q1, q2⟩ := rd_events ⟨_, T27, .inr ⟨rfl, h2⟩⟩
    obtain ⟨st, r1, r2⟩ := rd_ents ⟨_, T57, .inr ⟨rfl, h3⟩⟩
    simp at e0
    obtain ⟨rfl, rfl, rfl, rfl, rfl, rfl, rfl, rfl, rfl⟩ := e0
    refine ⟨⟨c, xs.map MR.val, es, st⟩, a3, a9, a10, a11, xs, rfl, ⟨hrows, m1, rfl, fun x hx => (m3 x hx).1, q1, r1⟩, cf, by rw [List.length_map]; exact m2, fun m hm => ?_, q2, Nat.le_trans r2 (by decide)⟩
    obtain ⟨x, hx, rfl⟩ := List.mem_map.1 hm
    exact (m3 x hx).2

theorem law_controls {D : Type} (K : Heap) (vs : List V) (ds : List (DataW D)) (ro : Ro K) (h : RdAll T K [26, 59] vs ds) : ∃ K', Call Tryz.prog 6 vs K (.bool true) K' := by
  obtain ⟨v1, vs, d1, ds, rfl, rfl, hv1, h⟩ := rdAll_cons h
  obtain ⟨v2, vs, d2, ds, rfl, rfl, hv2, h⟩ := rdAll_cons h
  obtain ⟨rfl, rfl⟩ := rdAll_nil h
  obtain ⟨c, rv, rfl, hr, cf⟩ := rd_config hv1
  obtain ⟨s, rv2, mv, ev, sv, xs, rfl, ha, sf⟩ := rd_state hv2
  clear hv1 hv2 h
  have s3 : rv.cells = [rv] ∧ rv.isTup = false := by obtain ⟨_, h, _⟩ := hr; exact h.cells
  have z1 : rv2.cells = [rv2] ∧ rv2.isTup = false := by obtain ⟨_, h, _⟩ := ha.rows; exact h.cells
  have z2 := ha.ms.cells
  have z3 := ha.es.cells
  have z4 := ha.st.cells
  have nf := newR_fit cf
  have hN := fun H rv hr => controlNew_ H c rv hr cf
  have hR := fun H rv hr => refNew_ H c rv hr cf
  have hS := fun H rv mv ev sv xs ha => controlScores_ H s rv mv ev sv xs ha sf
  have hT := fun H rv mv ev sv xs ha => refScores_ H s rv mv ev sv xs ha sf
  have hMay := fun H rv mv ev sv xs ha => controlMay_ H s rv mv ev sv xs ha sf
  have hDoc := fun H rv mv ev sv xs ha => refStateMay_ H s rv mv ev sv xs ha sf
  have hsl : (scoresR s).1.length ≤ 2 ^ 47 := by
    have := sf.ms
    unfold scoresR
    split
    · unfold scoreL
      simp only [List.length_map]
      omega
    · simp
  generalize newR c = o at *
  generalize scoresR s = y at *
  generalize stateMay s = q at *
  obtain ⟨S, e1⟩ := o
  obtain ⟨ys, e2⟩ := y
  simp only at nf hN hR hS hT hsl
  refine ⟨K, ?_⟩
  refine call_pure fit mixed Tryz.func6 rfl rfl rfl (by kernel_rfl) rfl fun hM => ?_
  refine wq_seq (wq_line ?_)
  refine l_boxM T26 fun b2 H1 hM => ?_
  refine l_boxM T59 fun b3 H2 hM => ?_
  refine goM ?_
  obtain ⟨_, H3, c1, x, xv, rfl, m1⟩ := copyConfigM_ H2 c rv (hr.mono hM.pre) cf
  refine d_callG c1 (.inl m1.pre) ?_
  have s4 : x.cells = [x] ∧ x.isTup = false := (m1.fact .here).1.cells
  replace hM := hM.call1 m1
  clear c1 m1
  refine goM ?_
  obtain ⟨_, H4, c1, u, mv', ev', sv', rvs, xs', rfl, hlk, hval, m1⟩ := copyState_ H3 s rv2 mv ev sv xs (ha.mono hM.pre) sf
  refine d_callG c1 (.inl m1.pre) ?_
  have hat := st_at (L := []) (by simpa using m1) hlk hval
  have t1 : u.cells = [u] ∧ u.isTup = false := by obtain ⟨_, h, _⟩ := hat.rows; exact h.cells
  have t2 := hat.ms.cells
  have t3 := hat.es.cells
  have t4 := hat.st.cells
  replace hM : Mem K H4 (stOwn u mv' ev' sv' rvs xs' s ++ _) := hM.call m1
  clear c1 m1 hat
  unfold stOwn at hM
  simp only [List.cons_append, List.nil_append] at hM
  refine goM ?_
  refine d_newM (cs := zeroCfg) T26 rfl fun b5 H5 hM => ?_
  refine d_newM (cs := zeroSt) T59 rfl fun b6 H6 hM => ?_
  refine d_putM T26 fun H7 hM => ?_
  refine d_putM T59 fun H8 hM => ?_
  refine goM ?_
  obtain ⟨_, H9, c1, u1, p1, q1, rvs1, xs1, rfl, hlk1, hval1, m1⟩ := hN H8 x (rows_of (hM.fact (F := rowsFact x xv c.rows) (by (repeat (first | exact Has.here | apply Has.there)))))
  refine l_callG c1 ?_
  have hat := st_at (L := []) (by simpa using m1) hlk1 hval1
  have r1 : u1.cells = [u1] ∧ u1.isTup = false := by obtain ⟨_, h, _⟩ := hat.rows; exact h.cells
  have r2 := hat.ms.cells
  have r4 := hat.st.cells
  replace hM : Mem K H9 (stOwn u1 p1 .nils q1 rvs1 xs1 S ++ _) := hM.call m1
  clear c1 m1 hat
  unfold stOwn at hM
  simp only [List.cons_append, List.nil_append] at hM
  refine goM ?_
  refine l_newM (cs := zeroSt) T59 rfl fun b7 H10 hM => ?_
  refine l_putM T59 fun H11 hM => ?_
  refine goM ?_
  obtain ⟨_, H12, c1, u2, p2, q2, rvs2, xs2, rfl, hlk2, hval2, m1⟩ := hR H11 rv (hr.mono hM.pre)
  refine l_callG c1 ?_
  have hat := st_at (L := []) (by simpa using m1) hlk2 hval2
  have r5 : u2.cells = [u2] ∧ u2.isTup = false := by obtain ⟨_, h, _⟩ := hat.rows; exact h.cells
  have r6 := hat.ms.cells
  have r7 := hat.st.cells
  replace hM : Mem K H12 (stOwn u2 p2 .nils q2 rvs2 xs2 S ++ _) := hM.call m1
  clear c1 m1 hat
  unfold stOwn at hM
  simp only [List.cons_append, List.nil_append] at hM
  refine goM ?_
  refine l_newM (cs := zeroSt) T59 rfl fun b9 H13 hM => ?_
  refine l_putM T59 fun H14 hM => ?_
  refine goM ?_
  have hatY : StAt H14 u mv' ev' sv' xs' s := ⟨rows_pack (hM.fact (F := pack (rowsR u rvs s.c.rows)) (by (repeat (first | exact Has.here | apply Has.there)))) hlk, hM.sl (v := mv') (xs := xs') (by (repeat (first | exact Has.here | apply Has.there))), hval, mems_at (hM.fact (F := pack (mems xs')) (by (repeat (first | exact Has.here | apply Has.there)))), hM.sl (v := ev') (xs := s.es) (by (repeat (first | exact Has.here | apply Has.there))), hM.sl (v := sv') (xs := s.st) (by (repeat (first | exact Has.here | apply Has.there)))⟩
  obtain ⟨_, H15, c1, sc, rfl, m1⟩ := hS H14 u mv' ev' sv' xs' hatY
  refine l_callG c1 ?_
  have r8 := (m1.sl .here).cells
  replace hM := hM.call1 m1
  clear c1 m1 hatY
  refine goM ?_
  obtain ⟨_, H16, c1, sc2, rfl, m1⟩ := hT H15 rv2 mv ev sv xs (ha.mono hM.pre)
  refine l_callG c1 ?_
  have r9 := (m1.sl .here).cells
  replace hM := hM.call1 m1
  clear c1 m1
  have hne : vbin T .neq 4 (.bool q) (.bool q) = some (.bool false) := by
    simp only [vbin, T4]
    cases q <;> rfl
  have at1 : StAt H16 u1 p1 .nils q1 xs1 S := ⟨rows_pack (hM.fact (F := pack (rowsR u1 rvs1 S.c.rows)) (by (repeat (first | exact Has.here | apply Has.there)))) hlk1, hM.sl (v := p1) (xs := xs1) (by (repeat (first | exact Has.here | apply Has.there))), hval1, mems_at (hM.fact (F := pack (mems xs1)) (by (repeat (first | exact Has.here | apply Has.there)))), hM.sl (v := .nils) (xs := S.es) (by (repeat (first | exact Has.here | apply Has.there))), hM.sl (v := q1) (xs := S.st) (by (repeat (first | exact Has.here | apply Has.there)))⟩
  have at2 : StAt H16 u2 p2 .nils q2 xs2 S := ⟨rows_pack (hM.fact (F := pack (rowsR u2 rvs2 S.c.rows)) (by (repeat (first | exact Has.here | apply Has.there)))) hlk2, hM.sl (v := p2) (xs := xs2) (by (repeat (first | exact Has.here | apply Has.there))), hval2, mems_at (hM.fact (F := pack (mems xs2)) (by (repeat (first | exact Has.here | apply Has.there)))), hM.sl (v := .nils) (xs := S.es) (by (repeat (first | exact Has.here | apply Has.there))), hM.sl (v := q2) (xs := S.st) (by (repeat (first | exact Has.here | apply Has.there)))⟩
  have atY : StAt H16 u mv' ev' sv' xs' s := ⟨rows_pack (hM.fact (F := pack (rowsR u rvs s.c.rows)) (by (repeat (first | exact Has.here | apply Has.there)))) hlk, hM.sl (v := mv') (xs := xs') (by (repeat (first | exact Has.here | apply Has.there))), hval, mems_at (hM.fact (F := pack (mems xs')) (by (repeat (first | exact Has.here | apply Has.there)))), hM.sl (v := ev') (xs := s.es) (by (repeat (first | exact Has.here | apply Has.there))), hM.sl (v := sv') (xs := s.st) (by (repeat (first | exact Has.here | apply Has.there)))⟩
  have c1 := sameState_ H16 S u1 p1 .nils q1 u2 p2 .nils q2 xs1 xs2 at1 at2 nf
  have c2 := sameInts_ H16 sc sc2 ys ys (hM.sl (v := sc) (xs := ys) (by (repeat (first | exact Has.here | apply Has.there)))) (hM.sl (v := sc2) (xs := ys) (by (repeat (first | exact Has.here | apply Has.there)))) hsl
  rw [decide_eq_true rfl] at c2
  have c3 := hMay H16 u mv' ev' sv' xs' atY
  have c4 := hDoc H16 rv2 mv ev sv xs (ha.mono hM.pre)
  clear at1 at2 atY
  refine goM ?_
  refine d_call0G c1 ?_
  refine goM ?_
  refine d_call0G (num_ _ _) ?_
  refine goM ?_
  refine d_call0G c2 ?_
  refine goM ?_
  refine d_call0G (num_ _ _) ?_
  refine goM ?_
  refine d_call0G c3 ?_
  refine goM ?_
  refine d_call0G c4 ?_
  clear c1 c2 c3 c4
  repeat (first | (refine d_gd ?_; refine d_onG ?_; refine d_step (s_bin eLk eLk hne) ?_) | (refine l_pl ?_; refine l_goM ?_) | (refine d_pl ?_; refine d_goM ?_) | (refine l_gd ?_; first | refine l_onG ?_ | refine l_offG ?_ | refine l_offU ?_) | (refine d_gd ?_; first | refine d_onG ?_ | refine d_offG ?_ | refine d_offU ?_) | (refine cond_pl ?_; first | refine cond_yes ?_ | refine cond_no ?_) | refine wq_seq ?_ | refine wq_line ?_ | refine wq_draw (by decide +kernel) ?_ | refine wq_block ?_ | refine l_nil ?_ | refine d_nil ?_ | refine wq_skip ?_ | refine wq_ret ?_ | refine wq_exit ?_ | refine th_normal ?_ | refine th_ret ?_ | refine th_exit ?_ | refine bk_normal ?_ | refine bk_ret ?_ | refine bk_exit ?_ | refine bk_other rfl ?_)
  have hF := ((((hM.front (r := .own 3 entC q1 S.st) (by (repeat (first | exact Take.here | apply Take.there)))).front (r := .own 6 evC .nils S.es) (by (repeat (first | exact Take.here | apply Take.there)))).front (r := .own 6 mrC p1 xs1) (by (repeat (first | exact Take.here | apply Take.there)))).front (r := .ro (pack (mems xs1))) (by (repeat (first | exact Take.here | apply Take.there)))).front (r := .ro (pack (rowsR u1 rvs1 S.c.rows))) (by (repeat (first | exact Take.here | apply Take.there)))
  obtain ⟨_, H17, c1, rfl, hM2⟩ := spoilState_ K H16 _ S u1 p1 .nils q1 rvs1 xs1 hF hlk1 hval1 nf
  refine l_callG c1 ?_
  clear c1 hF
  repeat clear hM
  have hM := hM2
  clear hM2
  refine goM ?_
  obtain ⟨_, H18, c1, rfl, ys2, _, hM2⟩ := spoilIntsM_ K H17 _ _ sc ys hM (by (repeat (first | exact Has.here | apply Has.there))) hsl
  refine l_callG c1 ?_
  clear c1
  repeat clear hM
  have hM := hM2
  clear hM2
  have atY : StAt H18 u mv' ev' sv' xs' s := ⟨rows_pack (hM.fact (F := pack (rowsR u rvs s.c.rows)) (by (repeat (first | exact Has.here | apply Has.there)))) hlk, hM.sl (v := mv') (xs := xs') (by (repeat (first | exact Has.here | apply Has.there))), hval, mems_at (hM.fact (F := pack (mems xs')) (by (repeat (first | exact Has.here | apply Has.there)))), hM.sl (v := ev') (xs := s.es) (by (repeat (first | exact Has.here | apply Has.there))), hM.sl (v := sv') (xs := s.st) (by (repeat (first | exact Has.here | apply Has.there)))⟩
  have c1 := sameConfig_ H18 c x rv (rows_of (hM.fact (F := rowsFact x xv c.rows) (by (repeat (first | exact Has.here | apply Has.there))))) (hr.mono hM.pre) (by have := cf.rows; omega) (fun r hr => by have := cf.row r hr; omega)
  have c2 := sameState_ H18 s u mv' ev' sv' rv2 mv ev sv xs' xs atY (ha.mono hM.pre) sf
  clear atY
  refine goM ?_
  refine l_callG c1 ?_
  refine goM ?_
  refine l_callG c2 ?_
  refine goM ?_
  refine l_callG (awake22_ _) ?_
  refine goM ?_
  exact end_1 (by first | exact .inl rfl | exact .inr rfl) ⟨rfl, hM.pre⟩
end Go.Proofs.YtengdmagaeckoaaGreat.VM

/- Chapter 22: the statements ControlNew, ControlFree. -/
namespace Go.Proofs.YtengdmagaeckoaaGreat.VM
open Go
set_option linter.unusedVariables false
set_option linter.unusedSimpArgs false
attribute [local irreducible] wq wqL wqD wqE wqO Th Bk EndR
set_option maxHeartbeats 8000000

theorem none_at (H : Heap) : StAt H .nils .nils .nils .nils [] noSt := ⟨⟨[], .inl ⟨rfl, rfl⟩, rfl, fun k p r hp => (by cases hp)⟩, .inl ⟨rfl, rfl⟩, rfl, fun x hx => (by cases hx), .inl ⟨rfl, rfl⟩, .inl ⟨rfl, rfl⟩⟩
theorem none_fit : noSt.Fit := ⟨⟨by decide, fun r hr => (by cases hr)⟩, by decide, fun m hm => (by cases hm), by decide, by decide⟩

theorem law_controlNew {D : Type} (K : Heap) (vs : List V) (ds : List (DataW D)) (ro : Ro K) (h : RdAll T K [26] vs ds) : ∃ K', Call Tryz.prog 8 vs K (.bool true) K' := by
  obtain ⟨v1, vs, d1, ds, rfl, rfl, hv1, h⟩ := rdAll_cons h
  obtain ⟨rfl, rfl⟩ := rdAll_nil h
  obtain ⟨c, rv, rfl, hr, cf⟩ := rd_config hv1
  clear hv1 h
  have s3 : rv.cells = [rv] ∧ rv.isTup = false := by obtain ⟨_, h, _⟩ := hr; exact h.cells
  have nf := newR_fit cf
  have l1 := cf.rows
  have l2 := cf.row
  have hN := fun H rv hr => controlNew_ H c rv hr cf
  have hC := fun H hr => refConfMay_ H c rv hr (by omega) (fun r hr => by have := l2 r hr; omega)
  refine ⟨K, ?_⟩
  refine call_pure fit mixed Tryz.func8 rfl rfl rfl (by kernel_rfl) rfl fun hM => ?_
  refine wq_seq (wq_line ?_)
  refine l_boxM T26 fun b1 H1 hM => ?_
  refine goM ?_
  refine l_callG (awake22_ _) ?_
  refine goM ?_
  obtain ⟨_, H2, c1, u, mv, sv, rvs, xs, rfl, hlk, hval, m1⟩ := hN H1 rv (hr.mono hM.pre)
  refine l_callG c1 ?_
  have hat2 := st_at (L := []) (by simpa using m1) hlk hval
  have z1 : u.cells = [u] ∧ u.isTup = false := by obtain ⟨_, h, _⟩ := hat2.rows; exact h.cells
  have z2 := hat2.ms.cells
  have z4 := hat2.st.cells
  have hmp := m1.pre
  replace hM : Mem K H2 (stOwn u mv .nils sv rvs xs (newR c).1 ++ _) := hM.call m1
  clear c1 m1
  unfold stOwn at hM
  simp only [List.cons_append, List.nil_append] at hM
  cases hc : cfgMay c with
  | false =>
    have hn : newR c = (noSt, 2200) := by unfold newR; rw [hc, if_neg (by decide)]
    rw [hn] at hM hat2 hlk hval nf
    simp only at hM hat2 hlk hval nf
    rw [hn]
    clear hn
    refine goM ?_
    refine l_newM (cs := zeroSt) T59 rfl fun b3 H3 hM => ?_
    refine l_putM T59 fun H4 hM => ?_
    refine goM ?_
    refine l_callG (num_ _ _) ?_
    have hat4 : StAt H4 u mv .nils sv xs noSt := ⟨rows_pack (hM.fact (F := pack (rowsR u rvs noSt.c.rows)) (by (repeat (first | exact Has.here | apply Has.there)))) hlk, hM.sl (v := mv) (xs := xs) (by (repeat (first | exact Has.here | apply Has.there))), hval, mems_at (hM.fact (F := pack (mems xs)) (by (repeat (first | exact Has.here | apply Has.there)))), .inl ⟨rfl, rfl⟩, hM.sl (v := sv) (xs := noSt.st) (by (repeat (first | exact Has.here | apply Has.there)))⟩
    have c1 := sameState_ H4 noSt u mv .nils sv .nils .nils .nils .nils xs [] hat4 (none_at H4) none_fit
    have c2 := hC H4 (hr.mono hM.pre)
    rw [hc] at c2
    clear hat4 hat2
    refine goM ?_
    refine l_callG c1 ?_
    refine goM ?_
    refine l_callG c2 ?_
    refine goM ?_
    exact end_1 (by first | exact .inl rfl | exact .inr rfl) ⟨rfl, hM.pre⟩
  | true =>
    have hn : newR c = (newS c, 0) := by unfold newR; rw [hc, if_pos rfl]
    obtain ⟨hm2, _⟩ := cfgMay_split hc
    obtain ⟨hl1, hl2, hl3, hl4, _, hl6⟩ := (new_ok hc c.m.toNat (by omega)).1
    have hmay := newS_may hc
    obtain ⟨S, hS⟩ : ∃ S, newS c = S := ⟨_, rfl⟩
    have hSm : S.ms = (newF c c.m.toNat).1 := by rw [← hS]; rfl
    have hSs : S.st = (newF c c.m.toNat).2 := by rw [← hS]; rfl
    have hSc : S.c = c := by rw [← hS]; rfl
    have hSe : S.es = [] := by rw [← hS]; rfl
    rw [← hSm] at hl1 hl2 hl4
    rw [← hSs] at hl3 hl4 hl6
    rw [hS] at hmay
    rw [hn, hS] at hM hat2 hlk hval nf
    simp only at hM hat2 hlk hval nf
    rw [hn, hS]
    clear hn hS hSm hSs
    obtain ⟨n, hcn⟩ : ∃ n : Nat, c.m = n := ⟨c.m.toNat, by omega⟩
    have hnat : c.m.toNat = n := by omega
    rw [hnat] at hl1 hl6
    have hxl : xs.length = n := by rw [← List.length_map (f := MR.val), hval, hl1]
    replace hcn : Held (c.m = n) := hcn
    refine goM ?_
    refine l_newM (cs := zeroSt) T59 rfl fun b3 H3 hM => ?_
    refine l_putM T59 fun H4 hM => ?_
    refine goM ?_
    refine l_callG (num_ _ _) ?_
    have hat4 : StAt H4 u mv .nils sv xs S := ⟨rows_pack (hM.fact (F := pack (rowsR u rvs S.c.rows)) (by (repeat (first | exact Has.here | apply Has.there)))) hlk, hM.sl (v := mv) (xs := xs) (by (repeat (first | exact Has.here | apply Has.there))), hval, mems_at (hM.fact (F := pack (mems xs)) (by (repeat (first | exact Has.here | apply Has.there)))), by rw [hSe]; exact .inl ⟨rfl, rfl⟩, hM.sl (v := sv) (xs := S.st) (by (repeat (first | exact Has.here | apply Has.there)))⟩
    have c1 := sameConfig_ H4 c u rv (by have := hat4.rows; rw [hSc] at this; exact this) (hr.mono hM.pre) (by omega) (fun r hr => by have := l2 r hr; omega)
    have c2 := controlMay_ H4 S u mv .nils sv xs hat4 nf
    rw [hmay] at c2
    have hlm := hat4.ms.len T56 rfl
    rw [hxl] at hlm
    have hle : builtinP T .len [27] [.nils] = some (.int .i64 0) := rfl
    have hls := hat4.st.len T57 rfl
    have d1 : ((n : Int) != c.m) = false := by have : c.m = (n : Int) := hcn; rw [this]; simp
    have d2 : decide ((S.st.length : Int) > c.m) = false := decide_eq_false (by have : c.m = (n : Int) := hcn; omega)
    have c1' : Call Tryz.prog 17 [.agg (cfgC S.c u), .agg (cfgC c rv)] H4 (.bool true) H4 := by rw [hSc]; exact c1
    have hat : StAt H4 u mv .nils sv xs S := hat4
    clear hat2 hat4 c1 hmay
    have hM0 := hM
    clear hM0
    refine goM ?_
    refine l_callG c1' ?_
    refine goM ?_
    refine l_callG c2 ?_
    clear c1' c2 hls hle hlm d1 d2
    refine goM ?_
    refine wq_loop (fun cc ρ h => ∃ (k : Nat), k ≤ n ∧ cc = n - k ∧ Mem H4 h [] ∧ ρ 1 = .ptr b1 0 ∧ ρ 3 = .ptr b3 0 ∧ ρ 5 = .int .i64 (k : Int)) ⟨0, Nat.zero_le _, rfl, Mem.start H4, by simp [put_app, put_none, rho0_app, *]⟩ ?_
    have lc1 : ∀ h, H4 <+: h → loadV T 26 h b1 0 = some (.agg (cfgC c rv)) := fun h hp => loadV_pre hp (hM.ldA (b := b1) (cs := cfgC c rv) (by (repeat (first | exact Has.here | apply Has.there))) T26 rfl (by show 0 + 9 ≤ 9; decide) rfl)
    have lc2 : ∀ h, H4 <+: h → loadV T 3 h b1 0 = some (.int .i64 c.m) := fun h hp => loadV_pre hp (hM.ld (b := b1) (cs := cfgC c rv) (by (repeat (first | exact Has.here | apply Has.there))) T3 rfl rfl)
    have lm : ∀ h, H4 <+: h → loadV T 56 h b3 9 = some mv := fun h hp => loadV_pre hp (hM.ld (b := b3) (cs := stC c u mv .nils sv) (by (repeat (first | exact Has.here | apply Has.there))) T56 rfl rfl)
    have ls : ∀ h, H4 <+: h → loadV T 57 h b3 11 = some sv := fun h hp => loadV_pre hp (hM.ld (b := b3) (cs := stC c u mv .nils sv) (by (repeat (first | exact Has.here | apply Has.there))) T57 rfl rfl)
    have hK4 := hM.pre
    have hkx := nf.kx hat
    have hvx := hat.val
    repeat clear hM
    rintro _ ρ h ⟨k, hk, rfl, hM, g1, g3, g5⟩
    have q2 := lc2 h hM.pre
    by_cases hk' : k < n
    · have dk : decide ((k : Int) < c.m) = true := decide_eq_true (by have : c.m = (n : Int) := hcn; omega)
      have q1 := lc1 h hM.pre
      obtain ⟨x, hx⟩ : ∃ x, xs[k]? = some x := ⟨xs[k]'(by omega), by simp⟩
      have hxm := List.mem_of_getElem? hx
      have hmx : S.ms[k]? = some x.val := by rw [← hvx, List.getElem?_map, hx]; rfl
      have hxk : x.k = firstK c (k : Int) := hl2 k _ hmx
      have hxg : getS S.st x.h = (textK x.k, true) := hl4 _ (List.mem_of_getElem? hmx)
      have hok : firstOk c k = true := firstR_of hc (by have : c.m = (n : Int) := hcn; omega)
      have hfk : firstKR c k = x.k := by unfold firstKR; rw [if_pos hok, hxk]
      have hfs : strOf (firstSR c k) = textK x.k := by unfold firstSR; rw [if_pos hok, hxk]; rfl
      have hfe : firstER c k = 0 := by unfold firstER; rw [if_pos hok]
      obtain ⟨_, H5, c1, a, b', rfl, m1⟩ := ref_First h c rv k (hr.mono (hK4.trans hM.pre)) cf
      rw [hfk] at m1
      rw [hfk, hfs, hfe] at c1
      have t1 := (m1.sl .here).cells
      have t2 := (m1.sl (.there .here)).cells
      have hkf := hkx x hxm
      have hka := hat.ks x hxm
      have hw := wrap_succ (n := k) (by omega)
      have htd := tx_def (textK x.k) (textK x.k)
      rw [txEq_self] at htd
      clear hfk hfs hfe hok hxk hmx
      refine goM ?_
      refine l_callG c1 ?_
      replace hM := hM.call2 m1
      clear c1 m1 q1 q2
      refine goM ?_
      refine l_newM (cs := zeroMem) T48 rfl fun b6 H6 hM => ?_
      refine l_putM T48 fun H7 hM => ?_
      have q3 := lm H7 hM.pre
      have q4 := ls H7 hM.pre
      obtain ⟨bo, o, hi, _, loK, loH⟩ := mr_at (hat.ms.mono hM.pre) hx
      have c2 := refGet15_ H7 sv S.st x.h (hat.st.mono hM.pre) (by have := nf.st; omega)
      rw [hxg] at c2
      have c3 := sameK_ H7 a b' x.w x.v x.k x.k ⟨hM.sl (v := a) (xs := x.k.ws) (by (repeat (first | exact Has.here | apply Has.there))), hM.sl (v := b') (xs := x.k.vs) (by (repeat (first | exact Has.here | apply Has.there)))⟩ (hka.mono hM.pre) hkf
      rw [kEq_self] at c3
      generalize textK x.k = tx at *
      clear hx hxm hxg
      refine goM ?_
      refine d_call0G c2 ?_
      refine goM ?_
      refine d_call0G c3 ?_
      refine goM ?_
      exact ⟨n - (k + 1), by omega, k + 1, hk', rfl, hM.subG, by simp [put_app, put_none, *]⟩
    · have dk : decide ((k : Int) < c.m) = false := decide_eq_false (by have : c.m = (n : Int) := hcn; omega)
      refine goM ?_
      exact end_1 (by first | exact .inl rfl | exact .inr rfl) ⟨rfl, hK4.trans hM.pre⟩
end Go.Proofs.YtengdmagaeckoaaGreat.VM
