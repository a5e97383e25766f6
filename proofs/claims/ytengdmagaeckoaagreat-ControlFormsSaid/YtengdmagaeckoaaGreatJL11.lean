/- Joined texts: CtlH, CtlI, EvG, CtlJ, CtlK, CtlL, CtlM, CtlN. -/
import Derived.Test.YtengdmagaeckoaaGreatJL10
/- Layer 22: states that are written over. -/
namespace Go.Proofs.YtengdmagaeckoaaGreat.VM
open Go
set_option linter.unusedVariables false
set_option linter.unusedSimpArgs false
attribute [local irreducible] wq wqL wqD wqE wqO Th Bk EndR
set_option maxHeartbeats 8000000

end Go.Proofs.YtengdmagaeckoaaGreat.VM

/- Chapter 22: the small config; its new state. -/
namespace Go.Proofs.YtengdmagaeckoaaGreat.VM
open Go
set_option linter.unusedVariables false
set_option linter.unusedSimpArgs false
attribute [local irreducible] wq wqL wqD wqE wqO Th Bk EndR
set_option maxHeartbeats 8000000

theorem small22_ (H : Heap) : ∃ w H', Call Tryz.prog 35 [] H w H' ∧ ∃ rv xv, w = .agg (cfgC smallC rv) ∧ Mem H H' [.ro (rowsFact rv xv smallC.rows)] := by
  refine call_mem fit mixed Tryz.func35 rfl rfl rfl (by kernel_rfl) fun hM => ?_
  refine wq_seq (wq_line ?_)
  refine l_newM (cs := zeroCfg) T26 rfl fun b0 H1 hM => ?_
  refine goM ?_
  refine l_sliceM intC [65536] [.int .i64 65536] T30 rfl T3 rfl (cells_ints [65536]) (by decide) (fun x1 H2 hM => ?_)
  have t1 := (hM.sl .here).cells
  refine goM ?_
  refine l_sliceM intC [-65536] [.int .i64 (-65536)] T30 rfl T3 rfl (cells_ints [-65536]) (by decide) (fun x2 H3 hM => ?_)
  have t2 := (hM.sl .here).cells
  refine goM ?_
  refine l_sliceM rowC [(x1, 32768), (x2, 0)] [x1, .int .i64 32768, x2, .int .i64 0] T24 rfl T113 rfl (cells_rows [(x1, 32768), (x2, 0)]) (by decide) (fun rv H4 hM => ?_)
  have t3 := (hM.sl .here).cells
  refine goM ?_
  refine l_putM T26 fun H5 hM => ?_
  refine goM ?_
  refine end_1 (by first | exact .inl rfl | exact .inr rfl) ⟨rv, [(x1, 32768), (x2, 0)], rfl, Mem.mkro hM.pre ⟨hM.slG, rfl, fun k p r hp hr => ?_⟩ fun c hc => ?_⟩
  · match k, hp, hr with
    | 0, hp, hr => cases hp; cases hr; exact ⟨hM.slG, rfl⟩
    | 1, hp, hr => cases hp; cases hr; exact ⟨hM.slG, rfl⟩
  · rcases hc with hc | ⟨q, hq, hc⟩
    · exact hM.low (.own 2 rowC rv [(x1, 32768), (x2, 0)]) (by simp) c hc
    · simp at hq
      rcases hq with rfl | rfl
      · exact hM.low (.own 1 intC x1 [65536]) (by simp) c hc
      · exact hM.low (.own 1 intC x2 [-65536]) (by simp) c hc

theorem texts_differ : txEq (textK (firstK smallC 0)) (textK (firstK smallC 1)) = false := by decide +kernel
theorem put_fresh {es : List Ent} (h : Store es) {t : ByteArray} (ht : textOk t = true) (hno : ∀ e ∈ es, txEq e.tx t = false) (hl : es.length < 64) : putS es t = (insE es t 1, (freeN es : Int), 0) := by
  have hN : holdsN es t = es.length := holdsN_none fun j x hx => hno x (List.mem_of_getElem? hx)
  unfold putS
  rw [of_store h, ht, if_neg (by decide), hN, List.getElem?_eq_none (Nat.le_refl _)]
  simp only
  rw [if_neg (by omega)]; rfl
theorem new_small : newR smallC = (⟨smallC, [(firstK smallC 0, 0), (firstK smallC 1, 1)], [], [⟨0, textK (firstK smallC 0), 1⟩, ⟨1, textK (firstK smallC 1), 1⟩]⟩, 0) := by
  have hd := texts_differ
  have t0 := textK_ok (firstK_fits small_may 0)
  have t1 := textK_ok (firstK_fits small_may 1)
  have hst := (new_ok small_may 1 (by decide)).1.store
  have e1 : newF smallC 1 = ([(firstK smallC 0, 0)], [⟨0, textK (firstK smallC 0), 1⟩]) := by
    have := put_fresh store_empty t0 (fun e he => by cases he) (by decide)
    show ([] ++ [(firstK smallC ((0 : Nat) : Int), (putS [] (textK (firstK smallC ((0 : Nat) : Int)))).2.1)], (putS [] (textK (firstK smallC ((0 : Nat) : Int)))).1) = _
    rw [show ((0 : Nat) : Int) = 0 from rfl, this]; rfl
  rw [e1] at hst
  have e2 : newF smallC 2 = ([(firstK smallC 0, 0), (firstK smallC 1, 1)], [⟨0, textK (firstK smallC 0), 1⟩, ⟨1, textK (firstK smallC 1), 1⟩]) := by
    have := put_fresh hst t1 (fun e he => by rw [List.mem_singleton] at he; subst he; exact hd) (by simp)
    show ((newF smallC 1).1 ++ [(firstK smallC ((1 : Nat) : Int), (putS (newF smallC 1).2 (textK (firstK smallC ((1 : Nat) : Int)))).2.1)], (putS (newF smallC 1).2 (textK (firstK smallC ((1 : Nat) : Int)))).1) = _
    rw [e1, show ((1 : Nat) : Int) = 1 from rfl, this]; rfl
  unfold newR
  rw [if_pos small_may]
  unfold newS
  rw [show smallC.m.toNat = 2 from rfl, e2]
theorem new_none : newR noCfg = (noSt, 2200) := by
  unfold newR
  rw [if_neg (by decide)]
theorem none_bad : stateMay noSt = false := by
  unfold stateMay
  rw [show cfgMay noSt.c = false from by decide]; rfl
theorem none_scores : scoresR noSt = ([], 2200) := by
  unfold scoresR
  rw [none_bad, if_neg (by decide)]
theorem newR_fit {c : Cfg} (hf : c.Fit) : (newR c).1.Fit := by
  unfold newR
  cases hc : cfgMay c with
  | false =>
    rw [if_neg (by decide)]
    exact ⟨⟨by decide, fun r hr => (by cases hr)⟩, by decide, fun m hm => (by cases hm), by decide, by decide⟩
  | true =>
    obtain ⟨hm2, _⟩ := cfgMay_split hc
    obtain ⟨h1, h2, h3, h4, h5, h6⟩ := (new_ok hc c.m.toNat (by omega)).1
    rw [if_pos rfl]
    refine ⟨hf, ?_, fun m hm => ?_, by show (0 : Nat) * 48 ≤ _; decide, ?_⟩
    · show (newF c c.m.toNat).1.length * 80 ≤ _
      omega
    · obtain ⟨j, hj⟩ := List.mem_iff_getElem?.1 (show m ∈ (newF c c.m.toNat).1 from hm)
      rw [h2 j m hj]
      exact kFits_fit (firstK_fits hc _)
    · show (newF c c.m.toNat).2.length * 32 ≤ _
      omega

theorem list_two {α β : Type} {f : α → β} {xs : List α} {a b : β} (h : xs.map f = [a, b]) : ∃ x y, xs = [x, y] ∧ f x = a ∧ f y = b := by
  match xs, h with
  | [x, y], h => simp at h; exact ⟨x, y, rfl, h.1, h.2⟩
theorem score_first {c : Cfg} (hc : cfgMay c = true) (id : Int) : (scoreR c (firstK c id)).2 = 0 := by
  unfold scoreR
  rw [hc, firstK_fits hc id]; rfl
theorem awake22_ (K : Heap) : Call Tryz.prog 34 [] K (.bool true) K := by
  have hsm := small22_
  have hN : ∀ (H : Heap) (rv : V), Rows H rv smallC.rows → ∃ w H', Call Tryz.prog 24 [.agg (cfgC smallC rv)] H w H' ∧ ∃ u mv sv rvs xs, w = .tup [.agg (stC (newR smallC).1.c u mv .nils sv), .int .i64 (newR smallC).2] ∧ Like rvs (newR smallC).1.c.rows ∧ xs.map MR.val = (newR smallC).1.ms ∧ Mem H H' (stOwn u mv .nils sv rvs xs (newR smallC).1) := fun H rv hr => controlNew_ H smallC rv hr small_fit
  have hN0 := fun H => controlNew_ H noCfg .nils ⟨[], .inl ⟨rfl, rfl⟩, rfl, fun k p r hp => (by cases hp)⟩ ⟨by decide, fun r hr => (by cases hr)⟩
  have hS0 := fun H => controlScores_ H noSt .nils .nils .nils .nils [] ⟨⟨[], .inl ⟨rfl, rfl⟩, rfl, fun k p r hp => (by cases hp)⟩, .inl ⟨rfl, rfl⟩, rfl, fun x hx => (by cases hx), .inl ⟨rfl, rfl⟩, .inl ⟨rfl, rfl⟩⟩ ⟨⟨by decide, fun r hr => (by cases hr)⟩, by decide, fun m hm => (by cases hm), by decide, by decide⟩
  rw [new_none] at hN0
  rw [none_scores] at hS0
  obtain ⟨S, hS, hSm, hSe, hSs, hmay, hsf, hscore, hx2⟩ : ∃ S : St, newR smallC = (S, 0) ∧ S.ms = [(firstK smallC 0, 0), (firstK smallC 1, 1)] ∧ S.es = [] ∧ S.st.length = 2 ∧ stateMay S = true ∧ S.Fit ∧ scoresR S = ([(scoreR smallC (firstK smallC 0)).1, (scoreR smallC (firstK smallC 1)).1], 0) ∧ (scoreR smallC (firstK smallC 1)).2 = 0 := by
    have hmay : stateMay (newS smallC) = true := newS_may small_may
    have hSt : (newR smallC).1 = newS smallC := by unfold newR; rw [if_pos small_may]
    have hsf := newR_fit small_fit
    rw [← hSt] at hmay
    rw [new_small] at hmay hsf
    refine ⟨_, new_small, rfl, rfl, rfl, hmay, hsf, ?_, score_first small_may 1⟩
    unfold scoresR
    rw [if_pos hmay]; rfl
  rw [hS] at hN
  simp only at hN
  have hScore := fun H rv w v k h hr hk kf => refScoreOf_ H smallC rv w v k h hr hk small_fit kf
  have kf1 := kFits_fit (firstK_fits small_may 1)
  clear hS
  generalize firstK smallC 0 = K0 at *
  generalize firstK smallC 1 = K1 at *
  obtain ⟨z1, hz1⟩ : ∃ z, scoreR smallC K1 = z := ⟨_, rfl⟩
  obtain ⟨z0, hz0⟩ : ∃ z, scoreR smallC K0 = z := ⟨_, rfl⟩
  rw [hz1] at hx2 hscore
  rw [hz0] at hscore
  obtain ⟨z1, e1⟩ := z1
  simp only at hx2 hscore
  subst hx2
  clear hz0
  generalize smallC = c at *
  have hCM := fun H rv mv ev sv xs ha => controlMay_ H S rv mv ev sv xs ha hsf
  have hCS := fun H rv mv ev sv xs ha => controlScores_ H S rv mv ev sv xs ha hsf
  rw [hmay] at hCM
  rw [hscore] at hCS
  clear hmay hscore
  refine call_pure fit mixed Tryz.func34 rfl rfl rfl (by kernel_rfl) rfl fun hM => ?_
  obtain ⟨_, H1, c1, rv, xv, rfl, m0⟩ := hsm K
  have r1 := rows_of (m0.fact .here)
  obtain ⟨_, H2, c2, u, mv, sv, rvs, xs, rfl, hlk, hval, m1⟩ := hN H1 rv r1
  refine wq_seq (wq_line ?_)
  refine goM ?_
  refine l_callG c1 ?_
  replace hM := hM.grow m0.pre
  refine goM ?_
  refine l_callG c2 ?_
  have hat2 := st_at (L := []) (by simpa using m1) hlk hval
  have z1' : u.cells = [u] ∧ u.isTup = false := by obtain ⟨_, h, _⟩ := hat2.rows; exact h.cells
  have z2' := hat2.ms.cells
  have z4' := hat2.st.cells
  clear hat2
  replace hM : Mem K H2 (stOwn u mv .nils sv rvs xs S ++ []) := hM.call m1
  clear c1 c2 m0 m1 r1
  unfold stOwn at hM
  simp only [List.append_nil] at hM
  rw [hSm] at hval
  obtain ⟨⟨w0, v0, k0, h0⟩, ⟨w1, v1, k1, h1⟩, rfl, hv0, hv1⟩ := list_two hval
  cases hv0
  cases hv1
  refine goM ?_
  refine l_newM (cs := zeroSt) T59 rfl fun b1 H3 hM => ?_
  refine l_putM T59 fun H4 hM => ?_
  have hval2 : [(⟨w0, v0, k0, 0⟩ : MR), ⟨w1, v1, k1, 1⟩].map MR.val = S.ms := by rw [hSm]; rfl
  have hat4 : StAt H4 u mv .nils sv [⟨w0, v0, k0, 0⟩, ⟨w1, v1, k1, 1⟩] S := st_at (L := [.box b1 (stC S.c u mv .nils sv)]) (hM.perm (List.perm_append_comm (l₁ := [Res.box b1 (stC S.c u mv .nils sv)]))) hlk hval2
  obtain ⟨_, H5, c1, sc, rfl, m1⟩ := hCS H4 u mv .nils sv _ hat4
  refine goM ?_
  refine l_callG c1 ?_
  have t1 := (m1.sl .here).cells
  replace hM := hM.call1 m1
  have hsm1 := m1.pre
  clear c1 m1
  refine goM ?_
  obtain ⟨_, H6, c1, u2, mv2, sv2, rvs2, xs2, rfl, _, _, m1⟩ := hN0 H5
  refine l_callG c1 ?_
  have hp6 := m1.pre
  have q1 : u2.cells = [u2] ∧ u2.isTup = false := by
    have := rows_pack (m1.fact .here) (by assumption)
    obtain ⟨_, h, _⟩ := this
    exact h.cells
  have q2 := (m1.sl (v := mv2) (xs := xs2) (.there (.there .here))).cells
  have q4 := (m1.sl (v := sv2) (xs := ([] : List Ent)) (.there (.there (.there (.there .here))))).cells
  replace hM := hM.grow m1.pre
  clear c1 m1
  refine goM ?_
  refine l_newM (cs := zeroSt) T59 rfl fun b5 H7 hM => ?_
  refine l_putM T59 fun H8 hM => ?_
  refine goM ?_
  obtain ⟨_, H9, c1, sc2, rfl, m1⟩ := hS0 H8
  refine l_callG c1 ?_
  have t2 := (m1.sl .here).cells
  replace hM := hM.call1 m1
  clear c1 m1
  have hsx : Sl 6 mrC H9 mv [⟨w0, v0, k0, 0⟩, ⟨w1, v1, k1, 1⟩] := hM.sl (v := mv) (xs := [(⟨w0, v0, k0, 0⟩ : MR), ⟨w1, v1, k1, 1⟩]) (by (repeat (first | exact Has.here | apply Has.there)))
  have hlm := hsx.len T56 rfl
  have hlc := (hM.sl (v := sc) (xs := [z0.1, z1]) (by (repeat (first | exact Has.here | apply Has.there)))).len T30 rfl
  obtain ⟨x1, o1, i1, lo1, _, lh1⟩ := mr_at hsx (j := 1) (x := ⟨w1, v1, k1, 1⟩) rfl
  replace i1 : idxV T 56 mv 1 = some (.ptr x1 o1) := i1
  replace hlm : builtinP T .len [56] [mv] = some (.int .i64 2) := hlm
  replace hlc : builtinP T .len [30] [sc] = some (.int .i64 2) := hlc
  refine goM ?_
  obtain ⟨_, H10, c1, rv3, xv3, rfl, m0⟩ := hsm H9
  have r3 := rows_of (m0.fact .here)
  have lo1' := loadV_pre m0.pre lo1
  refine d_callG c1 (.inl m0.pre) ?_
  replace hM := hM.grow m0.pre
  clear c1 m0 lo1 hsx lh1
  have hsx : Sl 6 mrC H10 mv [⟨w0, v0, k0, 0⟩, ⟨w1, v1, k1, 1⟩] := hM.sl (v := mv) (xs := [(⟨w0, v0, k0, 0⟩ : MR), ⟨w1, v1, k1, 1⟩]) (by (repeat (first | exact Has.here | apply Has.there)))
  obtain ⟨x0, o0, i0, _, _, lh0⟩ := mr_at hsx (j := 0) (x := ⟨w0, v0, k0, 0⟩) rfl
  replace i0 : idxV T 56 mv 0 = some (.ptr x0 o0) := i0
  obtain ⟨y1, p1, i1', _, _, lh1⟩ := mr_at hsx (j := 1) (x := ⟨w1, v1, k1, 1⟩) rfl
  replace i1' : idxV T 56 mv 1 = some (.ptr y1 p1) := i1'
  rw [i1] at i1'
  cases i1'
  obtain ⟨xs0, os0, _, is1, rfl, _, ls1, _⟩ := (hM.sl (v := sc) (xs := [z0.1, z1]) (by (repeat (first | exact Has.here | apply Has.there)))).get T30 rfl T3 rfl (k := 1) (x := z1) rfl
  replace is1 : idxV T 30 sc 1 = some (.ptr xs0 os0) := is1
  have hs1 := loadV_one T3 rfl ls1
  have hkk := mems_at (hM.fact (F := pack (mems [⟨w0, v0, k0, 0⟩, ⟨w1, v1, k1, 1⟩])) (by (repeat (first | exact Has.here | apply Has.there)))) ⟨w1, v1, k1, 1⟩ (by simp)
  have c2 := hScore H10 rv3 w1 v1 k1 1 r3 hkk kf1
  rw [hz1] at c2
  have hle : builtinP T .len [27] [.nils] = some (.int .i64 0) := rfl
  have hls := (hM.sl (v := sv) (xs := S.st) (by (repeat (first | exact Has.here | apply Has.there)))).len T57 rfl
  rw [hSs] at hls
  replace hls : builtinP T .len [57] [sv] = some (.int .i64 2) := hls
  have hat10 : StAt H10 u mv .nils sv [⟨w0, v0, k0, 0⟩, ⟨w1, v1, k1, 1⟩] S := ⟨rows_pack (hM.fact (F := pack (rowsR u rvs S.c.rows)) (by (repeat (first | exact Has.here | apply Has.there)))) hlk, hsx, hval2, mems_at (hM.fact (F := pack (mems [⟨w0, v0, k0, 0⟩, ⟨w1, v1, k1, 1⟩])) (by (repeat (first | exact Has.here | apply Has.there)))), by rw [hSe]; exact .inl ⟨rfl, rfl⟩, hM.sl (v := sv) (xs := S.st) (by (repeat (first | exact Has.here | apply Has.there)))⟩
  have c3 := hCM H10 u mv .nils sv _ hat10
  clear hkk ls1 hSs hSe
  refine goM ?_
  refine d_call0G c2 ?_
  refine goM ?_
  refine l_callG (num_ _ _) ?_
  refine goM ?_
  refine l_callG (num_ _ _) ?_
  refine goM ?_
  refine l_callG (num_ _ _) ?_
  refine goM ?_
  refine l_callG (num_ _ _) ?_
  refine goM ?_
  refine l_callG c3 ?_
  refine goM ?_
  exact end_1 (by first | exact .inl rfl | exact .inr rfl) ⟨rfl, hM.pre⟩
end Go.Proofs.YtengdmagaeckoaaGreat.VM

/- Events that are lent, as a part of the memory; what is known of the events handed in. -/
namespace Go.Proofs.YtengdmagaeckoaaGreat.VM
open Go
set_option linter.unusedVariables false
set_option linter.unusedSimpArgs false
attribute [local irreducible] wq wqL wqD wqE wqO Th Bk EndR
set_option maxHeartbeats 8000000

theorem rd_event {K : Heap} {D : Type} {vs : List V} {d : DataW D} (h : Rd T K 78 vs d) : ∃ e : Ev, vs = evV e := by
  obtain ⟨hl, hf⟩ := h.field T78 rfl
  replace hl : vs.length = 6 := hl
  obtain ⟨x0, h0⟩ := hf 0 _ _ rfl T3
  obtain ⟨x1, h1⟩ := hf 1 _ _ rfl T3
  obtain ⟨x2, h2⟩ := hf 2 _ _ rfl T3
  obtain ⟨x3, h3⟩ := hf 3 _ _ rfl T3
  obtain ⟨x4, h4⟩ := hf 4 _ _ rfl T32
  obtain ⟨n0, e0, _⟩ := h0.isInt T3 rfl
  obtain ⟨n1, e1, _⟩ := h1.isInt T3 rfl
  obtain ⟨n2, e2, _⟩ := h2.isInt T3 rfl
  obtain ⟨n3, e3, _⟩ := h3.isInt T3 rfl
  obtain ⟨n4, n5, e4⟩ := rd_hyper h4
  match vs, hl, e0, e1, e2, e3, e4 with
  | [a, b, c, e, f, g], _, e0, e1, e2, e3, e4 =>
    simp at e0 e1 e2 e3 e4
    obtain ⟨rfl, rfl⟩ := e4
    subst e0; subst e1; subst e2; subst e3
    exact ⟨⟨n0, n1, n2, n3, n4, n5⟩, rfl⟩
theorem rd_events {K : Heap} {D : Type} {v : V} {d : DataW D} (h : RdV T K 27 v d) : ∃ es : List Ev, Sl 6 evC K v es ∧ es.length * 48 ≤ 140737488351232 :=
  (h.plain T27 rfl).isSlice T27 rfl T78 fun cs x hx => rd_event hx
end Go.Proofs.YtengdmagaeckoaaGreat.VM

/- Chapter 22: states that are handed in; the statement Controls. -/
namespace Go.Proofs.YtengdmagaeckoaaGreat.VM
open Go
set_option linter.unusedVariables false
set_option linter.unusedSimpArgs false
attribute [local irreducible] wq wqL wqD wqE wqO Th Bk EndR
set_option maxHeartbeats 8000000

def rdMemC (K : Heap) (cs : List V) (x : MR) : Prop := cs = mC x.w x.v x.k x.h ∧ KAt K x.w x.v x.k ∧ x.k.Fit
theorem rd_mrcells {K : Heap} {D : Type} {vs : List V} {d : DataW D} (hr : Rd T K 48 vs d) : ∃ x : MR, rdMemC K vs x := by
  obtain ⟨hl, hf⟩ := hr.field T48 rfl
  replace hl : vs.length = 6 := hl
  obtain ⟨x0, h0⟩ := hf 0 _ _ rfl T34
  obtain ⟨x1, h1⟩ := hf 1 _ _ rfl T3
  obtain ⟨n1, e1, _⟩ := h1.isInt T3 rfl
  obtain ⟨w, u, k, e0, hk, hf'⟩ := rd_checkcells h0
  match vs, hl, e0, e1 with
  | [a, b, c, e, f, g], _, e0, e1 =>
    simp at e0 e1
    obtain ⟨rfl, rfl, rfl, rfl, rfl⟩ := e0
    subst e1
    exact ⟨⟨a, b, k, n1⟩, rfl, hk, hf'⟩
theorem rd_members {K : Heap} {D : Type} {v : V} {d : DataW D} (h : RdV T K 56 v d) : ∃ xs : List MR, Sl 6 mrC K v xs ∧ xs.length * 80 ≤ 140737488351232 ∧ ∀ x ∈ xs, KAt K x.w x.v x.k ∧ x.k.Fit := by
  obtain ⟨xs, h1, h2⟩ := (h.plain T56 rfl).isSlice (R := rdMemC K) T56 rfl T48 fun cs x hx => rd_mrcells hx
  have h3 := h1.all (Q := fun p => KAt K p.w p.v p.k ∧ p.k.Fit) fun cs x hx => hx.2
  have h4 := h1.map (R' := mrC) (fun p => p) fun cs x hx => (show mrC cs x from hx.1)
  rw [List.map_id'] at h4
  exact ⟨xs, h4, Nat.le_trans h2 (by decide), h3⟩
theorem rd_state {K : Heap} {D : Type} {v : V} {d : DataW D} (h : RdV T K 59 v d) : ∃ s rv mv ev sv xs, v = .agg (stC s.c rv mv ev sv) ∧ StAt K rv mv ev sv xs s ∧ s.Fit := by
  obtain ⟨vs, rfl, hr⟩ := h.agg T59 rfl
  obtain ⟨hl, hf⟩ := hr.field T59 rfl
  replace hl : vs.length = 12 := hl
  obtain ⟨x0, h0⟩ := hf 0 _ _ rfl T26
  obtain ⟨x1, h1⟩ := hf 1 _ _ rfl T56
  obtain ⟨x2, h2⟩ := hf 2 _ _ rfl T27
  obtain ⟨x3, h3⟩ := hf 3 _ _ rfl T57
  obtain ⟨c, rv, e0, hrows, cf⟩ := rd_config ⟨_, T26, .inl ⟨rfl, _, rfl, h0⟩⟩
  match vs, hl, e0, h1, h2, h3 with
  | [a0, a1, a2, a3, a4, a5, a6, a7, a8, a9, a10, a11], _, e0, h1, h2, h3 =>
    obtain ⟨xs, m1, m2, m3⟩ := rd_members ⟨_, T56, .inr ⟨rfl, h1⟩⟩
    obtain ⟨es, q1, q2⟩ := rd_events ⟨_, T27, .inr ⟨rfl, h2⟩⟩
    obtain ⟨st, r1, r2⟩ := rd_ents ⟨_, T57, .inr ⟨rfl, h3⟩⟩
    simp at e0
    obtain ⟨rfl, rfl, rfl, rfl, rfl, rfl, rfl, rfl, rfl⟩ := e0
    refine ⟨⟨c, xs.map MR.val, es, st⟩, a3, a9, a10, a11, xs, rfl, ⟨hrows, m1, rfl, fun x hx => (m3 x hx).1, q1, r1⟩, cf, by rw [List.length_map]; exact m2, fun m hm => ?_, q2, Nat.le_trans r2 (by decide)⟩
    obtain ⟨x, hx, rfl⟩ := List.mem_map.1 hm
    exact (m3 x hx).2

end Go.Proofs.YtengdmagaeckoaaGreat.VM

/- Chapter 22: the statements ControlNew, ControlFree. -/
namespace Go.Proofs.YtengdmagaeckoaaGreat.VM
open Go
set_option linter.unusedVariables false
set_option linter.unusedSimpArgs false
attribute [local irreducible] wq wqL wqD wqE wqO Th Bk EndR
set_option maxHeartbeats 8000000

end Go.Proofs.YtengdmagaeckoaaGreat.VM

/- Chapter 22: the statement ControlFree. -/
namespace Go.Proofs.YtengdmagaeckoaaGreat.VM
open Go
set_option linter.unusedVariables false
set_option linter.unusedSimpArgs false
attribute [local irreducible] wq wqL wqD wqE wqO Th Bk EndR
set_option maxHeartbeats 8000000

def freeT (i : Nat) : Ent := ⟨900 + (i : Int), strOf ([102, 114, 101, 101, 32] ++ [97 + (i : Int)]), 0⟩
def freesL (i : Nat) : List Ent := (List.range i).map freeT
theorem frees_succ (i : Nat) : freesL (i + 1) = freesL i ++ [freeT i] := by unfold freesL; rw [List.range_succ, List.map_append]; rfl
theorem frees_len (i : Nat) : (freesL i).length = i := by simp [freesL]

theorem law_controlFree {D : Type} (K : Heap) (vs : List V) (ds : List (DataW D)) (ro : Ro K) (h : RdAll T K [59, 3] vs ds) : ∃ K', Call Tryz.prog 9 vs K (.bool true) K' := by
  obtain ⟨v1, vs, d1, ds, rfl, rfl, hv1, h⟩ := rdAll_cons h
  obtain ⟨v2, vs, d2, ds, rfl, rfl, hv2, h⟩ := rdAll_cons h
  obtain ⟨rfl, rfl⟩ := rdAll_nil h
  obtain ⟨s, rv2, mv, ev, sv, xs, rfl, ha, sf⟩ := rd_state hv1
  obtain ⟨m, rfl, _⟩ := hv2.int T3 rfl
  clear hv1 hv2 h
  have z1 : rv2.cells = [rv2] ∧ rv2.isTup = false := by obtain ⟨_, h, _⟩ := ha.rows; exact h.cells
  have z2 := ha.ms.cells
  have z3 := ha.es.cells
  have z4 := ha.st.cells
  have hS := fun H rv mv ev sv xs ha => controlScores_ H s rv mv ev sv xs ha sf
  have hDoc := fun H rv mv ev sv xs ha => refStateMay_ H s rv mv ev sv xs ha sf
  refine ⟨K, ?_⟩
  refine call_pure fit mixed Tryz.func9 rfl rfl rfl (by kernel_rfl) rfl fun hM => ?_
  refine wq_seq (wq_line ?_)
  refine l_boxM T59 fun b2 H1 hM => ?_
  refine goM ?_
  refine l_callG (awake22_ _) ?_
  obtain ⟨_, H2, c1, sc, rfl, m1⟩ := hS H1 rv2 mv ev sv xs (ha.mono hM.pre)
  unfold scoresR at c1 m1
  cases hq : stateMay s with
  | false =>
    rw [hq, if_neg (by decide)] at c1 m1
    simp only at c1 m1
    have r8 := (m1.sl .here).cells
    have hp := m1.pre
    have c2 := hDoc H2 rv2 mv ev sv xs (ha.mono (hM.pre.trans hp))
    rw [hq] at c2
    refine goM ?_
    refine l_callG c1 ?_
    replace hM := hM.call1 m1
    clear c1 m1
    refine goM ?_
    refine l_callG (num_ _ _) ?_
    refine goM ?_
    refine l_callG (num_ _ _) ?_
    refine goM ?_
    refine l_callG c2 ?_
    refine goM ?_
    exact end_1 (by first | exact .inl rfl | exact .inr rfl) ⟨rfl, hM.pre⟩
  | true =>
    rw [hq, if_pos rfl] at c1 m1
    simp only at c1 m1
    have r8 := (m1.sl .here).cells
    have hp := m1.pre
    have c2 := hDoc H2 rv2 mv ev sv xs (ha.mono (hM.pre.trans hp))
    rw [hq] at c2
    have hst64 : s.st.length ≤ 64 := by
      have := stateMay_eq s
      rw [hq] at this
      have h2 := this.symm
      simp only [Bool.and_eq_true] at h2
      exact (store_of h2.1.2).len
    have hlenS := ha.st.len T57 rfl
    obtain ⟨L, hL⟩ : ∃ L, s.st.length = L := ⟨_, rfl⟩
    rw [hL] at hst64 hlenS
    obtain ⟨y, hy, hy0, hy1⟩ := and_mask m 31 (by decide) (by decide)
    replace hy : IntKind.i64.wrap ((BitVec.ofInt IntKind.i64.bits m &&& BitVec.ofInt IntKind.i64.bits 31).toNat : Int) = y := hy
    have w1 : IntKind.i64.wrap (64 - (L : Int)) = 64 - (L : Int) := wrap_i64 (by omega) (by omega)
    obtain ⟨kn, hkn, hmin⟩ : ∃ kn : Nat, kn ≤ 31 ∧ builtinP T .min [3, 3] [.int .i64 y, .int .i64 (64 - (L : Int))] = some (.int .i64 (kn : Int)) := by
      have hdef : builtinP T .min [3, 3] [.int .i64 y, .int .i64 (64 - (L : Int))] = some (.int .i64 (if 64 - (L : Int) < y then 64 - (L : Int) else y)) := rfl
      rw [hdef]
      by_cases h : 64 - (L : Int) < y
      · rw [if_pos h]
        exact ⟨(64 - (L : Int)).toNat, by omega, by rw [Int.toNat_of_nonneg (by omega)]⟩
      · rw [if_neg h]
        exact ⟨y.toNat, by omega, by rw [Int.toNat_of_nonneg hy0]⟩
    have hsm : s.ms.length ≤ 2 ^ 41 := by have := sf.ms; omega
    refine goM ?_
    refine l_callG c1 ?_
    replace hM := hM.call1 m1
    clear c1 m1
    refine goM ?_
    refine l_callG (num_ _ _) ?_
    refine goM ?_
    refine l_callG c2 ?_
    clear c2
    refine goM ?_
    obtain ⟨_, H4, c1, u, mv', ev', sv', rvs, xs', rfl, hlk, hval, m1⟩ := copyState_ H2 s rv2 mv ev sv xs (ha.mono hM.pre) sf
    refine l_callG c1 ?_
    have hat := st_at (L := []) (by simpa using m1) hlk hval
    have t1 : u.cells = [u] ∧ u.isTup = false := by obtain ⟨_, h, _⟩ := hat.rows; exact h.cells
    have t2 := hat.ms.cells
    have t3 := hat.es.cells
    have t4 := hat.st.cells
    replace hM : Mem K H4 (stOwn u mv' ev' sv' rvs xs' s ++ _) := hM.call m1
    clear c1 m1 hat
    unfold stOwn at hM
    simp only [List.cons_append, List.nil_append] at hM
    refine goM ?_
    refine l_newM (cs := zeroSt) T59 rfl fun b7 H5 hM => ?_
    refine l_putM T59 fun H6 hM => ?_
    refine goM ?_
    have hM0 : Mem K H6 [.own 3 entC sv' (s.st ++ freesL 0), .box b7 (stC s.c u mv' ev' sv'), .ro (pack (rowsR u rvs s.c.rows)), .ro (pack (mems xs')), .own 6 mrC mv' xs', .own 6 evC ev' s.es, .own 1 intC sc (scoreL s), .box b2 (stC s.c rv2 mv ev sv)] := by
      rw [show s.st ++ freesL 0 = s.st from List.append_nil _]
      exact (((hM.front (r := .box b7 (stC s.c u mv' ev' sv')) (by (repeat (first | exact Take.here | apply Take.there)))).front (r := .own 3 entC sv' s.st) (by (repeat (first | exact Take.here | apply Take.there))))).sub (by (repeat (first | exact List.Sublist.slnil | exact List.Sublist.refl _ | refine List.Sublist.cons_cons _ ?_ | refine List.Sublist.cons _ ?_)))
    refine wq_loop (fun cc ρ h => ∃ (i : Nat) (w : V), i ≤ kn ∧ cc = kn - i ∧ Mem K h [.own 3 entC w (s.st ++ freesL i), .box b7 (stC s.c u mv' ev' w), .ro (pack (rowsR u rvs s.c.rows)), .ro (pack (mems xs')), .own 6 mrC mv' xs', .own 6 evC ev' s.es, .own 1 intC sc (scoreL s), .box b2 (stC s.c rv2 mv ev sv)] ∧ ρ 5 = sc ∧ ρ 7 = .ptr b7 0 ∧ ρ 8 = .int .i64 (kn : Int) ∧ ρ 9 = .int .i64 (i : Int)) ⟨0, sv', Nat.zero_le _, rfl, hM0, by simp [put_app, put_none, rho0_app, *]⟩ ?_
    repeat clear hM
    clear hM0 hmin hy hlenS
    rintro _ ρ h ⟨i, w, hi, rfl, hM, g5, g7, g8, g9⟩
    have t5 := (hM.sl .here).cells
    refine goM ?_
    refine cond_go (fun hb => ?_) (fun hb => ?_)
    · have hi' : i < kn := by simpa using hb
      clear hb
      have hw := wrap_succ (n := i) (by omega)
      have w9 : IntKind.i64.wrap (900 + (i : Int)) = 900 + (i : Int) := wrap_i64 (by omega) (by omega)
      have w97 : IntKind.i64.wrap (97 + (i : Int)) = 97 + (i : Int) := wrap_i64 (by omega) (by omega)
      have wb : IntKind.u8.wrap (97 + (i : Int)) = 97 + (i : Int) := by
        unfold IntKind.wrap
        simp only [IntKind.bits, IntKind.signed, Bool.false_and, Bool.false_eq_true, if_false]
        omega
      have hadd : vbin T .add 9 (.str ⟨#[102, 114, 101, 101, 32]⟩) (.str (strOf [97 + (i : Int)])) = some (.str (freeT i).tx) := str_add (a := [102, 114, 101, 101, 32]) (b := [97 + (i : Int)]) (by simp)
      refine goM ?_
      refine l_sliceM byteC [97 + (i : Int)] [.int .u8 (97 + (i : Int))] T83 rfl T5 rfl (Cells.one (sz := 1) rfl rfl) (by decide) fun e1 H7 hM => ?_
      refine l_step (s_toStr eLk (hM.sl .here)) ?_
      refine l_pl ?_
      refine l_step (s_bin eLk eLk hadd) ?_
      clear hadd
      refine goM ?_
      refine l_sliceM entC [freeT i] [.int .i64 (900 + (i : Int)), .str (freeT i).tx, .int .i64 0] T57 rfl T76 rfl (cells_ents [freeT i]) (by decide) fun e2 H8 hM => ?_
      refine goM ?_
      refine l_appM (hM.sl .here) (xs := s.st ++ freesL i) (hh := by (repeat (first | exact Has.here | apply Has.there))) (hb := by rw [List.length_append, frees_len, hL]; show (L + i + 1) * 32 ≤ _ ∧ L + i + 1 ≤ _; omega) fun w' H9 hM => ?_
      have t6 := (hM.sl (v := w') (xs := s.st ++ freesL i ++ [freeT i]) (by (repeat (first | exact Has.here | apply Has.there)))).cells
      refine goM ?_
      refine l_putM T57 fun H10 hM => ?_
      refine goM ?_
      refine ⟨kn - (i + 1), by omega, i + 1, w', hi', rfl, ?_, by simp [put_app, put_none, *]⟩
      rw [frees_succ, ← List.append_assoc]
      exact hM.subG
    · have hi' : i = kn := by have : ¬ i < kn := by simpa using hb
                              omega
      subst hi'
      clear hb
      obtain ⟨S, hSd⟩ : ∃ S : St, (⟨s.c, s.ms, s.es, s.st ++ freesL i⟩ : St) = S := ⟨_, rfl⟩
      have hSc : S.c = s.c := by rw [← hSd]
      have hat : StAt h u mv' ev' w xs' S := by
        rw [← hSd]
        exact ⟨rows_pack (hM.fact (F := pack (rowsR u rvs s.c.rows)) (by (repeat (first | exact Has.here | apply Has.there)))) hlk, hM.sl (v := mv') (xs := xs') (by (repeat (first | exact Has.here | apply Has.there))), hval, mems_at (hM.fact (F := pack (mems xs')) (by (repeat (first | exact Has.here | apply Has.there)))), hM.sl (v := ev') (xs := s.es) (by (repeat (first | exact Has.here | apply Has.there))), hM.sl (v := w) (xs := s.st ++ freesL i) .here⟩
      have hSf : S.Fit := by
        rw [← hSd]
        refine ⟨sf.c, sf.ms, sf.k, sf.es, ?_⟩
        show (s.st ++ freesL i).length * 32 ≤ _
        rw [List.length_append, frees_len, hL]; omega
      have hsc : scoreL S = scoreL s := by rw [← hSd]; rfl
      obtain ⟨_, H7, c1, sc2, rfl, m1⟩ := controlScores_ h S u mv' ev' w xs' hat hSf
      have hp7 := m1.pre
      have c2 := refStateMay_ H7 S u mv' ev' w xs' (hat.mono hp7) hSf
      have c3 := controlMay_ H7 S u mv' ev' w xs' (hat.mono hp7) hSf
      have r9 := (m1.sl .here).cells
      rw [hSc] at c1 c2 c3
      unfold scoresR at c1 m1
      rw [hsc] at c1 m1
      clear hat hSf
      cases hq2 : stateMay S with
      | false =>
        rw [hq2] at c2
        rw [hq2, if_neg (by decide)] at c1 m1
        simp only at c1 m1
        clear c3
        refine goM ?_
        refine l_callG c1 ?_
        replace hM := hM.call1 m1
        clear c1 m1
        refine goM ?_
        refine l_callG c2 ?_
        refine goM ?_
        refine l_callG (num_ _ _) ?_
        refine goM ?_
        exact end_1 (by first | exact .inl rfl | exact .inr rfl) ⟨rfl, hM.pre⟩
      | true =>
        rw [hq2] at c2 c3
        rw [hq2, if_pos rfl] at c1 m1
        simp only at c1 m1
        refine goM ?_
        refine l_callG c1 ?_
        replace hM := hM.call1 m1
        clear c1 m1
        have c4 := sameInts_ H7 sc sc2 (scoreL s) (scoreL s) (hM.sl (v := sc) (xs := scoreL s) (by (repeat (first | exact Has.here | apply Has.there)))) (hM.sl (v := sc2) (xs := scoreL s) (by (repeat (first | exact Has.here | apply Has.there)))) (by unfold scoreL; rw [List.length_map]; omega)
        rw [decide_eq_true rfl] at c4
        refine goM ?_
        refine l_callG c2 ?_
        refine goM ?_
        refine l_callG (num_ _ _) ?_
        refine goM ?_
        refine l_callG c4 ?_
        refine goM ?_
        refine l_callG c3 ?_
        refine goM ?_
        obtain ⟨_, H8, c5, yy, yv, rfl, m0⟩ := small22_ H7
        have hl3 := (m0.fact .here).1.len T24 rfl
        rw [(m0.fact .here).2.1] at hl3
        refine l_callG c5 ?_
        replace hM := hM.grow m0.pre
        clear m0
        refine goM ?_
        exact end_1 (by first | exact .inl rfl | exact .inr rfl) ⟨rfl, hM.pre⟩
end Go.Proofs.YtengdmagaeckoaaGreat.VM

/- Chapter 22, the plain law of ControlForms: states that may not be, one thing at a time. -/
namespace Go.Proofs.YtengdmagaeckoaaGreat.VM
open Go
set_option linter.unusedVariables false
set_option linter.unusedSimpArgs false
attribute [local irreducible] wq wqL wqD wqE wqO Th Bk EndR
set_option maxHeartbeats 8000000

def kA : Chk := firstK smallC 0
def kB : Chk := firstK smallC 1
def tA : ByteArray := textK kA
def tB : ByteArray := textK kB
def st22 : List Ent := [⟨0, tA, 1⟩, ⟨1, tB, 1⟩]
def ms22 : List (Chk × Int) := [(kA, 0), (kB, 1)]
def rate1 : Int := IntKind.i64.wrap ((BitVec.ofInt IntKind.i64.bits kA.r ^^^ BitVec.ofInt IntKind.i64.bits 1).toNat : Int)
def inc0 (xs : List Int) : List Int := match xs with
  | [] => []
  | x :: r => IntKind.i64.wrap (x + 1) :: r
theorem bad22_0 : stateMay ⟨{ smallC with cutn := 2 }, ms22, [], st22⟩ = false := by decide +kernel
theorem bad22_1 : stateMay ⟨smallC, [(kB, 1)], [], st22⟩ = false := by decide +kernel
theorem bad22_2 : stateMay ⟨smallC, ms22 ++ [(kA, 0)], [], st22⟩ = false := by decide +kernel
theorem bad22_3 : stateMay ⟨smallC, [({ kA with t := 1 }, 0), (kB, 1)], [], st22⟩ = false := by decide +kernel
theorem bad22_4 : stateMay ⟨smallC, [({ kA with ws := inc0 kA.ws }, 0), (kB, 1)], [], st22⟩ = false := by decide +kernel
theorem bad22_5 : stateMay ⟨smallC, [({ kA with vs := inc0 kA.vs }, 0), (kB, 1)], [], st22⟩ = false := by decide +kernel
theorem bad22_6 : stateMay ⟨smallC, [({ kA with r := rate1 }, 0), (kB, 1)], [], st22⟩ = false := by decide +kernel
theorem bad22_8 : stateMay ⟨smallC, [(kA, 1), (kB, 1)], [], st22⟩ = false := by decide +kernel
theorem bad22_9 : stateMay ⟨smallC, ms22, [], [⟨0, tA, 0⟩, ⟨1, tB, 1⟩]⟩ = false := by decide +kernel
theorem bad22_10 : stateMay ⟨smallC, ms22, [], [⟨0, tA, 2⟩, ⟨1, tB, 1⟩]⟩ = false := by decide +kernel
theorem bad22_11 : stateMay ⟨smallC, ms22, [], [⟨1, tB, 1⟩]⟩ = false := by decide +kernel
theorem bad22_12 : stateMay ⟨smallC, ms22, [], st22 ++ [⟨2, ⟨#[120]⟩, 1⟩]⟩ = false := by decide +kernel
theorem bad22_15 : stateMay ⟨smallC, ms22, [], [⟨0, tA, 1⟩, ⟨1, tA, 1⟩]⟩ = false := by decide +kernel
theorem good22 : stateMay ⟨smallC, ms22, [], st22 ++ [⟨5, ⟨#[102, 114, 101, 101]⟩, 0⟩]⟩ = true := by decide +kernel
theorem st22_store : Store st22 := store_of (by decide +kernel)
theorem bad22_7 (d : Int) (hd : 1 ≤ d) : stateMay ⟨smallC, [(kA, 2 + d), (kB, 1)], [], st22⟩ = false := by
  have h : getS st22 (2 + d) = (⟨#[]⟩, false) := get_none st22_store fun e he => by
    unfold st22 at he
    simp only [List.mem_cons, List.not_mem_nil, or_false] at he
    rcases he with rfl | rfl <;> simp <;> omega
  have h2 : headOk st22 (kA, 2 + d) = false := by unfold headOk; rw [h]; rfl
  unfold stateMay heads
  simp only [List.all_cons, h2, Bool.false_and, Bool.and_false]
theorem bad22_13 (d : Int) (hd : 1 ≤ d) : stateMay ⟨smallC, ms22, [⟨0, 1 + d, 0, 0, 0, 0⟩], st22⟩ = false := by
  have h : eventsMay [⟨0, 1 + d, 0, 0, 0, 0⟩] smallC.m = false := by
    refine eventsMay_no (k := 0) (e := ⟨0, 1 + d, 0, 0, 0, 0⟩) rfl ?_
    unfold evMay
    have : within (1 + d) 0 (smallC.m - 1) = false := by
      unfold within
      rw [decide_eq_false (show ¬ (1 + d ≤ smallC.m - 1) from by show ¬ (1 + d ≤ 2 - 1); omega)]
      simp
    rw [this]; rfl
  unfold stateMay
  simp only [h, Bool.and_false, Bool.false_and]
theorem bad22_14 (d : Int) (hd : 1 ≤ d) : stateMay ⟨{ smallC with total := 1 - d }, ms22, [], st22⟩ = false := by
  have h : cfgMay { smallC with total := 1 - d } = false := by
    unfold cfgMay
    have : within (1 - d) 1 32 = false := by
      unfold within
      rw [decide_eq_false (show ¬ (1 ≤ 1 - d) by omega)]; rfl
    simp only [this, Bool.and_false, Bool.false_and]
  unfold stateMay
  simp only [h, Bool.false_and]
/-- weights that are others: the members' cells are as they were -/
theorem Sl.retype {H : Heap} {v w0 v0 w1 v1 : V} {k k' k1 : Chk} {h0 h1 : Int} (h : Sl 6 mrC H v [⟨w0, v0, k, h0⟩, ⟨w1, v1, k1, h1⟩]) (e1 : k'.r = k.r := by rfl) (e2 : k'.m = k.m := by rfl) (e3 : k'.t = k.t := by rfl) : Sl 6 mrC H v [⟨w0, v0, k', h0⟩, ⟨w1, v1, k1, h1⟩] := by
  rcases h with ⟨_, h2⟩ | ⟨b, off, cap, t, cs, wr, e, g1, g2, g3, g4⟩
  · cases h2
  · refine .inr ⟨b, off, cap, t, cs, wr, e, g1, g2, g3, fun j x hx => ?_⟩
    match j, hx with
    | 0, hx =>
      cases hx
      have := g4 0 _ rfl
      unfold mrC at this ⊢
      show _ = [w0, v0, .int .i64 k'.r, .int .i64 k'.m, .int .i64 k'.t, .int .i64 h0]
      rw [this, e1, e2, e3]
    | 1, hx => exact g4 1 x hx
end Go.Proofs.YtengdmagaeckoaaGreat.VM

/- Chapter 22: the statement ControlForms. -/
namespace Go.Proofs.YtengdmagaeckoaaGreat.VM
open Go
set_option linter.unusedVariables false
set_option linter.unusedSimpArgs false
attribute [local irreducible] wq wqL wqD wqE wqO Th Bk EndR
set_option maxHeartbeats 8000000

theorem fit_of {c : Cfg} {ms : List (Chk × Int)} {es : List Ev} {st : List Ent} (hc : c.Fit) (hm : ∀ m ∈ ms, m.1.Fit) (l1 : ms.length ≤ 8) (l2 : es.length ≤ 8) (l3 : st.length ≤ 8) : St.Fit ⟨c, ms, es, st⟩ :=
  ⟨hc, by show ms.length * 80 ≤ _; omega, hm, by show es.length * 48 ≤ _; omega, by show st.length * 32 ≤ _; omega⟩
theorem kA_fit : kA.Fit := kFits_fit (firstK_fits small_may 0)
theorem kB_fit : kB.Fit := kFits_fit (firstK_fits small_may 1)
theorem inc0_len (xs : List Int) : (inc0 xs).length = xs.length := by cases xs <;> rfl
theorem two_fit {a b : Chk × Int} (ha : a.1.Fit) (hb : b.1.Fit) : ∀ m ∈ [a, b], m.1.Fit := fun m hm => by
  simp only [List.mem_cons, List.not_mem_nil, or_false] at hm
  rcases hm with rfl | rfl
  · exact ha
  · exact hb
theorem two_at {H : Heap} {a b : MR} (ha : KAt H a.w a.v a.k) (hb : KAt H b.w b.v b.k) : ∀ x ∈ [a, b], KAt H x.w x.v x.k := fun x hx => by
  simp only [List.mem_cons, List.not_mem_nil, or_false] at hx
  rcases hx with rfl | rfl
  · exact ha
  · exact hb
/-- a state that may not be, in memory -/
def Bad22 (K h : Heap) (b6 : Nat) : Prop := ∃ (s : St) (u mv ev sv : V) (xs : List MR) (L : List Res), StAt h u mv ev sv xs s ∧ s.Fit ∧ stateMay s = false ∧ Mem K h (.box b6 (stC s.c u mv ev sv) :: L)

theorem law_controlForms {D : Type} (K : Heap) (vs : List V) (ds : List (DataW D)) (ro : Ro K) (h : RdAll T K [3, 3] vs ds) : ∃ K', Call Tryz.prog 7 vs K (.bool true) K' := by
  obtain ⟨z1, vs, d1, ds, rfl, rfl, hv1, h⟩ := rdAll_cons h
  obtain ⟨z2, vs, d2, ds, rfl, rfl, hv2, h⟩ := rdAll_cons h
  obtain ⟨rfl, rfl⟩ := rdAll_nil h
  obtain ⟨n, rfl, _⟩ := hv1.int T3 rfl
  obtain ⟨x, rfl, _⟩ := hv2.int T3 rfl
  clear hv1 hv2 h
  obtain ⟨y, hy, hy0, hy1⟩ := and_mask x 1023 (by decide) (by decide)
  replace hy : IntKind.i64.wrap ((BitVec.ofInt IntKind.i64.bits x &&& BitVec.ofInt IntKind.i64.bits 1023).toNat : Int) = y := hy
  obtain ⟨d, hd⟩ : ∃ d : Int, 1 + y = d := ⟨_, rfl⟩
  have hd1 : IntKind.i64.wrap (1 + y) = d := by rw [hd]; exact wrap_i64 (by omega) (by omega)
  have wd2 : IntKind.i64.wrap (2 + d) = 2 + d := wrap_i64 (by omega) (by omega)
  have wd1 : IntKind.i64.wrap (1 + d) = 1 + d := wrap_i64 (by omega) (by omega)
  have wm1 : IntKind.i64.wrap (1 - d) = 1 - d := wrap_i64 (by omega) (by omega)
  have r7 := bad22_7 d (by omega)
  have r13 := bad22_13 d (by omega)
  have r14 := bad22_14 d (by omega)
  obtain ⟨q, hq16, hq⟩ : ∃ q : Nat, q < 16 ∧ (IntKind.u64.wrap n).tmod 16 = (q : Int) := by
    have h : 0 ≤ IntKind.u64.wrap n := by
      unfold IntKind.wrap
      simp only [IntKind.bits, IntKind.signed, Bool.false_and, Bool.false_eq_true, if_false, Int.reducePow]
      omega
    have h1 := Int.tmod_lt_of_pos (IntKind.u64.wrap n) (show (0 : Int) < 16 by decide)
    have h2 := Int.tmod_nonneg 16 h
    exact ⟨((IntKind.u64.wrap n).tmod 16).toNat, by omega, by omega⟩
  clear hd hy0 hy1
  have hsm := small22_
  have hR := fun H rv hr => refNew_ H smallC rv hr small_fit
  have hN := fun H rv hr => controlNew_ H smallC rv hr small_fit
  have hns : newR smallC = (⟨smallC, ms22, [], st22⟩, 0) := new_small
  rw [hns] at hR hN
  simp only at hR hN
  clear hns
  have fA := kA_fit
  have fB := kB_fit
  have sfit := small_fit
  have sf0 : St.Fit ⟨smallC, ms22, [], st22⟩ := fit_of sfit (two_fit fA fB) (by decide) (by decide) (by decide)
  have gfit : St.Fit ⟨smallC, ms22, [], st22 ++ [⟨5, ⟨#[102, 114, 101, 101]⟩, 0⟩]⟩ := fit_of sfit (two_fit fA fB) (by decide) (by decide) (by simp [st22])
  obtain ⟨a0, ar, har⟩ : ∃ a r, kA.ws = a :: r := by
    have := (kFits_len (firstK_fits small_may 0)).2.1
    cases h : kA.ws with
    | nil => have h2 : (firstK smallC 0).ws = [] := h; rw [h2] at this; simp at this
    | cons a r => exact ⟨a, r, rfl⟩
  obtain ⟨c0, cr, hcr⟩ : ∃ a r, kA.vs = a :: r := by
    have h1 := kFits_len (firstK_fits small_may 0)
    have := h1.2.1
    have h3 := h1.1
    cases h : kA.vs with
    | nil => have h2 : (firstK smallC 0).vs = [] := h; rw [h2] at h3; simp at h3; omega
    | cons a r => exact ⟨a, r, rfl⟩
  refine ⟨K, ?_⟩
  refine call_pure fit mixed Tryz.func7 rfl rfl rfl (by kernel_rfl) rfl fun hM => ?_
  refine wq_seq (wq_line ?_)
  refine goM ?_
  refine l_callG (awake22_ _) ?_
  refine goM ?_
  obtain ⟨_, H2, c1, rv, xv, rfl, m0⟩ := hsm K
  refine l_callG c1 ?_
  have hrow := rows_of (m0.fact .here)
  obtain ⟨_, H3, c2, u, mv, sv, rvs, xs, rfl, hlk, hval, m1⟩ := hR H2 rv hrow
  replace hM := hM.grow m0.pre
  clear c1 m0
  obtain ⟨⟨w0, v0, k0, h0⟩, ⟨w1, v1, k1, h1⟩, rfl, hv0, hv1⟩ := list_two hval
  obtain ⟨rfl, rfl⟩ : k0 = kA ∧ h0 = 0 := by simpa [MR.val] using hv0
  obtain ⟨rfl, rfl⟩ : k1 = kB ∧ h1 = 1 := by simpa [MR.val] using hv1
  clear hv0 hv1 hval
  refine goM ?_
  refine l_callG c2 ?_
  have hat := st_at (s := ⟨smallC, ms22, [], st22⟩) (L := []) (by simpa using m1) hlk rfl
  have s1 : u.cells = [u] ∧ u.isTup = false := by obtain ⟨_, h, _⟩ := hat.rows; exact h.cells
  have s2 := hat.ms.cells
  have s4 := hat.st.cells
  replace hM : Mem K H3 (stOwn u mv .nils sv rvs ([(⟨w0, v0, kA, 0⟩ : MR), (⟨w1, v1, kB, 1⟩ : MR)] : List MR) ⟨smallC, ms22, [], st22⟩ ++ []) := hM.call m1
  clear c2 m1 hat
  unfold stOwn at hM
  simp only [List.append_nil] at hM
  refine goM ?_
  refine l_newM (cs := zeroSt) T59 rfl fun b6 H5 hM => ?_
  refine l_putM T59 fun H6 hM => ?_
  refine goM ?_
  have hk01 := mems_at (hM.fact (F := pack (mems ([(⟨w0, v0, kA, 0⟩ : MR), (⟨w1, v1, kB, 1⟩ : MR)] : List MR))) (by (repeat (first | exact Has.here | apply Has.there))))
  have kt0 : KAt H6 w0 v0 kA := hk01 (⟨w0, v0, kA, 0⟩ : MR) (by simp)
  have kt1 : KAt H6 w1 v1 kB := hk01 (⟨w1, v1, kB, 1⟩ : MR) (by simp)
  clear hk01
  obtain ⟨bm, om, im, lmm, lmk, lmh⟩ := mr_at (hM.sl (v := mv) (xs := ([(⟨w0, v0, kA, 0⟩ : MR), (⟨w1, v1, kB, 1⟩ : MR)] : List MR)) (by (repeat (first | exact Has.here | apply Has.there)))) (j := 0) (x := (⟨w0, v0, kA, 0⟩ : MR)) rfl
  replace im : idxV T 56 mv 0 = some (.ptr bm om) := im
  obtain ⟨be, oe, ie, _, lei, let_, len_⟩ := ent_at (hM.sl (v := sv) (xs := st22) (by (repeat (first | exact Has.here | apply Has.there)))) (k := 0) (e := ⟨0, tA, 1⟩) rfl
  replace ie : idxV T 57 sv 0 = some (.ptr be oe) := ie
  refine wq_meet (fun ρ h => Bad22 K h b6 ∧ ρ 5 = .int .i64 d ∧ ρ 6 = .ptr b6 0 ∧ ρ 7 = .int .i64 0) ?_ ?_
  · have qs : q = 0 ∨ q = 1 ∨ q = 2 ∨ q = 3 ∨ q = 4 ∨ q = 5 ∨ q = 6 ∨ q = 7 ∨ q = 8 ∨ q = 9 ∨ q = 10 ∨ q = 11 ∨ q = 12 ∨ q = 13 ∨ q = 14 ∨ q = 15 := by omega
    clear hR hN hsm hq16
    rcases qs with rfl | rfl | rfl | rfl | rfl | rfl | rfl | rfl | rfl | rfl | rfl | rfl | rfl | rfl | rfl | rfl
    · refine goM ?_
      refine l_putM T3 fun H8 hM => ?_
      refine goM ?_
      refine ⟨⟨⟨{ smallC with cutn := 2 }, ms22, [], st22⟩, u, mv, .nils, sv, ([(⟨w0, v0, kA, 0⟩ : MR), (⟨w1, v1, kB, 1⟩ : MR)] : List MR), _, ⟨rows_pack (hM.fact (F := pack (rowsR u rvs smallC.rows)) (by (repeat (first | exact Has.here | apply Has.there)))) hlk, hM.sl (v := mv) (xs := (([(⟨w0, v0, kA, 0⟩ : MR), (⟨w1, v1, kB, 1⟩ : MR)] : List MR) : List MR)) (by (repeat (first | exact Has.here | apply Has.there))), rfl, two_at ((mems_at (hM.fact (F := pack (mems ([(⟨w0, v0, kA, 0⟩ : MR), (⟨w1, v1, kB, 1⟩ : MR)] : List MR))) (by (repeat (first | exact Has.here | apply Has.there))))) (⟨w0, v0, kA, 0⟩ : MR) (by simp)) ((mems_at (hM.fact (F := pack (mems ([(⟨w0, v0, kA, 0⟩ : MR), (⟨w1, v1, kB, 1⟩ : MR)] : List MR))) (by (repeat (first | exact Has.here | apply Has.there))))) (⟨w1, v1, kB, 1⟩ : MR) (by simp)), .inl ⟨rfl, rfl⟩, hM.sl (v := sv) (xs := (st22 : List Ent)) (by (repeat (first | exact Has.here | apply Has.there)))⟩, fit_of ⟨sfit.rows, sfit.row⟩ (two_fit fA fB) (by decide) (by decide) (by decide), bad22_0, hM.front (r := .box b6 (stC { smallC with cutn := 2 } u mv .nils sv)) (by (repeat (first | exact Take.here | apply Take.there)))⟩, by simp [put_app, put_none, *]⟩
    · obtain ⟨mv1, hsu, hsl⟩ := (hM.sl (v := mv) (xs := ([(⟨w0, v0, kA, 0⟩ : MR), (⟨w1, v1, kB, 1⟩ : MR)] : List MR)) (by (repeat (first | exact Has.here | apply Has.there)))).rest (l := 1) (by simp)
      replace hsu : sliceV 6 mv (some (.int .i64 1)) none none = some mv1 := hsu
      have s5 := hsl.cells
      clear hsl
      refine goM ?_
      refine l_putM T56 fun H8 hM => ?_
      obtain ⟨mv2, hsu2, hsl⟩ := (hM.sl (v := mv) (xs := ([(⟨w0, v0, kA, 0⟩ : MR), (⟨w1, v1, kB, 1⟩ : MR)] : List MR)) (by (repeat (first | exact Has.here | apply Has.there)))).rest (l := 1) (by simp)
      replace hsu2 : sliceV 6 mv (some (.int .i64 1)) none none = some mv2 := hsu2
      obtain rfl : mv1 = mv2 := Option.some.inj (hsu.symm.trans hsu2)
      clear hsu2
      refine goM ?_
      refine ⟨⟨⟨smallC, [(kB, 1)], [], st22⟩, u, mv1, .nils, sv, [(⟨w1, v1, kB, 1⟩ : MR)], _, ⟨rows_pack (hM.fact (F := pack (rowsR u rvs smallC.rows)) (by (repeat (first | exact Has.here | apply Has.there)))) hlk, hsl, rfl, fun x hx => ?_, .inl ⟨rfl, rfl⟩, hM.sl (v := sv) (xs := st22) (by (repeat (first | exact Has.here | apply Has.there)))⟩, fit_of sfit (fun m hm => by simp only [List.mem_cons, List.not_mem_nil, or_false] at hm; subst hm; exact fB) (by decide) (by decide) (by decide), bad22_1, hM.front (r := .box b6 (stC smallC u mv1 .nils sv)) (by (repeat (first | exact Take.here | apply Take.there)))⟩, by simp [put_app, put_none, *]⟩
      simp only [List.mem_cons, List.not_mem_nil, or_false] at hx
      subst hx
      exact (mems_at (hM.fact (F := pack (mems ([(⟨w0, v0, kA, 0⟩ : MR), (⟨w1, v1, kB, 1⟩ : MR)] : List MR))) (by (repeat (first | exact Has.here | apply Has.there))))) (⟨w1, v1, kB, 1⟩ : MR) (by simp)
    · refine goM ?_
      refine d_sliceM mrC [(⟨w0, v0, kA, 0⟩ : MR)] (mC w0 v0 kA 0) T56 rfl T48 rfl (cells_mrs [(⟨w0, v0, kA, 0⟩ : MR)]) (by decide) fun e1 H7 hM => ?_
      refine goM ?_
      refine d_appM (hM.sl .here) (xs := ([(⟨w0, v0, kA, 0⟩ : MR), (⟨w1, v1, kB, 1⟩ : MR)] : List MR)) (hh := by (repeat (first | exact Has.here | apply Has.there))) (hb := by show (2 + 1) * 80 ≤ _ ∧ 2 + 1 ≤ _; omega) fun mv1 H8 hM => ?_
      have s5 := (hM.sl (v := mv1) (xs := ([(⟨w0, v0, kA, 0⟩ : MR), (⟨w1, v1, kB, 1⟩ : MR)] : List MR) ++ [(⟨w0, v0, kA, 0⟩ : MR)]) (by (repeat (first | exact Has.here | apply Has.there)))).cells
      refine goM ?_
      refine d_putM T56 fun H9 hM => ?_
      refine goM ?_
      refine ⟨⟨⟨smallC, ms22 ++ [(kA, 0)], [], st22⟩, u, mv1, .nils, sv, ([(⟨w0, v0, kA, 0⟩ : MR), (⟨w1, v1, kB, 1⟩ : MR)] : List MR) ++ [(⟨w0, v0, kA, 0⟩ : MR)], _, ⟨rows_pack (hM.fact (F := pack (rowsR u rvs smallC.rows)) (by (repeat (first | exact Has.here | apply Has.there)))) hlk, hM.sl (v := mv1) (xs := ([(⟨w0, v0, kA, 0⟩ : MR), (⟨w1, v1, kB, 1⟩ : MR)] : List MR) ++ [(⟨w0, v0, kA, 0⟩ : MR)]) (by (repeat (first | exact Has.here | apply Has.there))), rfl, fun x hx => ?_, .inl ⟨rfl, rfl⟩, hM.sl (v := sv) (xs := st22) (by (repeat (first | exact Has.here | apply Has.there)))⟩, fit_of sfit (fun m hm => ?_) (by decide) (by decide) (by decide), bad22_2, hM.front (r := .box b6 (stC smallC u mv1 .nils sv)) (by (repeat (first | exact Take.here | apply Take.there)))⟩, by simp [put_app, put_none, *]⟩
      · simp only [List.cons_append, List.nil_append, List.mem_cons, List.not_mem_nil, or_false] at hx
        rcases hx with rfl | rfl | rfl
        · exact (mems_at (hM.fact (F := pack (mems ([(⟨w0, v0, kA, 0⟩ : MR), (⟨w1, v1, kB, 1⟩ : MR)] : List MR))) (by (repeat (first | exact Has.here | apply Has.there))))) (⟨w0, v0, kA, 0⟩ : MR) (by simp)
        · exact (mems_at (hM.fact (F := pack (mems ([(⟨w0, v0, kA, 0⟩ : MR), (⟨w1, v1, kB, 1⟩ : MR)] : List MR))) (by (repeat (first | exact Has.here | apply Has.there))))) (⟨w1, v1, kB, 1⟩ : MR) (by simp)
        · exact (mems_at (hM.fact (F := pack (mems ([(⟨w0, v0, kA, 0⟩ : MR), (⟨w1, v1, kB, 1⟩ : MR)] : List MR))) (by (repeat (first | exact Has.here | apply Has.there))))) (⟨w0, v0, kA, 0⟩ : MR) (by simp)
      · simp only [ms22, List.cons_append, List.nil_append, List.mem_cons, List.not_mem_nil, or_false] at hm
        rcases hm with rfl | rfl | rfl
        · exact fA
        · exact fB
        · exact fA
    · refine goM ?_
      obtain ⟨b', hix, hput⟩ := hM.elemAt (sz := 6) (R := mrC) (v := mv) (xs := ([(⟨w0, v0, kA, 0⟩ : MR), (⟨w1, v1, kB, 1⟩ : MR)] : List MR)) (by (repeat (first | exact Has.here | apply Has.there))) T56 rfl T48 rfl (k := 0) (x := (⟨w0, v0, kA, 0⟩ : MR)) rfl 4 T3 (by decide)
      replace hix : idxV T 56 mv 0 = some (.ptr b' (0 * 6)) := hix
      rw [im] at hix
      cases hix
      obtain ⟨H7, st, hM⟩ := hput (.int .i64 1) ⟨w0, v0, { kA with t := 1 }, 0⟩ rfl rfl (fun cs hl hR => by rw [hR]; rfl)
      refine l_stM st ?_
      replace hM : Mem K H7 [.box b6 (stC smallC u mv .nils sv), .ro (pack (rowsR u rvs smallC.rows)), .ro (pack (mems ([(⟨w0, v0, kA, 0⟩ : MR), (⟨w1, v1, kB, 1⟩ : MR)] : List MR))), .own 6 mrC mv [⟨w0, v0, { kA with t := 1 }, 0⟩, (⟨w1, v1, kB, 1⟩ : MR)], .own 6 evC .nils [], .own 3 entC sv st22] := hM
      refine goM ?_
      refine ⟨⟨⟨smallC, [({ kA with t := 1 }, 0), (kB, 1)], [], st22⟩, u, mv, .nils, sv, [⟨w0, v0, { kA with t := 1 }, 0⟩, (⟨w1, v1, kB, 1⟩ : MR)], _, ⟨rows_pack (hM.fact (F := pack (rowsR u rvs smallC.rows)) (by (repeat (first | exact Has.here | apply Has.there)))) hlk, hM.sl (v := mv) (xs := ([⟨w0, v0, { kA with t := 1 }, 0⟩, (⟨w1, v1, kB, 1⟩ : MR)] : List MR)) (by (repeat (first | exact Has.here | apply Has.there))), rfl, two_at (a := (⟨w0, v0, { kA with t := 1 }, 0⟩ : MR)) (b := (⟨w1, v1, kB, 1⟩ : MR)) ⟨((mems_at (hM.fact (F := pack (mems ([(⟨w0, v0, kA, 0⟩ : MR), (⟨w1, v1, kB, 1⟩ : MR)] : List MR))) (by (repeat (first | exact Has.here | apply Has.there))))) (⟨w0, v0, kA, 0⟩ : MR) (by simp)).ws, ((mems_at (hM.fact (F := pack (mems ([(⟨w0, v0, kA, 0⟩ : MR), (⟨w1, v1, kB, 1⟩ : MR)] : List MR))) (by (repeat (first | exact Has.here | apply Has.there))))) (⟨w0, v0, kA, 0⟩ : MR) (by simp)).vs⟩ ((mems_at (hM.fact (F := pack (mems ([(⟨w0, v0, kA, 0⟩ : MR), (⟨w1, v1, kB, 1⟩ : MR)] : List MR))) (by (repeat (first | exact Has.here | apply Has.there))))) (⟨w1, v1, kB, 1⟩ : MR) (by simp)), .inl ⟨rfl, rfl⟩, hM.sl (v := sv) (xs := (st22 : List Ent)) (by (repeat (first | exact Has.here | apply Has.there)))⟩, fit_of sfit (two_fit ⟨fA.ws, fA.vs⟩ fB) (by simp) (by decide) (by decide), bad22_3, hM.front (r := .box b6 (stC smallC u mv .nils sv)) (by (repeat (first | exact Take.here | apply Take.there)))⟩, by simp [put_app, put_none, *]⟩
    · have hlw : loadV T 30 H6 bm (om + 0) = some w0 := by
        obtain ⟨b', o', cs, hi', hc', _, _, hlc⟩ := (hM.sl (v := mv) (xs := ([(⟨w0, v0, kA, 0⟩ : MR), (⟨w1, v1, kB, 1⟩ : MR)] : List MR)) (by (repeat (first | exact Has.here | apply Has.there)))).get T56 rfl T48 rfl (k := 0) (x := (⟨w0, v0, kA, 0⟩ : MR)) rfl
        replace hi' : idxV T 56 mv 0 = some (.ptr b' o') := hi'
        rw [im] at hi'
        cases hi'
        exact loadV_one T30 rfl (hlc 0 _ (by rw [hc']; rfl))
      have sW0 := kt0.ws.cells
      have sV0 := kt0.vs.cells
      obtain ⟨xa, xo, _, xi, rfl, _, xl, _⟩ := kt0.ws.get T30 rfl T3 rfl (k := 0) (x := a0) (by rw [har]; rfl)
      replace xi : idxV T 30 w0 0 = some (.ptr xa xo) := xi
      have xlo := loadV_one T3 rfl xl
      have hMp := ((hM.front (r := .ro (pack (mems ([(⟨w0, v0, kA, 0⟩ : MR), (⟨w1, v1, kB, 1⟩ : MR)] : List MR)))) (by (repeat (first | exact Take.here | apply Take.there)))).pull (i := 0) (r := kPart w0 v0 kA.ws kA.vs) rfl).unpack2
      obtain ⟨b', hix, hput⟩ := hMp.elem (sz := 1) (R := intC) (v := w0) (xs := kA.ws) (by (repeat (first | exact Has.here | apply Has.there))) T30 rfl T3 rfl (k := 0) (by rw [har]; simp)
      replace hix : idxV T 30 w0 0 = some (.ptr b' (0 * 1)) := hix
      rw [xi] at hix
      cases hix
      obtain ⟨H7, st, hM7⟩ := hput (.int .i64 (IntKind.i64.wrap (a0 + 1))) (IntKind.i64.wrap (a0 + 1)) rfl rfl rfl
      have hinc : kA.ws.set 0 (IntKind.i64.wrap (a0 + 1)) = inc0 kA.ws := by rw [har]; rfl
      rw [hinc] at hM7
      clear hMp hput
      refine goM ?_
      refine l_stM st ?_
      clear hM
      have hM : Mem K H7 [.own 1 intC w0 (inc0 kA.ws), .own 1 intC v0 kA.vs, .ro (pack ((mems ([(⟨w0, v0, kA, 0⟩ : MR), (⟨w1, v1, kB, 1⟩ : MR)] : List MR)).set 0 (.own 1 intC .nils []))), .box b6 (stC smallC u mv .nils sv), .ro (pack (rowsR u rvs smallC.rows)), .own 6 mrC mv ([(⟨w0, v0, kA, 0⟩ : MR), (⟨w1, v1, kB, 1⟩ : MR)] : List MR), .own 6 evC .nils [], .own 3 entC sv st22] := hM7
      clear hM7
      have hkB : KAt H7 w1 v1 kB := by
        have hm := pack_mem (hM.fact (F := pack ((mems ([(⟨w0, v0, kA, 0⟩ : MR), (⟨w1, v1, kB, 1⟩ : MR)] : List MR)).set 0 (.own 1 intC .nils []))) (by (repeat (first | exact Has.here | apply Has.there))))
        exact kPart_at (hm.get (Has.nth (k := 1) rfl))
      refine goM ?_
      have hsl : Sl 6 mrC H7 mv [⟨w0, v0, { kA with ws := inc0 kA.ws }, 0⟩, (⟨w1, v1, kB, 1⟩ : MR)] := by
        have h1 := (hM.sl (v := mv) (xs := ([(⟨w0, v0, kA, 0⟩ : MR), (⟨w1, v1, kB, 1⟩ : MR)] : List MR)) (by (repeat (first | exact Has.here | apply Has.there))))
        exact Sl.retype h1
      refine ⟨⟨⟨smallC, [({ kA with ws := inc0 kA.ws }, 0), (kB, 1)], [], st22⟩, u, mv, .nils, sv, [⟨w0, v0, { kA with ws := inc0 kA.ws }, 0⟩, (⟨w1, v1, kB, 1⟩ : MR)], _, ⟨rows_pack (hM.fact (F := pack (rowsR u rvs smallC.rows)) (by (repeat (first | exact Has.here | apply Has.there)))) hlk, hsl, rfl, two_at (a := ⟨w0, v0, { kA with ws := inc0 kA.ws }, 0⟩) (b := (⟨w1, v1, kB, 1⟩ : MR)) ⟨hM.sl (v := w0) (by (repeat (first | exact Has.here | apply Has.there))), hM.sl (v := v0) (by (repeat (first | exact Has.here | apply Has.there)))⟩ hkB, .inl ⟨rfl, rfl⟩, hM.sl (v := sv) (xs := st22) (by (repeat (first | exact Has.here | apply Has.there)))⟩, fit_of sfit (two_fit ⟨by first | exact fA.ws | (simp only [inc0_len]; exact fA.ws), by first | exact fA.vs | (simp only [inc0_len]; exact fA.vs)⟩ fB) (by simp) (by decide) (by decide), bad22_4, hM.front (r := .box b6 (stC smallC u mv .nils sv)) (by (repeat (first | exact Take.here | apply Take.there)))⟩, by simp [put_app, put_none, *]⟩
    · have hlw : loadV T 30 H6 bm (om + 1) = some v0 := by
        obtain ⟨b', o', cs, hi', hc', _, _, hlc⟩ := (hM.sl (v := mv) (xs := ([(⟨w0, v0, kA, 0⟩ : MR), (⟨w1, v1, kB, 1⟩ : MR)] : List MR)) (by (repeat (first | exact Has.here | apply Has.there)))).get T56 rfl T48 rfl (k := 0) (x := (⟨w0, v0, kA, 0⟩ : MR)) rfl
        replace hi' : idxV T 56 mv 0 = some (.ptr b' o') := hi'
        rw [im] at hi'
        cases hi'
        exact loadV_one T30 rfl (hlc 1 _ (by rw [hc']; rfl))
      have sW0 := kt0.ws.cells
      have sV0 := kt0.vs.cells
      obtain ⟨xa, xo, _, xi, rfl, _, xl, _⟩ := kt0.vs.get T30 rfl T3 rfl (k := 0) (x := c0) (by rw [hcr]; rfl)
      replace xi : idxV T 30 v0 0 = some (.ptr xa xo) := xi
      have xlo := loadV_one T3 rfl xl
      have hMp := ((hM.front (r := .ro (pack (mems ([(⟨w0, v0, kA, 0⟩ : MR), (⟨w1, v1, kB, 1⟩ : MR)] : List MR)))) (by (repeat (first | exact Take.here | apply Take.there)))).pull (i := 0) (r := kPart w0 v0 kA.ws kA.vs) rfl).unpack2
      obtain ⟨b', hix, hput⟩ := hMp.elem (sz := 1) (R := intC) (v := v0) (xs := kA.vs) (by (repeat (first | exact Has.here | apply Has.there))) T30 rfl T3 rfl (k := 0) (by rw [hcr]; simp)
      replace hix : idxV T 30 v0 0 = some (.ptr b' (0 * 1)) := hix
      rw [xi] at hix
      cases hix
      obtain ⟨H7, st, hM7⟩ := hput (.int .i64 (IntKind.i64.wrap (c0 + 1))) (IntKind.i64.wrap (c0 + 1)) rfl rfl rfl
      have hinc : kA.vs.set 0 (IntKind.i64.wrap (c0 + 1)) = inc0 kA.vs := by rw [hcr]; rfl
      rw [hinc] at hM7
      clear hMp hput
      refine goM ?_
      refine l_stM st ?_
      clear hM
      have hM : Mem K H7 [.own 1 intC w0 kA.ws, .own 1 intC v0 (inc0 kA.vs), .ro (pack ((mems ([(⟨w0, v0, kA, 0⟩ : MR), (⟨w1, v1, kB, 1⟩ : MR)] : List MR)).set 0 (.own 1 intC .nils []))), .box b6 (stC smallC u mv .nils sv), .ro (pack (rowsR u rvs smallC.rows)), .own 6 mrC mv ([(⟨w0, v0, kA, 0⟩ : MR), (⟨w1, v1, kB, 1⟩ : MR)] : List MR), .own 6 evC .nils [], .own 3 entC sv st22] := hM7
      clear hM7
      have hkB : KAt H7 w1 v1 kB := by
        have hm := pack_mem (hM.fact (F := pack ((mems ([(⟨w0, v0, kA, 0⟩ : MR), (⟨w1, v1, kB, 1⟩ : MR)] : List MR)).set 0 (.own 1 intC .nils []))) (by (repeat (first | exact Has.here | apply Has.there))))
        exact kPart_at (hm.get (Has.nth (k := 1) rfl))
      refine goM ?_
      have hsl : Sl 6 mrC H7 mv [⟨w0, v0, { kA with vs := inc0 kA.vs }, 0⟩, (⟨w1, v1, kB, 1⟩ : MR)] := by
        have h1 := (hM.sl (v := mv) (xs := ([(⟨w0, v0, kA, 0⟩ : MR), (⟨w1, v1, kB, 1⟩ : MR)] : List MR)) (by (repeat (first | exact Has.here | apply Has.there))))
        exact Sl.retype h1
      refine ⟨⟨⟨smallC, [({ kA with vs := inc0 kA.vs }, 0), (kB, 1)], [], st22⟩, u, mv, .nils, sv, [⟨w0, v0, { kA with vs := inc0 kA.vs }, 0⟩, (⟨w1, v1, kB, 1⟩ : MR)], _, ⟨rows_pack (hM.fact (F := pack (rowsR u rvs smallC.rows)) (by (repeat (first | exact Has.here | apply Has.there)))) hlk, hsl, rfl, two_at (a := ⟨w0, v0, { kA with vs := inc0 kA.vs }, 0⟩) (b := (⟨w1, v1, kB, 1⟩ : MR)) ⟨hM.sl (v := w0) (by (repeat (first | exact Has.here | apply Has.there))), hM.sl (v := v0) (by (repeat (first | exact Has.here | apply Has.there)))⟩ hkB, .inl ⟨rfl, rfl⟩, hM.sl (v := sv) (xs := st22) (by (repeat (first | exact Has.here | apply Has.there)))⟩, fit_of sfit (two_fit ⟨by first | exact fA.ws | (simp only [inc0_len]; exact fA.ws), by first | exact fA.vs | (simp only [inc0_len]; exact fA.vs)⟩ fB) (by simp) (by decide) (by decide), bad22_5, hM.front (r := .box b6 (stC smallC u mv .nils sv)) (by (repeat (first | exact Take.here | apply Take.there)))⟩, by simp [put_app, put_none, *]⟩
    · have hlr : loadV T 3 H6 bm (om + 2) = some (.int .i64 kA.r) := by
        obtain ⟨b', o', cs, hi', hc', _, _, hlc⟩ := (hM.sl (v := mv) (xs := ([(⟨w0, v0, kA, 0⟩ : MR), (⟨w1, v1, kB, 1⟩ : MR)] : List MR)) (by (repeat (first | exact Has.here | apply Has.there)))).get T56 rfl T48 rfl (k := 0) (x := (⟨w0, v0, kA, 0⟩ : MR)) rfl
        replace hi' : idxV T 56 mv 0 = some (.ptr b' o') := hi'
        rw [im] at hi'
        cases hi'
        exact loadV_one T3 rfl (hlc 2 _ (by rw [hc']; rfl))
      have hrt : IntKind.i64.wrap ((BitVec.ofInt IntKind.i64.bits kA.r ^^^ BitVec.ofInt IntKind.i64.bits 1).toNat : Int) = rate1 := rfl
      refine goM ?_
      obtain ⟨b', hix, hput⟩ := hM.elemAt (sz := 6) (R := mrC) (v := mv) (xs := ([(⟨w0, v0, kA, 0⟩ : MR), (⟨w1, v1, kB, 1⟩ : MR)] : List MR)) (by (repeat (first | exact Has.here | apply Has.there))) T56 rfl T48 rfl (k := 0) (x := (⟨w0, v0, kA, 0⟩ : MR)) rfl 2 T3 (by decide)
      replace hix : idxV T 56 mv 0 = some (.ptr b' (0 * 6)) := hix
      rw [im] at hix
      cases hix
      obtain ⟨H7, st, hM⟩ := hput (.int .i64 rate1) ⟨w0, v0, { kA with r := rate1 }, 0⟩ rfl rfl (fun cs hl hR => by rw [hR]; rfl)
      refine d_stM st ?_
      replace hM : Mem K H7 [.box b6 (stC smallC u mv .nils sv), .ro (pack (rowsR u rvs smallC.rows)), .ro (pack (mems ([(⟨w0, v0, kA, 0⟩ : MR), (⟨w1, v1, kB, 1⟩ : MR)] : List MR))), .own 6 mrC mv [⟨w0, v0, { kA with r := rate1 }, 0⟩, (⟨w1, v1, kB, 1⟩ : MR)], .own 6 evC .nils [], .own 3 entC sv st22] := hM
      refine goM ?_
      refine ⟨⟨⟨smallC, [({ kA with r := rate1 }, 0), (kB, 1)], [], st22⟩, u, mv, .nils, sv, [⟨w0, v0, { kA with r := rate1 }, 0⟩, (⟨w1, v1, kB, 1⟩ : MR)], _, ⟨rows_pack (hM.fact (F := pack (rowsR u rvs smallC.rows)) (by (repeat (first | exact Has.here | apply Has.there)))) hlk, hM.sl (v := mv) (xs := ([⟨w0, v0, { kA with r := rate1 }, 0⟩, (⟨w1, v1, kB, 1⟩ : MR)] : List MR)) (by (repeat (first | exact Has.here | apply Has.there))), rfl, two_at (a := (⟨w0, v0, { kA with r := rate1 }, 0⟩ : MR)) (b := (⟨w1, v1, kB, 1⟩ : MR)) ⟨((mems_at (hM.fact (F := pack (mems ([(⟨w0, v0, kA, 0⟩ : MR), (⟨w1, v1, kB, 1⟩ : MR)] : List MR))) (by (repeat (first | exact Has.here | apply Has.there))))) (⟨w0, v0, kA, 0⟩ : MR) (by simp)).ws, ((mems_at (hM.fact (F := pack (mems ([(⟨w0, v0, kA, 0⟩ : MR), (⟨w1, v1, kB, 1⟩ : MR)] : List MR))) (by (repeat (first | exact Has.here | apply Has.there))))) (⟨w0, v0, kA, 0⟩ : MR) (by simp)).vs⟩ ((mems_at (hM.fact (F := pack (mems ([(⟨w0, v0, kA, 0⟩ : MR), (⟨w1, v1, kB, 1⟩ : MR)] : List MR))) (by (repeat (first | exact Has.here | apply Has.there))))) (⟨w1, v1, kB, 1⟩ : MR) (by simp)), .inl ⟨rfl, rfl⟩, hM.sl (v := sv) (xs := (st22 : List Ent)) (by (repeat (first | exact Has.here | apply Has.there)))⟩, fit_of sfit (two_fit ⟨fA.ws, fA.vs⟩ fB) (by simp) (by decide) (by decide), bad22_6, hM.front (r := .box b6 (stC smallC u mv .nils sv)) (by (repeat (first | exact Take.here | apply Take.there)))⟩, by simp [put_app, put_none, *]⟩
    · refine goM ?_
      obtain ⟨b', hix, hput⟩ := hM.elemAt (sz := 6) (R := mrC) (v := mv) (xs := ([(⟨w0, v0, kA, 0⟩ : MR), (⟨w1, v1, kB, 1⟩ : MR)] : List MR)) (by (repeat (first | exact Has.here | apply Has.there))) T56 rfl T48 rfl (k := 0) (x := (⟨w0, v0, kA, 0⟩ : MR)) rfl 5 T3 (by decide)
      replace hix : idxV T 56 mv 0 = some (.ptr b' (0 * 6)) := hix
      rw [im] at hix
      cases hix
      obtain ⟨H7, st, hM⟩ := hput (.int .i64 (2 + d)) ⟨w0, v0, kA, 2 + d⟩ rfl rfl (fun cs hl hR => by rw [hR]; rfl)
      refine l_stM st ?_
      replace hM : Mem K H7 [.box b6 (stC smallC u mv .nils sv), .ro (pack (rowsR u rvs smallC.rows)), .ro (pack (mems ([(⟨w0, v0, kA, 0⟩ : MR), (⟨w1, v1, kB, 1⟩ : MR)] : List MR))), .own 6 mrC mv [⟨w0, v0, kA, 2 + d⟩, (⟨w1, v1, kB, 1⟩ : MR)], .own 6 evC .nils [], .own 3 entC sv st22] := hM
      refine goM ?_
      refine ⟨⟨⟨smallC, [(kA, 2 + d), (kB, 1)], [], st22⟩, u, mv, .nils, sv, [⟨w0, v0, kA, 2 + d⟩, (⟨w1, v1, kB, 1⟩ : MR)], _, ⟨rows_pack (hM.fact (F := pack (rowsR u rvs smallC.rows)) (by (repeat (first | exact Has.here | apply Has.there)))) hlk, hM.sl (v := mv) (xs := ([⟨w0, v0, kA, 2 + d⟩, (⟨w1, v1, kB, 1⟩ : MR)] : List MR)) (by (repeat (first | exact Has.here | apply Has.there))), rfl, two_at (a := (⟨w0, v0, kA, 2 + d⟩ : MR)) (b := (⟨w1, v1, kB, 1⟩ : MR)) ⟨((mems_at (hM.fact (F := pack (mems ([(⟨w0, v0, kA, 0⟩ : MR), (⟨w1, v1, kB, 1⟩ : MR)] : List MR))) (by (repeat (first | exact Has.here | apply Has.there))))) (⟨w0, v0, kA, 0⟩ : MR) (by simp)).ws, ((mems_at (hM.fact (F := pack (mems ([(⟨w0, v0, kA, 0⟩ : MR), (⟨w1, v1, kB, 1⟩ : MR)] : List MR))) (by (repeat (first | exact Has.here | apply Has.there))))) (⟨w0, v0, kA, 0⟩ : MR) (by simp)).vs⟩ ((mems_at (hM.fact (F := pack (mems ([(⟨w0, v0, kA, 0⟩ : MR), (⟨w1, v1, kB, 1⟩ : MR)] : List MR))) (by (repeat (first | exact Has.here | apply Has.there))))) (⟨w1, v1, kB, 1⟩ : MR) (by simp)), .inl ⟨rfl, rfl⟩, hM.sl (v := sv) (xs := (st22 : List Ent)) (by (repeat (first | exact Has.here | apply Has.there)))⟩, fit_of sfit (two_fit fA fB) (by simp) (by decide) (by decide), r7, hM.front (r := .box b6 (stC smallC u mv .nils sv)) (by (repeat (first | exact Take.here | apply Take.there)))⟩, by simp [put_app, put_none, *]⟩
    · refine goM ?_
      obtain ⟨b', hix, hput⟩ := hM.elemAt (sz := 6) (R := mrC) (v := mv) (xs := ([(⟨w0, v0, kA, 0⟩ : MR), (⟨w1, v1, kB, 1⟩ : MR)] : List MR)) (by (repeat (first | exact Has.here | apply Has.there))) T56 rfl T48 rfl (k := 0) (x := (⟨w0, v0, kA, 0⟩ : MR)) rfl 5 T3 (by decide)
      replace hix : idxV T 56 mv 0 = some (.ptr b' (0 * 6)) := hix
      rw [im] at hix
      cases hix
      obtain ⟨H7, st, hM⟩ := hput (.int .i64 1) ⟨w0, v0, kA, 1⟩ rfl rfl (fun cs hl hR => by rw [hR]; rfl)
      refine l_stM st ?_
      replace hM : Mem K H7 [.box b6 (stC smallC u mv .nils sv), .ro (pack (rowsR u rvs smallC.rows)), .ro (pack (mems ([(⟨w0, v0, kA, 0⟩ : MR), (⟨w1, v1, kB, 1⟩ : MR)] : List MR))), .own 6 mrC mv [⟨w0, v0, kA, 1⟩, (⟨w1, v1, kB, 1⟩ : MR)], .own 6 evC .nils [], .own 3 entC sv st22] := hM
      refine goM ?_
      refine ⟨⟨⟨smallC, [(kA, 1), (kB, 1)], [], st22⟩, u, mv, .nils, sv, [⟨w0, v0, kA, 1⟩, (⟨w1, v1, kB, 1⟩ : MR)], _, ⟨rows_pack (hM.fact (F := pack (rowsR u rvs smallC.rows)) (by (repeat (first | exact Has.here | apply Has.there)))) hlk, hM.sl (v := mv) (xs := ([⟨w0, v0, kA, 1⟩, (⟨w1, v1, kB, 1⟩ : MR)] : List MR)) (by (repeat (first | exact Has.here | apply Has.there))), rfl, two_at (a := (⟨w0, v0, kA, 1⟩ : MR)) (b := (⟨w1, v1, kB, 1⟩ : MR)) ⟨((mems_at (hM.fact (F := pack (mems ([(⟨w0, v0, kA, 0⟩ : MR), (⟨w1, v1, kB, 1⟩ : MR)] : List MR))) (by (repeat (first | exact Has.here | apply Has.there))))) (⟨w0, v0, kA, 0⟩ : MR) (by simp)).ws, ((mems_at (hM.fact (F := pack (mems ([(⟨w0, v0, kA, 0⟩ : MR), (⟨w1, v1, kB, 1⟩ : MR)] : List MR))) (by (repeat (first | exact Has.here | apply Has.there))))) (⟨w0, v0, kA, 0⟩ : MR) (by simp)).vs⟩ ((mems_at (hM.fact (F := pack (mems ([(⟨w0, v0, kA, 0⟩ : MR), (⟨w1, v1, kB, 1⟩ : MR)] : List MR))) (by (repeat (first | exact Has.here | apply Has.there))))) (⟨w1, v1, kB, 1⟩ : MR) (by simp)), .inl ⟨rfl, rfl⟩, hM.sl (v := sv) (xs := (st22 : List Ent)) (by (repeat (first | exact Has.here | apply Has.there)))⟩, fit_of sfit (two_fit fA fB) (by simp) (by decide) (by decide), bad22_8, hM.front (r := .box b6 (stC smallC u mv .nils sv)) (by (repeat (first | exact Take.here | apply Take.there)))⟩, by simp [put_app, put_none, *]⟩
    · refine goM ?_
      obtain ⟨b', hix, hput⟩ := hM.elemAt (sz := 3) (R := entC) (v := sv) (xs := st22) (by (repeat (first | exact Has.here | apply Has.there))) T57 rfl T76 rfl (k := 0) (x := ⟨0, tA, 1⟩) rfl 2 T3 (by decide)
      replace hix : idxV T 57 sv 0 = some (.ptr b' (0 * 3)) := hix
      rw [ie] at hix
      cases hix
      obtain ⟨H7, st, hM⟩ := hput (.int .i64 0) ⟨0, tA, 0⟩ rfl rfl (fun cs hl hR => by rw [hR]; rfl)
      refine l_stM st ?_
      replace hM : Mem K H7 [.box b6 (stC smallC u mv .nils sv), .ro (pack (rowsR u rvs smallC.rows)), .ro (pack (mems ([(⟨w0, v0, kA, 0⟩ : MR), (⟨w1, v1, kB, 1⟩ : MR)] : List MR))), .own 6 mrC mv ([(⟨w0, v0, kA, 0⟩ : MR), (⟨w1, v1, kB, 1⟩ : MR)] : List MR), .own 6 evC .nils [], .own 3 entC sv [⟨0, tA, 0⟩, ⟨1, tB, 1⟩]] := hM
      refine goM ?_
      refine ⟨⟨⟨smallC, ms22, [], [⟨0, tA, 0⟩, ⟨1, tB, 1⟩]⟩, u, mv, .nils, sv, ([(⟨w0, v0, kA, 0⟩ : MR), (⟨w1, v1, kB, 1⟩ : MR)] : List MR), _, ⟨rows_pack (hM.fact (F := pack (rowsR u rvs smallC.rows)) (by (repeat (first | exact Has.here | apply Has.there)))) hlk, hM.sl (v := mv) (xs := (([(⟨w0, v0, kA, 0⟩ : MR), (⟨w1, v1, kB, 1⟩ : MR)] : List MR) : List MR)) (by (repeat (first | exact Has.here | apply Has.there))), rfl, two_at ((mems_at (hM.fact (F := pack (mems ([(⟨w0, v0, kA, 0⟩ : MR), (⟨w1, v1, kB, 1⟩ : MR)] : List MR))) (by (repeat (first | exact Has.here | apply Has.there))))) (⟨w0, v0, kA, 0⟩ : MR) (by simp)) ((mems_at (hM.fact (F := pack (mems ([(⟨w0, v0, kA, 0⟩ : MR), (⟨w1, v1, kB, 1⟩ : MR)] : List MR))) (by (repeat (first | exact Has.here | apply Has.there))))) (⟨w1, v1, kB, 1⟩ : MR) (by simp)), .inl ⟨rfl, rfl⟩, hM.sl (v := sv) (xs := ([⟨0, tA, 0⟩, ⟨1, tB, 1⟩] : List Ent)) (by (repeat (first | exact Has.here | apply Has.there)))⟩, fit_of sfit (two_fit fA fB) (by decide) (by decide) (by simp), bad22_9, hM.front (r := .box b6 (stC smallC u mv .nils sv)) (by (repeat (first | exact Take.here | apply Take.there)))⟩, by simp [put_app, put_none, *]⟩
    · refine goM ?_
      obtain ⟨b', hix, hput⟩ := hM.elemAt (sz := 3) (R := entC) (v := sv) (xs := st22) (by (repeat (first | exact Has.here | apply Has.there))) T57 rfl T76 rfl (k := 0) (x := ⟨0, tA, 1⟩) rfl 2 T3 (by decide)
      replace hix : idxV T 57 sv 0 = some (.ptr b' (0 * 3)) := hix
      rw [ie] at hix
      cases hix
      obtain ⟨H7, st, hM⟩ := hput (.int .i64 2) ⟨0, tA, 2⟩ rfl rfl (fun cs hl hR => by rw [hR]; rfl)
      refine l_stM st ?_
      replace hM : Mem K H7 [.box b6 (stC smallC u mv .nils sv), .ro (pack (rowsR u rvs smallC.rows)), .ro (pack (mems ([(⟨w0, v0, kA, 0⟩ : MR), (⟨w1, v1, kB, 1⟩ : MR)] : List MR))), .own 6 mrC mv ([(⟨w0, v0, kA, 0⟩ : MR), (⟨w1, v1, kB, 1⟩ : MR)] : List MR), .own 6 evC .nils [], .own 3 entC sv [⟨0, tA, 2⟩, ⟨1, tB, 1⟩]] := hM
      refine goM ?_
      refine ⟨⟨⟨smallC, ms22, [], [⟨0, tA, 2⟩, ⟨1, tB, 1⟩]⟩, u, mv, .nils, sv, ([(⟨w0, v0, kA, 0⟩ : MR), (⟨w1, v1, kB, 1⟩ : MR)] : List MR), _, ⟨rows_pack (hM.fact (F := pack (rowsR u rvs smallC.rows)) (by (repeat (first | exact Has.here | apply Has.there)))) hlk, hM.sl (v := mv) (xs := (([(⟨w0, v0, kA, 0⟩ : MR), (⟨w1, v1, kB, 1⟩ : MR)] : List MR) : List MR)) (by (repeat (first | exact Has.here | apply Has.there))), rfl, two_at ((mems_at (hM.fact (F := pack (mems ([(⟨w0, v0, kA, 0⟩ : MR), (⟨w1, v1, kB, 1⟩ : MR)] : List MR))) (by (repeat (first | exact Has.here | apply Has.there))))) (⟨w0, v0, kA, 0⟩ : MR) (by simp)) ((mems_at (hM.fact (F := pack (mems ([(⟨w0, v0, kA, 0⟩ : MR), (⟨w1, v1, kB, 1⟩ : MR)] : List MR))) (by (repeat (first | exact Has.here | apply Has.there))))) (⟨w1, v1, kB, 1⟩ : MR) (by simp)), .inl ⟨rfl, rfl⟩, hM.sl (v := sv) (xs := ([⟨0, tA, 2⟩, ⟨1, tB, 1⟩] : List Ent)) (by (repeat (first | exact Has.here | apply Has.there)))⟩, fit_of sfit (two_fit fA fB) (by decide) (by decide) (by simp), bad22_10, hM.front (r := .box b6 (stC smallC u mv .nils sv)) (by (repeat (first | exact Take.here | apply Take.there)))⟩, by simp [put_app, put_none, *]⟩
    · obtain ⟨sv1, hsu, hsl⟩ := (hM.sl (v := sv) (xs := st22) (by (repeat (first | exact Has.here | apply Has.there)))).rest (l := 1) (by decide)
      replace hsu : sliceV 3 sv (some (.int .i64 1)) none none = some sv1 := hsu
      have s5 := hsl.cells
      clear hsl
      refine goM ?_
      refine l_putM T57 fun H8 hM => ?_
      obtain ⟨sv2, hsu2, hsl⟩ := (hM.sl (v := sv) (xs := st22) (by (repeat (first | exact Has.here | apply Has.there)))).rest (l := 1) (by decide)
      replace hsu2 : sliceV 3 sv (some (.int .i64 1)) none none = some sv2 := hsu2
      obtain rfl : sv1 = sv2 := Option.some.inj (hsu.symm.trans hsu2)
      clear hsu2
      refine goM ?_
      refine ⟨⟨⟨smallC, ms22, [], [⟨1, tB, 1⟩]⟩, u, mv, .nils, sv1, ([(⟨w0, v0, kA, 0⟩ : MR), (⟨w1, v1, kB, 1⟩ : MR)] : List MR), _, ⟨rows_pack (hM.fact (F := pack (rowsR u rvs smallC.rows)) (by (repeat (first | exact Has.here | apply Has.there)))) hlk, hM.sl (v := mv) (xs := ([(⟨w0, v0, kA, 0⟩ : MR), (⟨w1, v1, kB, 1⟩ : MR)] : List MR)) (by (repeat (first | exact Has.here | apply Has.there))), rfl, two_at ((mems_at (hM.fact (F := pack (mems ([(⟨w0, v0, kA, 0⟩ : MR), (⟨w1, v1, kB, 1⟩ : MR)] : List MR))) (by (repeat (first | exact Has.here | apply Has.there))))) (⟨w0, v0, kA, 0⟩ : MR) (by simp)) ((mems_at (hM.fact (F := pack (mems ([(⟨w0, v0, kA, 0⟩ : MR), (⟨w1, v1, kB, 1⟩ : MR)] : List MR))) (by (repeat (first | exact Has.here | apply Has.there))))) (⟨w1, v1, kB, 1⟩ : MR) (by simp)), .inl ⟨rfl, rfl⟩, hsl⟩, fit_of sfit (two_fit fA fB) (by decide) (by decide) (by simp), bad22_11, hM.front (r := .box b6 (stC smallC u mv .nils sv1)) (by (repeat (first | exact Take.here | apply Take.there)))⟩, by simp [put_app, put_none, *]⟩
    · refine goM ?_
      refine l_sliceM entC [⟨2, ⟨#[120]⟩, 1⟩] [.int .i64 2, .str ⟨#[120]⟩, .int .i64 1] T57 rfl T76 rfl (cells_ents [⟨2, ⟨#[120]⟩, 1⟩]) (by decide) fun e1 H7 hM => ?_
      refine goM ?_
      refine l_appM (hM.sl .here) (xs := st22) (hh := by (repeat (first | exact Has.here | apply Has.there))) (hb := by show (2 + 1) * 32 ≤ _ ∧ 2 + 1 ≤ _; omega) fun sv1 H8 hM => ?_
      have s5 := (hM.sl (v := sv1) (xs := (st22 ++ [⟨2, ⟨#[120]⟩, 1⟩] : List Ent)) (by (repeat (first | exact Has.here | apply Has.there)))).cells
      refine goM ?_
      refine l_putM T57 fun H9 hM => ?_
      refine goM ?_
      refine ⟨⟨⟨smallC, ms22, [], st22 ++ [⟨2, ⟨#[120]⟩, 1⟩]⟩, u, mv, .nils, sv1, ([(⟨w0, v0, kA, 0⟩ : MR), (⟨w1, v1, kB, 1⟩ : MR)] : List MR), _, ⟨rows_pack (hM.fact (F := pack (rowsR u rvs smallC.rows)) (by (repeat (first | exact Has.here | apply Has.there)))) hlk, hM.sl (v := mv) (xs := (([(⟨w0, v0, kA, 0⟩ : MR), (⟨w1, v1, kB, 1⟩ : MR)] : List MR) : List MR)) (by (repeat (first | exact Has.here | apply Has.there))), rfl, two_at ((mems_at (hM.fact (F := pack (mems ([(⟨w0, v0, kA, 0⟩ : MR), (⟨w1, v1, kB, 1⟩ : MR)] : List MR))) (by (repeat (first | exact Has.here | apply Has.there))))) (⟨w0, v0, kA, 0⟩ : MR) (by simp)) ((mems_at (hM.fact (F := pack (mems ([(⟨w0, v0, kA, 0⟩ : MR), (⟨w1, v1, kB, 1⟩ : MR)] : List MR))) (by (repeat (first | exact Has.here | apply Has.there))))) (⟨w1, v1, kB, 1⟩ : MR) (by simp)), .inl ⟨rfl, rfl⟩, hM.sl (v := sv1) (xs := (st22 ++ [⟨2, ⟨#[120]⟩, 1⟩] : List Ent)) (by (repeat (first | exact Has.here | apply Has.there)))⟩, fit_of sfit (two_fit fA fB) (by decide) (by decide) (by simp [st22]), bad22_12, hM.front (r := .box b6 (stC smallC u mv .nils sv1)) (by (repeat (first | exact Take.here | apply Take.there)))⟩, by simp [put_app, put_none, *]⟩
    · refine goM ?_
      refine l_sliceM evC [⟨0, 1 + d, 0, 0, 0, 0⟩] [.int .i64 0, .int .i64 (1 + d), .int .i64 0, .int .i64 0, .int .i64 0, .int .i64 0] T27 rfl T78 rfl (Cells.one (sz := 6) rfl rfl) (by decide) (hf := rfl) fun ev1 H7 hM => ?_
      have s5 := (hM.sl .here).cells
      refine goM ?_
      refine l_putM T27 fun H8 hM => ?_
      refine goM ?_
      refine ⟨⟨⟨smallC, ms22, [⟨0, 1 + d, 0, 0, 0, 0⟩], st22⟩, u, mv, ev1, sv, ([(⟨w0, v0, kA, 0⟩ : MR), (⟨w1, v1, kB, 1⟩ : MR)] : List MR), _, ⟨rows_pack (hM.fact (F := pack (rowsR u rvs smallC.rows)) (by (repeat (first | exact Has.here | apply Has.there)))) hlk, hM.sl (v := mv) (xs := (([(⟨w0, v0, kA, 0⟩ : MR), (⟨w1, v1, kB, 1⟩ : MR)] : List MR) : List MR)) (by (repeat (first | exact Has.here | apply Has.there))), rfl, two_at ((mems_at (hM.fact (F := pack (mems ([(⟨w0, v0, kA, 0⟩ : MR), (⟨w1, v1, kB, 1⟩ : MR)] : List MR))) (by (repeat (first | exact Has.here | apply Has.there))))) (⟨w0, v0, kA, 0⟩ : MR) (by simp)) ((mems_at (hM.fact (F := pack (mems ([(⟨w0, v0, kA, 0⟩ : MR), (⟨w1, v1, kB, 1⟩ : MR)] : List MR))) (by (repeat (first | exact Has.here | apply Has.there))))) (⟨w1, v1, kB, 1⟩ : MR) (by simp)), hM.sl (v := ev1) (xs := ([⟨0, 1 + d, 0, 0, 0, 0⟩] : List Ev)) (by (repeat (first | exact Has.here | apply Has.there))), hM.sl (v := sv) (xs := (st22 : List Ent)) (by (repeat (first | exact Has.here | apply Has.there)))⟩, fit_of sfit (two_fit fA fB) (by decide) (by simp) (by decide), r13, hM.front (r := .box b6 (stC smallC u mv ev1 sv)) (by (repeat (first | exact Take.here | apply Take.there)))⟩, by simp [put_app, put_none, *]⟩
    · refine goM ?_
      refine l_putM T3 fun H8 hM => ?_
      refine goM ?_
      refine ⟨⟨⟨{ smallC with total := 1 - d }, ms22, [], st22⟩, u, mv, .nils, sv, ([(⟨w0, v0, kA, 0⟩ : MR), (⟨w1, v1, kB, 1⟩ : MR)] : List MR), _, ⟨rows_pack (hM.fact (F := pack (rowsR u rvs smallC.rows)) (by (repeat (first | exact Has.here | apply Has.there)))) hlk, hM.sl (v := mv) (xs := (([(⟨w0, v0, kA, 0⟩ : MR), (⟨w1, v1, kB, 1⟩ : MR)] : List MR) : List MR)) (by (repeat (first | exact Has.here | apply Has.there))), rfl, two_at ((mems_at (hM.fact (F := pack (mems ([(⟨w0, v0, kA, 0⟩ : MR), (⟨w1, v1, kB, 1⟩ : MR)] : List MR))) (by (repeat (first | exact Has.here | apply Has.there))))) (⟨w0, v0, kA, 0⟩ : MR) (by simp)) ((mems_at (hM.fact (F := pack (mems ([(⟨w0, v0, kA, 0⟩ : MR), (⟨w1, v1, kB, 1⟩ : MR)] : List MR))) (by (repeat (first | exact Has.here | apply Has.there))))) (⟨w1, v1, kB, 1⟩ : MR) (by simp)), .inl ⟨rfl, rfl⟩, hM.sl (v := sv) (xs := (st22 : List Ent)) (by (repeat (first | exact Has.here | apply Has.there)))⟩, fit_of ⟨sfit.rows, sfit.row⟩ (two_fit fA fB) (by decide) (by decide) (by decide), r14, hM.front (r := .box b6 (stC { smallC with total := 1 - d } u mv .nils sv)) (by (repeat (first | exact Take.here | apply Take.there)))⟩, by simp [put_app, put_none, *]⟩
    · obtain ⟨be1, oe1, ie1, _, _, _, _⟩ := ent_at (hM.sl (v := sv) (xs := st22) (by (repeat (first | exact Has.here | apply Has.there)))) (k := 1) (e := ⟨1, tB, 1⟩) rfl
      replace ie1 : idxV T 57 sv 1 = some (.ptr be1 oe1) := ie1
      refine goM ?_
      obtain ⟨b', hix, hput⟩ := hM.elemAt (sz := 3) (R := entC) (v := sv) (xs := st22) (by (repeat (first | exact Has.here | apply Has.there))) T57 rfl T76 rfl (k := 1) (x := ⟨1, tB, 1⟩) rfl 1 T9 (by decide)
      replace hix : idxV T 57 sv 1 = some (.ptr b' (1 * 3)) := hix
      rw [ie1] at hix
      cases hix
      obtain ⟨H7, st, hM⟩ := hput (.str tA) ⟨1, tA, 1⟩ rfl rfl (fun cs hl hR => by rw [hR]; rfl)
      refine d_stM st ?_
      replace hM : Mem K H7 [.box b6 (stC smallC u mv .nils sv), .ro (pack (rowsR u rvs smallC.rows)), .ro (pack (mems ([(⟨w0, v0, kA, 0⟩ : MR), (⟨w1, v1, kB, 1⟩ : MR)] : List MR))), .own 6 mrC mv ([(⟨w0, v0, kA, 0⟩ : MR), (⟨w1, v1, kB, 1⟩ : MR)] : List MR), .own 6 evC .nils [], .own 3 entC sv [⟨0, tA, 1⟩, ⟨1, tA, 1⟩]] := hM
      refine goM ?_
      refine ⟨⟨⟨smallC, ms22, [], [⟨0, tA, 1⟩, ⟨1, tA, 1⟩]⟩, u, mv, .nils, sv, ([(⟨w0, v0, kA, 0⟩ : MR), (⟨w1, v1, kB, 1⟩ : MR)] : List MR), _, ⟨rows_pack (hM.fact (F := pack (rowsR u rvs smallC.rows)) (by (repeat (first | exact Has.here | apply Has.there)))) hlk, hM.sl (v := mv) (xs := (([(⟨w0, v0, kA, 0⟩ : MR), (⟨w1, v1, kB, 1⟩ : MR)] : List MR) : List MR)) (by (repeat (first | exact Has.here | apply Has.there))), rfl, two_at ((mems_at (hM.fact (F := pack (mems ([(⟨w0, v0, kA, 0⟩ : MR), (⟨w1, v1, kB, 1⟩ : MR)] : List MR))) (by (repeat (first | exact Has.here | apply Has.there))))) (⟨w0, v0, kA, 0⟩ : MR) (by simp)) ((mems_at (hM.fact (F := pack (mems ([(⟨w0, v0, kA, 0⟩ : MR), (⟨w1, v1, kB, 1⟩ : MR)] : List MR))) (by (repeat (first | exact Has.here | apply Has.there))))) (⟨w1, v1, kB, 1⟩ : MR) (by simp)), .inl ⟨rfl, rfl⟩, hM.sl (v := sv) (xs := ([⟨0, tA, 1⟩, ⟨1, tA, 1⟩] : List Ent)) (by (repeat (first | exact Has.here | apply Has.there)))⟩, fit_of sfit (two_fit fA fB) (by decide) (by decide) (by simp), bad22_15, hM.front (r := .box b6 (stC smallC u mv .nils sv)) (by (repeat (first | exact Take.here | apply Take.there)))⟩, by simp [put_app, put_none, *]⟩
  · repeat clear hM
    clear im lmm lmk lmh ie lei let_ len_ kt0 kt1 r7 r13 r14 har hcr
    rintro ρ h ⟨⟨S, u', mv', ev', sv', xs', L, hat, hSf, hbad, hM⟩, g5, g6, g7⟩
    have y1 : u'.cells = [u'] ∧ u'.isTup = false := by obtain ⟨_, h, _⟩ := hat.rows; exact h.cells
    have y2 := hat.ms.cells
    have y3 := hat.es.cells
    have y4 := hat.st.cells
    have lb : ∀ Hx, h <+: Hx → loadV T 59 Hx b6 0 = some (.agg (stC S.c u' mv' ev' sv')) := fun Hx hp => loadV_pre hp (hM.ldA .here T59 rfl (by show 0 + 12 ≤ 12; decide) rfl)
    have hK := hM.pre
    have lb1 := lb h (List.prefix_refl _)
    clear hM
    have hM := Mem.start h
    obtain ⟨_, H7, c1, sc, rfl, m1⟩ := controlScores_ h S u' mv' ev' sv' xs' hat hSf
    unfold scoresR at c1 m1
    rw [hbad, if_neg (by decide)] at c1 m1
    simp only at c1 m1
    have r8 := (m1.sl .here).cells
    have hlen := (m1.sl .here).len T30 rfl
    replace hlen : builtinP T .len [30] [sc] = some (.int .i64 0) := hlen
    refine goM ?_
    refine l_callG c1 ?_
    replace hM := hM.call1 m1
    clear c1 m1 lb1
    refine goM ?_
    obtain ⟨_, H8, c1, rv2, xv2, rfl, m0⟩ := hsm H7
    refine l_callG c1 ?_
    have hrow2 := rows_of (m0.fact .here)
    replace hM := hM.grow m0.pre
    clear c1 m0
    refine goM ?_
    obtain ⟨_, H9, c1, u2, p2, q2, rvs2, xs2, rfl, hlk2, hval2, m1⟩ := hN H8 rv2 hrow2
    refine l_callG c1 ?_
    have hat2 := st_at (s := ⟨smallC, ms22, [], st22⟩) (L := []) (by simpa using m1) hlk2 hval2
    have r5 : u2.cells = [u2] ∧ u2.isTup = false := by obtain ⟨_, h, _⟩ := hat2.rows; exact h.cells
    have r6 := hat2.ms.cells
    have r7 := hat2.st.cells
    replace hM : Mem h H9 (stOwn u2 p2 .nils q2 rvs2 xs2 ⟨smallC, ms22, [], st22⟩ ++ _) := hM.call m1
    clear c1 m1 hat2
    unfold stOwn at hM
    simp only [List.cons_append, List.nil_append] at hM
    refine goM ?_
    refine l_newM (cs := zeroSt) T59 rfl fun b10 H10 hM => ?_
    refine l_putM T59 fun H11 hM => ?_
    refine goM ?_
    refine l_sliceM entC [⟨5, ⟨#[102, 114, 101, 101]⟩, 0⟩] [.int .i64 5, .str ⟨#[102, 114, 101, 101]⟩, .int .i64 0] T57 rfl T76 rfl (cells_ents [⟨5, ⟨#[102, 114, 101, 101]⟩, 0⟩]) (by decide) fun e1 H12 hM => ?_
    refine goM ?_
    refine l_appM (hM.sl .here) (xs := st22) (hh := by (repeat (first | exact Has.here | apply Has.there))) (hb := by show (2 + 1) * 32 ≤ _ ∧ 2 + 1 ≤ _; omega) fun q3 H13 hM => ?_
    have r10 := (hM.sl (v := q3) (xs := (st22 ++ [⟨5, ⟨#[102, 114, 101, 101]⟩, 0⟩] : List Ent)) (by (repeat (first | exact Has.here | apply Has.there)))).cells
    refine goM ?_
    refine l_putM T57 fun H14 hM => ?_
    have hatG : StAt H14 u2 p2 .nils q3 xs2 ⟨smallC, ms22, [], st22 ++ [⟨5, ⟨#[102, 114, 101, 101]⟩, 0⟩]⟩ := ⟨rows_pack (hM.fact (F := pack (rowsR u2 rvs2 smallC.rows)) (by (repeat (first | exact Has.here | apply Has.there)))) hlk2, hM.sl (v := p2) (xs := xs2) (by (repeat (first | exact Has.here | apply Has.there))), hval2, mems_at (hM.fact (F := pack (mems xs2)) (by (repeat (first | exact Has.here | apply Has.there)))), .inl ⟨rfl, rfl⟩, hM.sl (v := q3) (xs := (st22 ++ [⟨5, ⟨#[102, 114, 101, 101]⟩, 0⟩] : List Ent)) (by (repeat (first | exact Has.here | apply Has.there)))⟩
    have c2 := controlMay_ H14 _ u2 p2 .nils q3 xs2 hatG gfit
    rw [good22] at c2
    have c1 := controlMay_ H14 S u' mv' ev' sv' xs' (hat.mono hM.pre) hSf
    rw [hbad] at c1
    have lb2 := lb H14 hM.pre
    clear hatG
    refine goM ?_
    refine l_callG c1 ?_
    refine goM ?_
    refine l_callG (num_ _ _) ?_
    refine goM ?_
    refine l_callG (num_ _ _) ?_
    refine goM ?_
    refine l_callG c2 ?_
    refine goM ?_
    exact end_1 (by first | exact .inl rfl | exact .inr rfl) ⟨rfl, hK.trans hM.pre⟩
end Go.Proofs.YtengdmagaeckoaaGreat.VM
