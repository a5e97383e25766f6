/- Joined texts: MembG, TrainG, MemB, MembH, MembI, MembJ, RowD, MemC, MembK, TrainH, MembL. -/
import Derived.Test.YtekifjeckbndiaaJM7
/- Chapter 20: the small config; what every program answers. -/
namespace Go.Proofs.Ytekifjeckbndiaa.VM
open Go
set_option linter.unusedVariables false
set_option linter.unusedSimpArgs false
attribute [local irreducible] wq wqL wqD wqE wqO Th Bk EndR
set_option maxHeartbeats 8000000

theorem small20_ (H : Heap) : ∃ w H', Call Try.prog 25 [] H w H' ∧ ∃ rv xv, w = .agg (cfgC smallC rv) ∧ Mem H H' [.ro (rowsFact rv xv smallC.rows)] := by
  refine call_mem fit mixed Try.func25 rfl rfl rfl (by kernel_rfl) fun hM => ?_
  refine wq_seq (wq_line ?_)
  refine l_newM (cs := zeroCfg) T26 rfl fun b0 H1 hM => ?_
  refine goM ?_
  refine l_sliceM intC [65536] [.int .i64 65536] T27 rfl T3 rfl (cells_ints [65536]) (by decide) (fun x1 H2 hM => ?_)
  have t1 := (hM.sl .here).cells
  refine goM ?_
  refine l_sliceM intC [-65536] [.int .i64 (-65536)] T27 rfl T3 rfl (cells_ints [-65536]) (by decide) (fun x2 H3 hM => ?_)
  have t2 := (hM.sl .here).cells
  refine goM ?_
  refine l_sliceM rowC [(x1, 32768), (x2, 0)] [x1, .int .i64 32768, x2, .int .i64 0] T24 rfl T64 rfl (cells_rows [(x1, 32768), (x2, 0)]) (by decide) (fun rv H4 hM => ?_)
  have t3 := (hM.sl .here).cells
  refine goM ?_
  refine l_putM T26 fun H5 hM => ?_
  refine goM ?_
  refine end_1 (by first | exact .inl rfl | exact .inr rfl) ⟨rv, [(x1, 32768), (x2, 0)], rfl, Mem.mkro hM.pre ⟨hM.slG, rfl, fun k p r hp hr => ?_⟩ fun c hc => ?_⟩
  · match k, hp, hr with
    | 0, hp, hr => cases hp; cases hr; exact ⟨hM.slG, rfl⟩
    | 1, hp, hr => cases hp; cases hr; exact ⟨hM.slG, rfl⟩
  · rcases hc with hc | ⟨q, hq, hc⟩
    · exact hM.low (.own 2 rowC rv [(x1, 32768), (x2, 0)]) (by simp) c hc
    · simp at hq
      rcases hq with rfl | rfl
      · exact hM.low (.own 1 intC x1 [65536]) (by simp) c hc
      · exact hM.low (.own 1 intC x2 [-65536]) (by simp) c hc

theorem kMay_first {c : Cfg} (hc : cfgMay c = true) (id : Int) : chkMay (firstK c id).ws (firstK c id).vs (firstK c id).r (firstK c id).m 0 = true := by
  have := first_fits hc id
  unfold memFits at this
  rw [Bool.and_eq_true] at this
  exact this.1

theorem awake20_ (K : Heap) : Call Try.prog 24 [] K (.bool true) K := by
  have hsm := small20_
  have hF : ∀ (H : Heap) (rv : V), Rows H rv smallC.rows → ∃ w H', Call Try.prog 16 [.agg (cfgC smallC rv), .int .i64 1] H w H' ∧ ∃ u1 u2, w = .tup [.agg (mC u1 u2 (firstK smallC 1) 0), .str (strOf (firstS smallC 1)), .int .i64 0] ∧ Mem H H' [.own 1 intC u2 (firstK smallC 1).vs, .own 1 intC u1 (firstK smallC 1).ws] := fun H rv hr => memberFirst_ H smallC rv 1 hr small_may (by decide)
  have hF2 : ∀ (H : Heap) (rv : V), Rows H rv smallC.rows → Call Try.prog 16 [.agg (cfgC smallC rv), .int .i64 2] H (.tup [.agg zeroMem, .str (strOf []), .int .i64 2000]) H := fun H rv hr => memberFirst_bad H smallC rv 2 hr (by decide) (fun r h => by have := small_fit.row r h; omega) (by decide +kernel)
  have hS : ∀ (H : Heap) (rv w v : V) (h : Int), Rows H rv smallC.rows → KAt H w v (firstK smallC 1) → Call Try.prog 18 [.agg (cfgC smallC rv), .agg (mC w v (firstK smallC 1) h)] H (.tup [.int .i64 (lossN smallC.i.toNat smallC.h.toNat (firstK smallC 1).ws smallC.rows), .int .i64 0]) H := fun H rv w v h hr hk => memberScore_ H smallC rv w v _ _ _ _ _ h hr hk.ws hk.vs small_may (firstK_fits small_may 1)
  have hS2 : ∀ (H : Heap) (rv : V), Rows H rv smallC.rows → Call Try.prog 18 [.agg (cfgC smallC rv), .agg zeroMem] H (.tup [.int .i64 0, .int .i64 2000]) H := fun H rv hr => memberScore_bad H smallC rv .nils .nils [] [] 0 0 0 0 hr (by decide) (fun r h => by have := small_fit.row r h; omega) (.inl ⟨rfl, rfl⟩) (.inl ⟨rfl, rfl⟩) (by decide) (by decide) (by decide +kernel)
  have hI : ∀ H : Heap, ∃ u H', Call Try.prog 54 [.agg [.int .i64 smallC.i, .int .i64 smallC.h], .int .i64 7, .int .i64 50016] H (.tup [u, .int .i64 0]) H' ∧ Mine 1 intC H H' u (firstK smallC 1).ws := fun H => refInit_ H 1 1 7 50016 (by decide) (by decide) (by decide) (by decide)
  have hH : ∀ H : Heap, Call Try.prog 55 [.int .i64 7, .int .i64 1] H (.tup [.agg [.int .i64 (firstK smallC 1).r, .int .i64 (firstK smallC 1).m], .int .i64 0]) H := fun H => refFirstHyper_ H 7 1 (by decide) (by decide)
  have hP : ∀ (H : Heap) (w v : V), KAt H w v (firstK smallC 1) → Call Try.prog 56 [.agg (kC w v (firstK smallC 1))] H (.tup [.str (strOf (firstS smallC 1)), .int .i64 0]) H := fun H w v hk => refPut_good H w v _ _ _ _ _ hk.ws hk.vs (kMay_first small_may 1)
  have hL : ∀ (H : Heap) (w rv : V), Sl 1 intC H w (firstK smallC 1).ws → Rows H rv smallC.rows → Call Try.prog 60 [.agg [.int .i64 smallC.i, .int .i64 smallC.h], w, rv] H (.tup [.int .i64 (lossN smallC.i.toNat smallC.h.toNat (firstK smallC 1).ws smallC.rows), .int .i64 0]) H := fun H w rv hw hr => by
    have hf := firstK_fits small_may 1
    unfold kFits memFits at hf
    rw [Bool.and_eq_true] at hf
    exact refLoss_ H 1 1 w rv _ _ hw hr hf.2 (cfgMay_split small_may).2.1
  have ff := kFits_fit (firstK_fits small_may 1)
  have hvz : Held ((firstK smallC 1).vs = List.replicate 4 0) := rfl
  have ht0 : Held ((firstK smallC 1).t = 0) := rfl
  generalize firstK smallC 1 = k at *
  generalize firstS smallC 1 = S at *
  generalize lossN smallC.i.toNat smallC.h.toNat k.ws smallC.rows = x at *
  generalize smallC = c at *
  refine call_pure fit mixed Try.func24 rfl rfl rfl (by kernel_rfl) rfl fun hM => ?_
  -- the program's first member
  obtain ⟨_, H1, c1, rv, xv, rfl, m0⟩ := hsm K
  obtain ⟨_, H2, c2, u1, u2, rfl, m2⟩ := hF H1 rv (rows_of (m0.fact .here))
  have s1 := (m2.sl .here).cells
  have s2 := (m2.sl (.there .here)).cells
  replace hM := (hM.grow m0.pre).call2 m2
  refine goM ?_
  refine l_callG c1 ?_
  refine goM ?_
  refine l_callG c2 ?_
  refine goM ?_
  refine l_newM (cs := zeroMem) T33 rfl fun b1 H3 hM => ?_
  refine l_putM T33 fun H4 hM => ?_
  clear c1 c2 m0 m2
  refine goM ?_
  -- its score
  obtain ⟨_, H5, c1, rv1, xv1, rfl, m0⟩ := hsm H4
  have r1 := rows_of (m0.fact .here)
  refine d_callG c1 (.inl m0.pre) ?_
  replace hM := hM.grow m0.pre
  have c2 := hS H5 rv1 u1 u2 0 r1 ⟨hM.slG, hM.slG⟩
  refine goM ?_
  refine d_call0G c2 ?_
  clear c1 c2 m0 r1
  refine goM ?_
  -- first weights
  obtain ⟨_, H6, c1, rv1, xv1, rfl, m0⟩ := hsm H5
  refine l_callG c1 ?_
  replace hM := hM.grow m0.pre
  obtain ⟨u3, H7, c2, m3⟩ := hI H6
  refine goM ?_
  refine l_callG c2 ?_
  replace hM := hM.call1 m3.mem
  have s3 := (hM.sl .here).cells
  clear c1 c2 m0 m3
  refine goM ?_
  -- the first hyper
  refine l_callG (hH H7) ?_
  refine goM ?_
  refine l_newM (cs := [.int .i64 0, .int .i64 0]) T29 rfl fun b2 H8 hM => ?_
  refine l_putM T29 fun H9 hM => ?_
  refine goM ?_
  -- the bytes
  refine l_callG (hP H9 u1 u2 ⟨hM.slG, hM.slG⟩) ?_
  refine goM ?_
  -- the loss
  obtain ⟨_, H10, c1, rv1, xv1, rfl, m0⟩ := hsm H9
  refine l_callG c1 ?_
  replace hM := hM.grow m0.pre
  clear c1 m0
  refine goM ?_
  obtain ⟨_, H11, c1, rv2, xv2, rfl, m0⟩ := hsm H10
  refine l_callG c1 ?_
  replace hM := hM.grow m0.pre
  have r1 := rows_of (m0.fact .here)
  refine goM ?_
  refine l_callG (hL H11 u3 rv2 (hM.slG) r1) ?_
  clear c1 m0 r1
  refine goM ?_
  -- no member's number
  obtain ⟨_, H12, c1, rv3, xv3, rfl, m0⟩ := hsm H11
  refine l_callG c1 ?_
  replace hM := hM.grow m0.pre
  have r1 := rows_of (m0.fact .here)
  refine goM ?_
  refine l_callG (hF2 H12 rv3 r1) ?_
  clear c1 m0 r1
  refine goM ?_
  refine l_newM (cs := zeroMem) T33 rfl fun b3 H13 hM => ?_
  refine l_putM T33 fun H14 hM => ?_
  refine goM ?_
  -- no member
  obtain ⟨_, H15, c1, rv4, xv4, rfl, m0⟩ := hsm H14
  refine l_callG c1 ?_
  replace hM := hM.grow m0.pre
  have r1 := rows_of (m0.fact .here)
  refine goM ?_
  refine l_callG (hS2 H15 rv4 r1) ?_
  clear c1 m0 r1
  refine goM ?_
  -- what came
  refine d_makeM 1 intC T27 rfl T3 (n := 4) (z := 0) rfl rfl rfl rfl rfl (by decide) fun u4 H16 hM => ?_
  replace hvz : k.vs = List.replicate 4 0 := hvz
  rw [← hvz] at hM
  clear hvz
  have s4 := (hM.sl .here).cells
  replace ht0 : k.t = 0 := ht0
  have c1 := sameK_ H16 u1 u2 u3 u4 k k ⟨hM.slG, hM.slG⟩ ⟨hM.slG, hM.slG⟩ ff
  rw [kEq_self] at c1
  simp only [kC, ht0] at c1
  rw [ht0] at *
  refine goM ?_
  refine d_call0G c1 ?_
  refine goM ?_
  refine d_call0G (num_ _ _) ?_
  refine goM ?_
  refine d_call0G (num_ _ _) ?_
  refine goM ?_
  refine d_call0G (num_ _ _) ?_
  refine goM ?_
  refine d_call0G (num_ _ _) ?_
  refine goM ?_
  exact end_1 (by first | exact .inl rfl | exact .inr rfl) ⟨rfl, hM.pre⟩
end Go.Proofs.Ytekifjeckbndiaa.VM

/- Chapter 21: what is handed in: checkpoints, configs; the statement Trains. -/
namespace Go.Proofs.Ytekifjeckbndiaa.VM
open Go
set_option linter.unusedVariables false
set_option linter.unusedSimpArgs false
attribute [local irreducible] wq wqL wqD wqE wqO Th Bk EndR
set_option maxHeartbeats 8000000

theorem Sl.map {α β : Type} {sz : Nat} {R : List V → α → Prop} {R' : List V → β → Prop} {H : Heap} {v : V} {xs : List α} (f : α → β) (h : Sl sz R H v xs) (hf : ∀ cs x, R cs x → R' cs (f x)) : Sl sz R' H v (xs.map f) := by
  rcases h with ⟨rfl, rfl⟩ | ⟨b, off, cap, t, cs, wr, rfl, h1, h2, h3, h4⟩
  · exact .inl ⟨rfl, rfl⟩
  · refine .inr ⟨b, off, cap, t, cs, wr, by rw [List.length_map], by rw [List.length_map]; exact h1, h2, by rw [List.length_map]; exact h3, fun k y hy => ?_⟩
    rw [List.getElem?_map] at hy
    cases hx : xs[k]? with
    | none => rw [hx] at hy; cases hy
    | some x => rw [hx] at hy; cases hy; exact hf _ _ (h4 k x hx)
theorem Sl.all {α : Type} {sz : Nat} {R : List V → α → Prop} {Q : α → Prop} {H : Heap} {v : V} {xs : List α} (h : Sl sz R H v xs) (hf : ∀ cs x, R cs x → Q x) : ∀ x ∈ xs, Q x := fun x hx => by
  obtain ⟨k, hk⟩ := List.mem_iff_getElem?.1 hx
  rcases h with ⟨rfl, rfl⟩ | ⟨b, off, cap, t, cs, wr, rfl, h1, h2, h3, h4⟩
  · cases hx
  · exact hf _ _ (h4 k x hk)

theorem rd_hyper {K : Heap} {D : Type} {vs : List V} {d : DataW D} (h : Rd T K 29 vs d) : ∃ a b, vs = [.int .i64 a, .int .i64 b] := by
  obtain ⟨hl, hf⟩ := h.field T29 rfl
  replace hl : vs.length = 2 := hl
  obtain ⟨x0, h0⟩ := hf 0 _ _ rfl T3
  obtain ⟨x1, h1⟩ := hf 1 _ _ rfl T3
  obtain ⟨n0, e0, _⟩ := h0.isInt T3 rfl
  obtain ⟨n1, e1, _⟩ := h1.isInt T3 rfl
  match vs, hl, e0, e1 with
  | [a, b], _, e0, e1 =>
    simp at e0 e1
    subst e0; subst e1
    exact ⟨n0, n1, rfl⟩
theorem rd_shapecells {K : Heap} {D : Type} {vs : List V} {d : DataW D} (h : Rd T K 23 vs d) : ∃ a b, vs = [.int .i64 a, .int .i64 b] := by
  obtain ⟨hl, hf⟩ := h.field T23 rfl
  replace hl : vs.length = 2 := hl
  obtain ⟨x0, h0⟩ := hf 0 _ _ rfl T3
  obtain ⟨x1, h1⟩ := hf 1 _ _ rfl T3
  obtain ⟨n0, e0, _⟩ := h0.isInt T3 rfl
  obtain ⟨n1, e1, _⟩ := h1.isInt T3 rfl
  match vs, hl, e0, e1 with
  | [a, b], _, e0, e1 =>
    simp at e0 e1
    subst e0; subst e1
    exact ⟨n0, n1, rfl⟩
theorem rd_checkcells {K : Heap} {D : Type} {vs : List V} {d : DataW D} (hr : Rd T K 31 vs d) : ∃ w u k, vs = kC w u k ∧ KAt K w u k ∧ k.Fit := by
  obtain ⟨hl, hf⟩ := hr.field T31 rfl
  replace hl : vs.length = 5 := hl
  obtain ⟨x0, h0⟩ := hf 0 _ _ rfl T27
  obtain ⟨x1, h1⟩ := hf 1 _ _ rfl T27
  obtain ⟨x2, h2⟩ := hf 2 _ _ rfl T29
  obtain ⟨x3, h3⟩ := hf 3 _ _ rfl T3
  obtain ⟨n3, e3, _⟩ := h3.isInt T3 rfl
  obtain ⟨p, q, e2⟩ := rd_hyper h2
  match vs, hl, h0, h1, e2, e3 with
  | [a, b, c, e, f], _, h0, h1, e2, e3 =>
    simp at e2 e3
    obtain ⟨rfl, rfl⟩ := e2
    subst e3
    obtain ⟨ws, s1, l1⟩ := rd_ints ⟨_, T27, .inr ⟨rfl, h0⟩⟩
    obtain ⟨us, s2, l2⟩ := rd_ints ⟨_, T27, .inr ⟨rfl, h1⟩⟩
    exact ⟨a, b, ⟨ws, us, p, q, n3⟩, rfl, ⟨s1, s2⟩, ⟨Nat.le_trans l1 (by decide), Nat.le_trans l2 (by decide)⟩⟩
theorem rd_check {K : Heap} {D : Type} {v : V} {d : DataW D} (h : RdV T K 31 v d) : ∃ w u k, v = .agg (kC w u k) ∧ KAt K w u k ∧ k.Fit := by
  obtain ⟨vs, rfl, hr⟩ := h.agg T31 rfl
  obtain ⟨w, u, k, rfl, h1, h2⟩ := rd_checkcells hr
  exact ⟨w, u, k, rfl, h1, h2⟩
def rdRowC (K : Heap) (cs : List V) (p : (V × Int) × List Int) : Prop := cs = [p.1.1, .int .i64 p.1.2] ∧ Sl 1 intC K p.1.1 p.2 ∧ p.2.length * 8 ≤ 140737488351232
theorem rd_rows {K : Heap} {D : Type} {v : V} {d : DataW D} (h : RdV T K 24 v d) : ∃ rs, Rows K v rs ∧ rs.length * 32 ≤ 140737488351232 ∧ ∀ r ∈ rs, r.1.length * 8 ≤ 140737488351232 := by
  obtain ⟨xs, h1, h2⟩ := (h.plain T24 rfl).isSlice (R := rdRowC K) T24 rfl T64 fun cs x hx => by
    obtain ⟨x, xs, y, e, e1, e2⟩ := rd_rowcells hx
    exact ⟨((x, y), xs), e, e1, Nat.le_trans e2 (by decide)⟩
  have h3 := h1.all (Q := fun p => Sl 1 intC K p.1.1 p.2 ∧ p.2.length * 8 ≤ 140737488351232) fun cs x hx => hx.2
  refine ⟨xs.map fun p => (p.2, p.1.2), ⟨xs.map (·.1), h1.map (R' := rowC) (fun p => p.1) fun cs x hx => (show rowC cs x.1 from hx.1), by simp, fun k p r hp hr => ?_⟩, by rw [List.length_map]; exact Nat.le_trans h2 (by decide), fun r hr => ?_⟩
  · rw [List.getElem?_map] at hp hr
    cases hx : xs[k]? with
    | none => rw [hx] at hp; cases hp
    | some x =>
      rw [hx] at hp hr
      cases hp; cases hr
      exact ⟨(h3 x (List.mem_iff_getElem?.2 ⟨k, hx⟩)).1, rfl⟩
  · obtain ⟨x, hx, rfl⟩ := List.mem_map.1 hr
    exact (h3 x hx).2
theorem rd_config {K : Heap} {D : Type} {v : V} {d : DataW D} (h : RdV T K 26 v d) : ∃ c rv, v = .agg (cfgC c rv) ∧ Rows K rv c.rows ∧ c.Fit := by
  obtain ⟨vs, rfl, hr⟩ := h.agg T26 rfl
  obtain ⟨hl, hf⟩ := hr.field T26 rfl
  replace hl : vs.length = 9 := hl
  obtain ⟨x0, h0⟩ := hf 0 _ _ rfl T3
  obtain ⟨x1, h1⟩ := hf 1 _ _ rfl T23
  obtain ⟨x2, h2⟩ := hf 2 _ _ rfl T24
  obtain ⟨x3, h3⟩ := hf 3 _ _ rfl T3
  obtain ⟨x4, h4⟩ := hf 4 _ _ rfl T3
  obtain ⟨x5, h5⟩ := hf 5 _ _ rfl T3
  obtain ⟨x6, h6⟩ := hf 6 _ _ rfl T3
  obtain ⟨x7, h7⟩ := hf 7 _ _ rfl T4
  obtain ⟨n0, e0, _⟩ := h0.isInt T3 rfl
  obtain ⟨n1, n2, e1⟩ := rd_shapecells h1
  obtain ⟨n3, e3, _⟩ := h3.isInt T3 rfl
  obtain ⟨n4, e4, _⟩ := h4.isInt T3 rfl
  obtain ⟨n5, e5, _⟩ := h5.isInt T3 rfl
  obtain ⟨n6, e6, _⟩ := h6.isInt T3 rfl
  obtain ⟨n7, e7⟩ := h7.isBool T4 rfl
  match vs, hl, e0, e1, h2, e3, e4, e5, e6, e7 with
  | [a0, a1, a2, a3, a4, a5, a6, a7, a8], _, e0, e1, h2, e3, e4, e5, e6, e7 =>
    simp at e0 e1 e3 e4 e5 e6 e7
    obtain ⟨rfl, rfl⟩ := e1
    subst e0; subst e3; subst e4; subst e5; subst e6; subst e7
    obtain ⟨rs, q1, q2, q3⟩ := rd_rows ⟨_, T24, .inr ⟨rfl, h2⟩⟩
    exact ⟨⟨n0, n1, n2, rs, n3, n4, n5, n6, n7⟩, a3, rfl, q1, ⟨q2, q3⟩⟩

end Go.Proofs.Ytekifjeckbndiaa.VM

/- THE SMALL MACHINE, MEMORY BY PARTS: regions in which a load may be done late. -/
namespace Go.Proofs.Ytekifjeckbndiaa.VM
open Go
set_option linter.unusedVariables false
set_option linter.unusedSimpArgs false

variable {P : Program} {T : Tab} {α β : Type}

theorem Sl.under {sz : Nat} {R : List V → α → Prop} {H : Heap} {v : V} {xs : List α} (h : Sl sz R H v xs) : v.under H.length = true := by
  rcases h with ⟨rfl, _⟩ | ⟨b, off, cap, t, cs, wr, rfl, h1, h2, _⟩
  · rfl
  · exact decide_eq_true (List.getElem?_eq_some_iff.1 h2).1

section steps
variable {ops : Array Oper} {rest : List Oper} {Q : Rho → Heap → Prop} {ρ : Rho} {h h' B : Heap} {v a w : V} {k : Nat} {d : Option Nat} {op : Op} {t t' : Nat} {p : String} {af : Array Edge} {L : List Res} {f : Res → List Res} {x y : Operand} {cs ds cs' : List V} {i ie : TI} {ps : List PendR}

theorem e_pl (hw : wqE P T ops k (⟨d, op, t, p, af, none⟩ :: rest) ps Q ρ h) : wqE P T ops k (⟨d, op, t, p, af, none⟩ :: rest) ps Q ρ h := hw
theorem e_callM {g : Nat} {args : List V} (hcall : Call P g args h v h') (hz : h <+: h') (hp : ∀ p ∈ ps, p.holds T h') (hw : wqE P T ops (k + 1) rest ps Q (ρ.put d v) h') (hc : callsWhom ρ op = some (g, args) := by exact (by simp only [callsWhom, beq_self_eq_true, bne_self_eq_false, ev_tmp, ev_const, ev_func, V.of, V.ofs, put_app, put_none, rho0_app, reduceIte, Nat.reduceEqDiff, reduceCtorEq, List.getD_cons_zero, List.getD_cons_succ, evs, optEv, evParts, Option.map_some, List.cons_append, List.nil_append, List.append_nil, List.append_assoc, Nat.zero_add, Nat.add_zero, *]; first | done | rfl)) (hl : lateAt ops k = false := by decide +kernel) : wqE P T ops k (⟨d, op, t, p, af, none⟩ :: rest) ps Q ρ h := by
  simp only [wqE]; rw [if_pos guard_no]
  refine wqO_call hc hcall (.inl hz) ⟨hp, ?_, ?_⟩
  · intro h; rw [hl] at h; cases h
  · rw [if_neg (by rw [hl]; simp)]; exact hw
theorem e_goM (hw : wqE P T ops (k + 1) rest ps Q (ρ.put d v) h) (hl : lateAt ops k = false := by decide +kernel) (hp : ∀ p ∈ ps, p.holds T h := by assumption) (hs : Does T ρ h op v h := by exact does_goM) : wqE P T ops k (⟨d, op, t, p, af, none⟩ :: rest) ps Q ρ h := e_step hl hp hs hw
theorem e_newM (hT : T t' = some i) (hz : i.zero = cs) (hw : ∀ b h', Mem B h' (.box b cs :: L) → (∀ p ∈ ps, p.holds T h') ∧ wqE P T ops (k + 1) rest ps Q (ρ.put d (.ptr b 0)) h') (hM : Mem B h L := by assumption) (hl : lateAt ops k = false := by decide +kernel) : wqE P T ops k (⟨d, .alloc t', t, p, af, none⟩ :: rest) ps Q ρ h := by
  subst hz
  have h2 := hw _ _ (hM.new i.zero)
  exact e_store hl (s_alloc hT) h2.1 h2.2
theorem e_boxM (hT : T t' = some i) (hw : ∀ b h', Mem B h' (.box b cs :: L) → (∀ p ∈ ps, p.holds T h') ∧ wqE P T ops (k + 1) rest ps Q (ρ.put d (.ptr b 0)) h') (hM : Mem B h L := by assumption) (hl : lateAt ops k = false := by decide +kernel) (hx : ρ.ev x = some a := by exact eLk) (ht : a.isTup = false := by first | rfl | simp only [*]) (hc : a.cells = cs := by exact (by first | (simp only [*]; first | done | rfl) | (simp only [V.cells]; first | done | rfl))) : wqE P T ops k (⟨d, .box t' x, t, p, af, none⟩ :: rest) ps Q ρ h := by
  have h2 := hw _ _ (hM.new cs)
  exact e_store hl (s_boxC hT hx ht hc) h2.1 h2.2
theorem e_putM {b off : Nat} (hT : T t' = some i) (hw : ∀ h', Mem B h' (f (.box b cs')) → (∀ p ∈ ps, p.holds T h') ∧ wqE P T ops (k + 1) rest ps Q (ρ.put d V.undef) h') (hM : Mem B h L := by assumption) (hl : lateAt ops k = false := by decide +kernel) (hx : ρ.ev x = some (.ptr b off) := by exact eLk) (hy : ρ.ev y = some a := by exact eLk) (hh : Has L (.box b cs) f := by (repeat (first | exact Has.here | apply Has.there)))
    (hc : a.cells = ds := by exact (by first | (simp only [*]; first | done | rfl) | (simp only [V.cells]; first | done | rfl))) (ht : a.isTup = false := by first | rfl | simp only [*]) (hl2 : ds.length = i.size := by rfl) (hn : Nat.ble (off + ds.length) cs.length = true := by rfl) (hs : setL cs off ds = cs' := by (simp only [setL, List.set_cons_zero, List.set_cons_succ, Nat.reduceAdd, Nat.zero_add]; first | done | rfl)) : wqE P T ops k (⟨d, .store t' x y, t, p, af, none⟩ :: rest) ps Q ρ h := by
  obtain ⟨H', h1, h2⟩ := hM.put hh hT hc ht hl2 (Nat.le_of_ble_eq_true hn) hs
  have h3 := hw _ h2
  exact e_store hl (s_store hx hy h1) h3.1 h3.2
theorem no_pend (h : Heap) : ∀ p ∈ ([] : List PendR), p.holds T h := fun p hp => absurd hp List.not_mem_nil
theorem one_pend {h : Heap} {q : PendR} (hq : q.holds T h) : ∀ p ∈ [q], p.holds T h := fun p hp => by rcases List.mem_singleton.1 hp with rfl; exact hq
/-- a late load of what lies in a box -/
theorem e_lateG {b off : Nat} (hq : ∀ q ∈ ps, q.holds T h) (hu : v.under h.length = true) (hw : wqE P T ops (k + 1) rest (⟨ρ, .load t' x, v⟩ :: ps) Q (ρ.put d v) h) (hl : lateAt ops k = true := by decide +kernel) (hx : ρ.ev x = some (.ptr b off) := by exact eLk) (hv : loadV T t' h b off = some v := by exact eLkM) : wqE P T ops k (⟨d, .load t' x, t, p, af, none⟩ :: rest) ps Q ρ h :=
  e_late hl hq (s_load hx hv) hu hw
/-- the load of a whole box that may be done late -/
theorem pend_boxA {b : Nat} (hM : Mem B h L) (hT : T t' = some i) (ha : i.k.agg = true) (hn : i.size = cs.length) (hh : Has L (.box b cs) f) (hx : ρ.ev x = some (.ptr b 0)) : ∀ p ∈ [(⟨ρ, .load t' x, .agg cs⟩ : PendR)], p.holds T h :=
  one_pend (pend_load hx (hM.ldA hh hT ha (by omega) (by rw [hn, List.drop_zero, List.take_length])))
end steps
/-- roads that meet again -/
theorem wq_join {a b : Code} {Q : Exit → Rho → Heap → Prop} {ρ : Rho} {h : Heap} (I : Rho → Heap → Prop) (h1 : wq P T a (Th I fun _ _ _ => False) ρ h) (h2 : ∀ ρ h, I ρ h → wq P T b Q ρ h) : wq P T (.seq a b) Q ρ h :=
  wq_seq (wq_mono a (fun x ρ h hx => by
    cases x with
    | normal => exact th_normal (h2 ρ h hx)
    | _ => exact hx.elim) h1)
theorem wq_meet {c : Code} {id : Nat} {n : Rho → Heap → Prop} {Q : Exit → Rho → Heap → Prop} {ρ : Rho} {h : Heap} (I : Rho → Heap → Prop) (h1 : wq P T c (Bk id (Th I fun _ _ _ => False)) ρ h) (h2 : ∀ ρ h, I ρ h → n ρ h) : wq P T c (Bk id (Th n Q)) ρ h :=
  wq_mono c (fun x ρ h hx => by
    cases x with
    | normal => exact bk_normal (th_normal (h2 ρ h hx))
    | exit id' =>
      simp only [Bk] at hx ⊢
      split at hx
      · rename_i e
        rw [if_pos e]; exact th_normal (h2 ρ h hx)
      · exact hx.elim
    | _ => exact hx.elim) h1
end Go.Proofs.Ytekifjeckbndiaa.VM

/- Chapter 20: members that are handed in; the statement Members. -/
namespace Go.Proofs.Ytekifjeckbndiaa.VM
open Go
set_option linter.unusedVariables false
set_option linter.unusedSimpArgs false
attribute [local irreducible] wq wqL wqD wqE wqO Th Bk EndR
set_option maxHeartbeats 8000000

theorem rd_memcells {K : Heap} {D : Type} {vs : List V} {d : DataW D} (hr : Rd T K 33 vs d) : ∃ w u k h, vs = mC w u k h ∧ KAt K w u k ∧ k.Fit := by
  obtain ⟨hl, hf⟩ := hr.field T33 rfl
  replace hl : vs.length = 6 := hl
  obtain ⟨x0, h0⟩ := hf 0 _ _ rfl T31
  obtain ⟨x1, h1⟩ := hf 1 _ _ rfl T3
  obtain ⟨n1, e1, _⟩ := h1.isInt T3 rfl
  obtain ⟨w, u, k, e0, hk, hf'⟩ := rd_checkcells h0
  match vs, hl, e0, e1 with
  | [a, b, c, e, f, g], _, e0, e1 =>
    simp at e0 e1
    obtain ⟨rfl, rfl, rfl, rfl, rfl⟩ := e0
    subst e1
    exact ⟨a, b, k, n1, rfl, hk, hf'⟩
theorem rd_member {K : Heap} {D : Type} {v : V} {d : DataW D} (h : RdV T K 33 v d) : ∃ w u k h, v = .agg (mC w u k h) ∧ KAt K w u k ∧ k.Fit := by
  obtain ⟨vs, rfl, hr⟩ := h.agg T33 rfl
  obtain ⟨w, u, k, n, rfl, h1, h2⟩ := rd_memcells hr
  exact ⟨w, u, k, n, rfl, h1, h2⟩
theorem firstKR_t (c : Cfg) (id : Int) : (firstKR c id).t = 0 := by unfold firstKR; split <;> rfl

theorem law_members {D : Type} (K : Heap) (vs : List V) (ds : List (DataW D)) (ro : Ro K) (h : RdAll T K [26, 3, 33] vs ds) : ∃ K', Call Try.prog 3 vs K (.bool true) K' := by
  obtain ⟨v1, vs, d1, ds, rfl, rfl, hv1, h⟩ := rdAll_cons h
  obtain ⟨v2, vs, d2, ds, rfl, rfl, hv2, h⟩ := rdAll_cons h
  obtain ⟨v3, vs, d3, ds, rfl, rfl, hv3, h⟩ := rdAll_cons h
  obtain ⟨rfl, rfl⟩ := rdAll_nil h
  obtain ⟨c, rv, rfl, hr, cf⟩ := rd_config hv1
  obtain ⟨id, rfl, _⟩ := hv2.int T3 rfl
  obtain ⟨w, u, k, hd, rfl, hk, kf⟩ := rd_member hv3
  clear hv1 hv2 hv3 h
  have s1 := hk.ws.cells
  have s2 := hk.vs.cells
  have s3 : rv.cells = [rv] ∧ rv.isTup = false := by obtain ⟨_, h, _⟩ := hr; exact h.cells
  have of := firstKR_fit c id
  have hF := fun H rv hr => member_First H c rv id hr cf
  have hG := fun H rv hr => ref_First H c rv id hr cf
  generalize firstKR c id = o at *
  generalize firstSR c id = S at *
  generalize firstER c id = E at *
  refine ⟨K, ?_⟩
  refine call_pure fit mixed Try.func3 rfl rfl rfl (by kernel_rfl) rfl fun hM => ?_
  refine wq_seq (wq_line ?_)
  refine l_boxM T26 fun b1 H1 hM => ?_
  refine l_boxM T33 fun b2 H2 hM => ?_
  refine goM ?_
  refine wq_late ?_
  have np := no_pend (T := T) H2
  repeat (first | (refine e_pl ?_; refine e_goM ?_) | refine e_nil ?_)
  obtain ⟨_, H3, c1, x, xv, rfl, m1⟩ := copyConfigM_ H2 c rv (hr.mono hM.pre) cf
  refine e_callM c1 m1.pre (no_pend _) ?_
  have s4 : x.cells = [x] ∧ x.isTup = false := (m1.fact .here).1.cells
  replace hM := hM.call1 m1
  clear c1 m1 np
  have np := no_pend (T := T) H3
  repeat (first | (refine e_pl ?_; refine e_goM ?_) | refine e_nil ?_)
  have kw := (hk.mono hM.pre).ws.under
  have ku := (hk.mono hM.pre).vs.under
  refine e_lateG np (v := .agg (mC w u k hd)) (by simp [V.under, V.unders, kw, ku]) ?_
  clear np
  refine e_newM (cs := zeroCfg) T26 rfl fun b3 H5 hM => ⟨?_, ?_⟩
  · exact pend_boxA hM T33 rfl rfl (by (repeat (first | exact Has.here | apply Has.there))) rfl
  refine e_newM (cs := zeroMem) T33 rfl fun b4 H6 hM => ⟨?_, ?_⟩
  · exact pend_boxA hM T33 rfl rfl (by (repeat (first | exact Has.here | apply Has.there))) rfl
  refine e_putM T26 fun H7 hM => ⟨?_, ?_⟩
  · exact pend_boxA hM T33 rfl rfl (by (repeat (first | exact Has.here | apply Has.there))) rfl
  refine e_putM T33 fun H8 hM => ⟨?_, ?_⟩
  · exact pend_boxA hM T33 rfl rfl (by (repeat (first | exact Has.here | apply Has.there))) rfl
  refine e_nil ?_
  refine goM ?_
  obtain ⟨_, H9, c2, y1, y2, rfl, m2⟩ := copyCheckM_ H8 w u k (hk.mono hM.pre) kf
  refine l_callG c2 ?_
  have s5 := (m2.sl .here).cells
  have s6 := (m2.sl (.there .here)).cells
  replace hM := hM.call2 m2
  clear c2 m2
  refine goM ?_
  refine l_putM T31 fun H10 hM => ?_
  refine goM ?_
  obtain ⟨_, H11, c1, a1, a2, rfl, m1⟩ := hF H10 x (rows_of (hM.factG))
  refine l_callG c1 ?_
  have s7 := (m1.sl .here).cells
  have s8 := (m1.sl (.there .here)).cells
  replace hM := hM.call2 m1
  clear c1 m1
  refine goM ?_
  refine l_newM (cs := zeroMem) T33 rfl fun b5 H12 hM => ?_
  refine l_putM T33 fun H13 hM => ?_
  refine goM ?_
  obtain ⟨_, H14, c1, e1, e2, rfl, m1⟩ := hG H13 rv (hr.mono hM.pre)
  refine l_callG c1 ?_
  have s9 := (m1.sl .here).cells
  have s10 := (m1.sl (.there .here)).cells
  replace hM := hM.call2 m1
  clear c1 m1
  refine goM ?_
  refine l_newM (cs := zeroMem) T33 rfl fun b6 H15 hM => ?_
  refine l_putM T33 fun H16 hM => ?_
  refine goM ?_
  have c1 := member_Score H16 c x y1 y2 k hd (rows_of (hM.factG)) ⟨hM.slG, hM.slG⟩ cf kf
  have c2 := refScoreOf_ H16 c rv w u k hd (hr.mono hM.pre) (hk.mono hM.pre) cf kf
  generalize scoreR c k = sc at *
  refine l_callG c1 ?_
  refine goM ?_
  refine l_callG c2 ?_
  clear c1 c2
  refine goM ?_
  have c1 := sameK_ H16 a1 a2 e1 e2 o o ⟨hM.slG, hM.slG⟩ ⟨hM.slG, hM.slG⟩ of
  rw [kEq_self] at c1
  refine l_callG c1 ?_
  have hsame := str_same (strOf S)
  repeat (first | (refine l_gd ?_; refine l_onG ?_; refine l_step (s_bin eLk eLk hsame) ?_) | (refine l_pl ?_; refine l_goM ?_) | (refine d_pl ?_; refine d_goM ?_) | (refine l_gd ?_; first | refine l_onG ?_ | refine l_offG ?_ | refine l_offU ?_) | (refine d_gd ?_; first | refine d_onG ?_ | refine d_offG ?_ | refine d_offU ?_) | (refine cond_pl ?_; first | refine cond_yes ?_ | refine cond_no ?_) | refine wq_seq ?_ | refine wq_line ?_ | refine wq_draw (by decide +kernel) ?_ | refine wq_block ?_ | refine l_nil ?_ | refine d_nil ?_ | refine wq_skip ?_ | refine wq_ret ?_ | refine wq_exit ?_ | refine th_normal ?_ | refine th_ret ?_ | refine th_exit ?_ | refine bk_normal ?_ | refine bk_ret ?_ | refine bk_exit ?_ | refine bk_other rfl ?_)
  refine l_callG (num_ _ _) ?_
  refine goM ?_
  refine l_callG (num_ _ _) ?_
  clear c1
  refine goM ?_
  have hM2 := (hM.front (r := .own 1 intC a2 o.vs) (by (repeat (first | exact Take.here | apply Take.there)))).front (r := .own 1 intC a1 o.ws) (by (repeat (first | exact Take.here | apply Take.there)))
  obtain ⟨_, H17, c1, rfl, hM⟩ := spoilCheckM_ K H16 _ a1 a2 o hM2 of
  refine l_callG c1 ?_
  clear c1 hM2
  refine goM ?_
  have c1 := sameConfig_ H17 c x rv (rows_of (hM.factG)) (hr.mono hM.pre) (by have := cf.rows; omega) (fun r hr => by have := cf.row r hr; omega)
  have c2 := sameK_ H17 y1 y2 w u k k ⟨hM.slG, hM.slG⟩ (hk.mono hM.pre) kf
  rw [kEq_self] at c2
  refine l_callG c1 ?_
  refine goM ?_
  refine l_callG c2 ?_
  refine goM ?_
  refine l_callG (awake20_ _) ?_
  refine goM ?_
  exact end_1 (by first | exact .inl rfl | exact .inr rfl) ⟨rfl, hM.pre⟩
end Go.Proofs.Ytekifjeckbndiaa.VM

/- Chapter 20: the statement MemberFirst. -/
namespace Go.Proofs.Ytekifjeckbndiaa.VM
open Go
set_option linter.unusedVariables false
set_option linter.unusedSimpArgs false
attribute [local irreducible] wq wqL wqD wqE wqO Th Bk EndR
set_option maxHeartbeats 8000000

theorem initL_at {i h s f k : Nat} {x : Int} (hk : (initL i h s f)[k]? = some x) : -32768 ≤ x ∧ x ≤ 32767 := by
  obtain ⟨j, _, rfl⟩ := List.mem_map.1 (List.mem_of_getElem? hk)
  have := drawN_lt s (f + j)
  unfold initK
  omega
theorem empty_same : ((strOf []).toList == ByteArray.toList ⟨#[]⟩) = true := by simp [strOf]
theorem not_id {x m : Int} (hm : 2 ≤ m ∧ m ≤ 8) (h : within x 0 (IntKind.i64.wrap (m - 1)) = false) : (decide (x < 0) || decide (x ≥ m)) = true := by
  rw [wrap_m hm, Bool.eq_false_iff, ne_eq, within_iff] at h
  simp only [Bool.or_eq_true, decide_eq_true_eq]
  omega

theorem law_memberFirst {D : Type} (K : Heap) (vs : List V) (ds : List (DataW D)) (ro : Ro K) (h : RdAll T K [26, 3] vs ds) : ∃ K', Call Try.prog 5 vs K (.bool true) K' := by
  obtain ⟨v1, vs, d1, ds, rfl, rfl, hv1, h⟩ := rdAll_cons h
  obtain ⟨v2, vs, d2, ds, rfl, rfl, hv2, h⟩ := rdAll_cons h
  obtain ⟨rfl, rfl⟩ := rdAll_nil h
  obtain ⟨c, rv, rfl, hr, cf⟩ := rd_config hv1
  obtain ⟨id, rfl, _⟩ := hv2.int T3 rfl
  clear hv1 hv2 h
  have l1 := cf.rows
  have l2 := cf.row
  have s3 : rv.cells = [rv] ∧ rv.isTup = false := by obtain ⟨_, h, _⟩ := hr; exact h.cells
  have hF := fun H rv hr => member_First H c rv id hr cf
  refine ⟨K, ?_⟩
  refine call_pure fit mixed Try.func5 rfl rfl rfl (by kernel_rfl) rfl fun hM => ?_
  refine wq_seq (wq_line ?_)
  refine l_boxM T26 fun b1 H1 hM => ?_
  refine goM ?_
  refine l_callG (awake20_ _) ?_
  refine goM ?_
  obtain ⟨_, H2, c1, a1, a2, rfl, m1⟩ := hF H1 rv (hr.mono hM.pre)
  simp only [firstKR, firstSR, firstER] at c1 m1
  cases hok : firstOk c id with
  | false =>
    simp only [hok, Bool.false_eq_true, if_false] at c1 m1
    refine l_callG c1 ?_
    have s7 := (m1.sl .here).cells
    have s8 := (m1.sl (.there .here)).cells
    replace hM := hM.call2 m1
    clear c1 m1 hF
    refine goM ?_
    refine l_newM (cs := zeroMem) T33 rfl fun b5 H3 hM => ?_
    refine l_putM T33 fun H4 hM => ?_
    refine goM ?_
    refine l_callG (num_ _ _) ?_
    have es := empty_same
    have c2 := refConfMay_ H4 c rv (hr.mono hM.pre) (by omega) (fun r h => by have := l2 r h; omega)
    have hno : ∀ q, cfgMay c = q → q = true → (decide (id < 0) || decide (id ≥ c.m)) = true := fun q hq e => by
      subst e
      have hok' := hok
      unfold firstOk at hok'
      rw [hq, Bool.true_and] at hok'
      exact not_id (cfgMay_split hq).1 hok'
    obtain ⟨q, hq⟩ : ∃ q, cfgMay c = q := ⟨_, rfl⟩
    rw [hq] at c2
    have hno := hno q hq
    clear hok hq l1 l2
    refine goM ?_
    refine l_callG c2 ?_
    cases q with
    | false =>
      clear hno
      refine goM ?_
      exact end_1 (by first | exact .inl rfl | exact .inr rfl) ⟨rfl, hM.pre⟩
    | true =>
      replace hno := hno rfl
      cases h0 : decide (id < 0) with
      | true =>
        clear hno
        refine goM ?_
        exact end_1 (by first | exact .inl rfl | exact .inr rfl) ⟨rfl, hM.pre⟩
      | false =>
        rw [h0, Bool.false_or] at hno
        refine goM ?_
        exact end_1 (by first | exact .inl rfl | exact .inr rfl) ⟨rfl, hM.pre⟩
  | true =>
    simp only [hok, if_true] at c1 m1
    obtain ⟨hc, hid⟩ := firstOk_split hok
    have hfit := firstK_fits hc id
    have kf := kFits_fit hfit
    have hmay := kMay_first hc id
    have hhy : hyperMay (firstK c id).r (firstK c id).m = true := (chkMay_split hmay).2.2.2.2.1
    have hvz : Held ((firstK c id).vs = List.replicate (firstK c id).ws.length 0) := by
      show firstV c = List.replicate (firstW c id).length 0
      unfold firstV firstW; rw [initL_len]
    have hft : fits c.i c.h (firstK c id).ws = true := by
      have := hfit
      unfold kFits memFits at this
      rw [Bool.and_eq_true] at this
      exact this.2
    have hin : ∀ (k : Nat) x, (firstK c id).ws[k]? = some x → -32768 ≤ x ∧ x ≤ 32767 := fun k x hk => initL_at hk
    have hget : ∀ H : Heap, ∃ w H', Call Try.prog 28 [.str (strOf (firstS c id))] H w H' ∧ ∃ a b, w = .tup [.agg (chkC a b (firstK c id).r (firstK c id).m 0), .int .i64 0] ∧ Mem H H' [.own 1 intC b (firstK c id).vs, .own 1 intC a (firstK c id).ws] := fun H => refGet_good H _ _ _ _ 0 hmay
    have ht0 : Held ((firstK c id).t = 0) := rfl
    have hl16 := vecMay_len (chkMay_split hmay).1
    clear hF hok hfit hmay hc hid
    generalize firstK c id = k at *
    generalize firstS c id = S at *
    obtain ⟨n, hn⟩ : ∃ n, k.ws.length = n := ⟨_, rfl⟩
    rw [hn] at hvz hl16
    refine l_callG c1 ?_
    have s7 := (m1.sl .here).cells
    have s8 := (m1.sl (.there .here)).cells
    replace hM := hM.call2 m1
    clear c1 m1
    replace ht0 : k.t = 0 := ht0
    refine goM ?_
    refine l_newM (cs := zeroMem) T33 rfl fun b5 H3 hM => ?_
    refine l_putM T33 fun H4 hM => ?_
    refine goM ?_
    refine l_callG (num_ _ _) ?_
    refine goM ?_
    have hlen := (hM.sl (.there (.there .here))).len T27 rfl
    rw [hn] at hlen
    refine wq_loop (fun m ρ hp => ∃ j : Nat, j ≤ n ∧ m = n - j ∧ hp = H4 ∧ ρ 1 = .int .i64 id ∧ ρ 2 = .ptr b1 0 ∧ ρ 5 = .ptr b5 0 ∧ ρ 6 = .str (strOf S) ∧ ρ 7 = .int .i64 0 ∧ ρ 8 = .int .i64 (j : Int)) ⟨0, Nat.zero_le _, rfl, rfl, rfl, rfl, rfl, rfl, rfl, rfl⟩ ?_
    rintro _ ρ hp ⟨j, hj, rfl, rfl, g1, g2, g5, g6, g7, g8⟩
    refine goM ?_
    refine cond_go (fun hb => ?_) (fun hb => ?_)
    · have hj' : j < n := by simpa using hb
      clear hb
      obtain ⟨x, hx⟩ : ∃ x, k.ws[j]? = some x := ⟨k.ws[j]'(by omega), by simp⟩
      obtain ⟨x0, x1⟩ := hin j x hx
      obtain ⟨b2, o2, _, hi2, rfl, _, hlo2, _⟩ := (hM.sl (.there (.there .here))).get T27 rfl T3 rfl hx
      have ho2 := loadV_one T3 rfl hlo2
      have d0 : decide (x < -32768) = false := decide_eq_false (by omega)
      have d1 : decide (x > 32767) = false := decide_eq_false (by omega)
      have hw := wrap_succ (n := j) (by omega)
      clear hlo2 hx x0 x1 hin
      refine goM ?_
      exact ⟨n - (j + 1), by omega, j + 1, hj', rfl, rfl, by simp [put_app, put_none, *]⟩
    · clear hb g8 hin
      refine goM ?_
      obtain ⟨_, H5, c1, e1, e2, rfl, m1⟩ := hget hp
      refine l_callG c1 ?_
      have s9 := (m1.sl .here).cells
      have s10 := (m1.sl (.there .here)).cells
      replace hM := hM.call2 m1
      clear c1 m1
      refine goM ?_
      refine l_newM (cs := zeroChk) T31 rfl fun b6 H6 hM => ?_
      refine l_putM T31 fun H7 hM => ?_
      refine goM ?_
      have c2 := refFits_ H7 c.i c.h a1 k.ws (hM.slG) (by omega)
      rw [hft] at c2
      refine d_call0G c2 ?_
      refine goM ?_
      have hlen := (hM.sl (v := a1) (xs := k.ws) (by (repeat (first | exact Has.here | apply Has.there)))).len T27 rfl
      rw [hn] at hlen
      refine goM ?_
      refine d_makeM 1 intC T27 rfl T3 (n := n) (z := 0) rfl rfl rfl rfl rfl ⟨by show (8 : Int) * _ ≤ _; omega, by omega⟩ fun u4 H8 hM => ?_
      replace hvz : k.vs = List.replicate n 0 := hvz
      rw [← hvz] at hM
      clear hvz
      have c3 := sameInts_ H8 a2 u4 k.vs k.vs (hM.slG) (hM.slG) (by have := kf.vs; omega)
      rw [decide_eq_true rfl] at c3
      refine goM ?_
      refine d_call0G c3 ?_
      have c4 := refHyperMay_ H8 k.r k.m
      rw [hhy] at c4
      refine goM ?_
      refine d_call0G c4 ?_
      have c5 := sameK_ H8 e1 e2 a1 a2 k k ⟨hM.slG, hM.slG⟩ ⟨hM.slG, hM.slG⟩ kf
      rw [kEq_self] at c5
      simp only [kC, ht0] at c5
      refine goM ?_
      refine d_call0G c5 ?_
      refine goM ?_
      exact end_1 (by first | exact .inl rfl | exact .inr rfl) ⟨rfl, hM.pre⟩
end Go.Proofs.Ytekifjeckbndiaa.VM

/- Chapter 20: the statement MemberScore. -/
namespace Go.Proofs.Ytekifjeckbndiaa.VM
open Go
set_option linter.unusedVariables false
set_option linter.unusedSimpArgs false
attribute [local irreducible] wq wqL wqD wqE wqO Th Bk EndR
set_option maxHeartbeats 8000000

theorem u64_rem (x : Int) : ∃ y : Int, 0 ≤ y ∧ y ≤ 32 ∧ (IntKind.u64.wrap x).tmod 33 = y := by
  have h : 0 ≤ IntKind.u64.wrap x := by
    unfold IntKind.wrap
    simp only [IntKind.bits, IntKind.signed, Bool.false_and, Bool.false_eq_true, if_false, Int.reducePow]
    omega
  have h1 := Int.tmod_lt_of_pos (IntKind.u64.wrap x) (show (0 : Int) < 33 by decide)
  have h2 := Int.tmod_nonneg 33 h
  exact ⟨_, h2, by omega, rfl⟩
/-- another hyper, another step, no velocity -/
def Chk.other (k : Chk) (r m t : Int) : Chk := ⟨k.ws, List.replicate k.ws.length 0, r, m, t⟩
theorem kFits_other {c : Cfg} {k : Chk} {r m t : Int} (h : kFits c k = true) (ht : 0 ≤ t ∧ t ≤ 32) : kFits c (k.other r m t) = hyperMay r m := by
  unfold kFits memFits at h ⊢
  rw [Bool.and_eq_true] at h
  obtain ⟨h1, h2⟩ := h
  obtain ⟨a, b, l, p, hh, _⟩ := chkMay_split h1
  have hz := zeros_vec (vecMay_len a)
  show (chkMay k.ws (List.replicate k.ws.length 0) r m t && fits c.i c.h k.ws) = _
  rw [h2, Bool.and_true]
  unfold chkMay
  simp only [alike, List.all_cons, List.all_nil, a, hz, List.length_replicate, decide_true, Bool.and_true, Bool.true_and]
  have q1 : decide (k.ws.length > 0) = true := decide_eq_true (by omega)
  have q2 : decide (t ≥ 0) = true := decide_eq_true (by omega)
  have q3 : decide (t ≤ 32) = true := decide_eq_true (by omega)
  simp [q1, q2, q3, ht]
theorem sq_in {e : Int} (he : fixMay e = true) : 0 ≤ times e e ∧ times e e ≤ 1073741824 := by
  have hm := times_may e e
  unfold fixMay at he hm
  rw [within_iff] at he hm
  refine ⟨?_, hm.2⟩
  have h0 : e * e = ((e.natAbs * e.natAbs : Nat) : Int) := by rw [Int.natCast_mul]; exact (Int.natAbs_mul_self' e).symm
  have h1 : e.natAbs * e.natAbs ≤ 1073741824 * 1073741824 := Nat.mul_le_mul (by omega) (by omega)
  have h2 : IntKind.i64.wrap (e * e) = e * e := wrap_i64 (by omega) (by omega)
  have h3 : 0 ≤ (e * e).fdiv 65536 := by rw [Int.fdiv_eq_ediv_of_nonneg _ (by decide)]; omega
  unfold times cut clip W
  rw [h2]
  split
  · omega
  · split <;> omega
theorem plus_in {a b : Int} (h1 : 0 ≤ a ∧ a ≤ 1073741824) (h2 : 0 ≤ b ∧ b ≤ 1073741824) : 0 ≤ plus a b ∧ plus a b ≤ 1073741824 := by
  unfold plus cut clip W
  rw [wrap_i64 (by omega) (by omega)]
  split
  · omega
  · split <;> omega
theorem lossN_pos (i h : Nat) (ws : List Int) (rs : List (List Int × Int)) : 0 ≤ lossN i h ws rs := by
  unfold lossN
  suffices hs : ∀ (rs : List (List Int × Int)) (a : Int), 0 ≤ a ∧ a ≤ 1073741824 → 0 ≤ rs.foldl (fun a r => plus a (times (errN i h ws r) (errN i h ws r))) a ∧ rs.foldl (fun a r => plus a (times (errN i h ws r) (errN i h ws r))) a ≤ 1073741824 from (hs rs 0 (by decide)).1
  intro rs
  induction rs with
  | nil => intro a ha; exact ha
  | cons r rs ih =>
    intro a ha
    rw [List.foldl_cons]
    exact ih _ (plus_in ha (sq_in (plus_may _ _)))

theorem law_memberScore {D : Type} (K : Heap) (vs : List V) (ds : List (DataW D)) (ro : Ro K) (h : RdAll T K [26, 33, 29, 3, 3] vs ds) : ∃ K', Call Try.prog 6 vs K (.bool true) K' := by
  obtain ⟨v1, vs, d1, ds, rfl, rfl, hv1, h⟩ := rdAll_cons h
  obtain ⟨v2, vs, d2, ds, rfl, rfl, hv2, h⟩ := rdAll_cons h
  obtain ⟨v3, vs, d3, ds, rfl, rfl, hv3, h⟩ := rdAll_cons h
  obtain ⟨v4, vs, d4, ds, rfl, rfl, hv4, h⟩ := rdAll_cons h
  obtain ⟨v5, vs, d5, ds, rfl, rfl, hv5, h⟩ := rdAll_cons h
  obtain ⟨rfl, rfl⟩ := rdAll_nil h
  obtain ⟨c, rv, rfl, hr, cf⟩ := rd_config hv1
  obtain ⟨w, u, k, hd, rfl, hk, kf⟩ := rd_member hv2
  obtain ⟨r', m', rfl⟩ : ∃ a b, v3 = .agg [.int .i64 a, .int .i64 b] := by
    obtain ⟨vs, rfl, hr⟩ := hv3.agg T29 rfl
    obtain ⟨a, b, rfl⟩ := rd_hyper hr
    exact ⟨a, b, rfl⟩
  obtain ⟨st, rfl, _⟩ := hv4.int T3 rfl
  obtain ⟨he, rfl, _⟩ := hv5.int T3 rfl
  clear hv1 hv2 hv3 hv4 hv5 h
  have s1 := hk.ws.cells
  have s2 := hk.vs.cells
  have s3 : rv.cells = [rv] ∧ rv.isTup = false := by obtain ⟨_, h, _⟩ := hr; exact h.cells
  obtain ⟨y, y0, y1, hy⟩ := u64_rem st
  have wy : IntKind.i64.wrap y = y := wrap_i64 (by omega) (by omega)
  have hlen := hk.ws.len T27 rfl
  have q1 := fun H rv hr hk => member_Score H c rv w u k hd hr hk cf kf
  obtain ⟨o1, ho1⟩ : ∃ o, scoreR c k = o := ⟨_, rfl⟩
  obtain ⟨o2, ho2⟩ : ∃ o, scoreR c (k.other r' m' y) = o := ⟨_, rfl⟩
  have kof : (k.other r' m' y).Fit := ⟨kf.ws, by have := kf.ws; simpa [Chk.other] using this⟩
  have q2 := fun H rv u' hr hk => member_Score H c rv w u' (k.other r' m' y) he hr hk cf kof
  rw [ho2] at q2
  rw [ho1] at q1
  have hlaw : (o1 = (0, 2000)) ∨ (o1.2 = 0 ∧ decide (o1.1 ≥ 0) = true ∧ ((hyperMay r' m' = false ∧ o2 = (0, 2000)) ∨ (hyperMay r' m' = true ∧ o2 = o1))) := by
    rw [← ho1, ← ho2]
    unfold scoreR
    cases hc : cfgMay c with
    | false => left; simp
    | true =>
      cases hf : kFits c k with
      | false => left; simp
      | true =>
        rw [kFits_other hf ⟨y0, y1⟩]
        right
        cases hh : hyperMay r' m' with
        | false => simp [lossN_pos]
        | true => simp [lossN_pos, Chk.other]
  clear ho1 ho2
  obtain ⟨e1, f1⟩ := o1
  obtain ⟨e2, f2⟩ := o2
  refine ⟨K, ?_⟩
  refine call_pure fit mixed Try.func6 rfl rfl rfl (by kernel_rfl) rfl fun hM => ?_
  refine wq_seq (wq_line ?_)
  refine l_boxM T26 fun b1 H1 hM => ?_
  refine l_boxM T33 fun b2 H2 hM => ?_
  refine l_boxM T29 fun b3 H3 hM => ?_
  have lw := kf.ws
  clear y0 y1
  refine goM ?_
  refine l_callG (awake20_ _) ?_
  refine goM ?_
  refine l_callG (q1 H3 rv (hr.mono hM.pre) (hk.mono hM.pre)) ?_
  refine goM ?_
  refine l_newM (cs := zeroMem) T33 rfl fun b4 H4 hM => ?_
  refine l_putM T33 fun H5 hM => ?_
  refine goM ?_
  refine l_putM T29 fun H6 hM => ?_
  refine goM ?_
  refine l_putM T3 fun H7 hM => ?_
  refine goM ?_
  refine l_makeM 1 intC T27 rfl T3 (n := k.ws.length) (z := 0) rfl rfl rfl rfl rfl ⟨by show (8 : Int) * _ ≤ _; omega, by omega⟩ fun u4 H8 hM => ?_
  have s4 := (hM.sl .here).cells
  refine goM ?_
  refine l_putM T27 fun H9 hM => ?_
  refine goM ?_
  refine l_putM T3 fun H10 hM => ?_
  refine goM ?_
  refine l_callG (q2 H10 rv u4 (hr.mono hM.pre) ⟨(hk.mono hM.pre).ws, hM.slG⟩) ?_
  clear q1 q2
  refine goM ?_
  refine l_callG (num_ _ _) ?_
  rcases hlaw with hlaw | ⟨rfl, hpos, hlaw⟩
  · cases hlaw
    refine goM ?_
    exact end_1 (by first | exact .inl rfl | exact .inr rfl) ⟨rfl, hM.pre⟩
  · refine goM ?_
    have c1 := refHyperMay_ H10 r' m'
    rcases hlaw with ⟨hh, h2⟩ | ⟨hh, h2⟩
    · cases h2
      rw [hh] at c1
      clear hh
      refine l_callG c1 ?_
      refine goM ?_
      refine l_callG (num_ _ _) ?_
      refine goM ?_
      exact end_1 (by first | exact .inl rfl | exact .inr rfl) ⟨rfl, hM.pre⟩
    · cases h2
      rw [hh] at c1
      clear hh
      refine l_callG c1 ?_
      refine goM ?_
      refine l_callG (num_ _ _) ?_
      refine goM ?_
      exact end_1 (by first | exact .inl rfl | exact .inr rfl) ⟨rfl, hM.pre⟩
end Go.Proofs.Ytekifjeckbndiaa.VM

/- Rows of data that are one's own: many parts as one. -/
namespace Go.Proofs.Ytekifjeckbndiaa.VM
open Go
set_option linter.unusedVariables false
set_option linter.unusedSimpArgs false
attribute [local irreducible] wq wqL wqD wqE wqO Th Bk EndR
set_option maxHeartbeats 8000000

/-- many parts as one -/
def pack (L : List Res) : Fact where
  S c := ∃ r ∈ L, r.lies c
  p H := (∀ r ∈ L, r.ok H) ∧ L.Pairwise fun (r s : Res) => ∀ c : Nat, r.lies c → ¬ s.lies c
  st H H' h hf := ⟨fun r hr => Res.ok_fr (h.1 r hr) fun c hc => hf c ⟨r, hr, hc⟩, h.2⟩
  lt H c h hc := by
    obtain ⟨r, hr, hc⟩ := hc
    exact Res.ok_lt (h.1 r hr) hc
theorem Mem.packed {B H : Heap} {L M : List Res} (h : Mem B H (L ++ M)) : Mem B H (.ro (pack L) :: M) := by
  obtain ⟨s1, s2, s3⟩ := List.pairwise_append.1 h.sep
  refine ⟨h.pre, fun r hr => ?_, fun r hr c hc => ?_, List.pairwise_cons.2 ⟨fun s hs c hc hc2 => ?_, s2⟩⟩
  · rcases List.mem_cons.1 hr with rfl | hr
    · exact ⟨fun r hr => h.ok r (List.mem_append_left _ hr), s1⟩
    · exact h.ok r (List.mem_append_right _ hr)
  · rcases List.mem_cons.1 hr with rfl | hr
    · obtain ⟨r, hr, hc⟩ := hc
      exact h.low r (List.mem_append_left _ hr) c hc
    · exact h.low r (List.mem_append_right _ hr) c hc
  · obtain ⟨r, hr, hc⟩ := hc
    exact s3 r hr s hs c hc hc2
theorem Mem.unpacked {B H : Heap} {L M : List Res} (h : Mem B H (.ro (pack L) :: M)) : Mem B H (L ++ M) := by
  have h0 : (pack L).p H := h.ok _ List.mem_cons_self
  obtain ⟨s1, s2⟩ := List.pairwise_cons.1 h.sep
  refine ⟨h.pre, fun r hr => ?_, fun r hr c hc => ?_, List.pairwise_append.2 ⟨h0.2, s2, fun r hr s hs c hc hc2 => s1 s hs c ⟨r, hr, hc⟩ hc2⟩⟩
  · rcases List.mem_append.1 hr with hr | hr
    · exact h0.1 r hr
    · exact h.ok r (List.mem_cons_of_mem _ hr)
  · rcases List.mem_append.1 hr with hr | hr
    · exact h.low (.ro (pack L)) List.mem_cons_self c ⟨r, hr, hc⟩
    · exact h.low r (List.mem_cons_of_mem _ hr) c hc
theorem pack_mem {H : Heap} {L : List Res} (h : (pack L).p H) : Mem [] H L := ⟨List.nil_prefix, h.1, fun _ _ _ _ => Nat.zero_le _, h.2⟩
theorem Has.nth : ∀ {L : List Res} {k : Nat} {r : Res}, L[k]? = some r → Has L r (fun x => L.set k x)
  | [], k, r, h => by simp at h
  | s :: L, 0, r, h => by simp at h; subst h; exact .here
  | s :: L, k + 1, r, h => .there (Has.nth (by simpa using h))
theorem Has.app {L M : List Res} {r : Res} {f : Res → List Res} (h : Has L r f) : Has (L ++ M) r (fun x => f x ++ M) := by
  induction h with
  | here => exact .here
  | there h ih => exact .there ih

/-- the parts of rows: the rows themselves, each one's inputs -/
def rowsP (rv : List (V × Int)) (rs : List (List Int × Int)) : List Res := List.zipWith (fun p r => Res.own 1 intC p.1 r.1) rv rs
def rowsR (u : V) (rv : List (V × Int)) (rs : List (List Int × Int)) : List Res := .own 2 rowC u rv :: rowsP rv rs
def Like (rv : List (V × Int)) (rs : List (List Int × Int)) : Prop := rv.length = rs.length ∧ ∀ (k : Nat) p r, rv[k]? = some p → rs[k]? = some r → p.2 = r.2
theorem rowsP_get {rv : List (V × Int)} {rs : List (List Int × Int)} {k : Nat} {p : V × Int} {r : List Int × Int} (hp : rv[k]? = some p) (hr : rs[k]? = some r) : (rowsP rv rs)[k]? = some (.own 1 intC p.1 r.1) := by
  unfold rowsP
  rw [List.getElem?_zipWith, hp, hr]
theorem rows_pack {H : Heap} {u : V} {rv : List (V × Int)} {rs : List (List Int × Int)} (h : (pack (rowsR u rv rs)).p H) (hl : Like rv rs) : Rows H u rs := by
  have hm := pack_mem h
  refine ⟨rv, hm.sl .here, hl.1, fun k p r hp hr => ⟨hm.sl (.there (Has.nth (rowsP_get hp hr))), hl.2 k p r hp hr⟩⟩

theorem copyRowsO_ (H : Heap) (v : V) (rs : List (List Int × Int)) (hv : Rows H v rs) (hl : rs.length < 2 ^ 42) (hx : ∀ r ∈ rs, r.1.length * 8 ≤ 2 ^ 47) :
    ∃ w H', Call Try.prog 47 [v] H w H' ∧ ∃ rv, Like rv rs ∧ Mem H H' [.ro (pack (rowsR w rv rs))] := by
  have hv0 := hv
  obtain ⟨n, hn⟩ : ∃ n, rs.length = n := ⟨_, rfl⟩
  have hlen : builtinP T .len [24] [v] = some (.int .i64 (n : Int)) := by
    obtain ⟨qv, hqv, hql, _⟩ := hv
    have := hqv.len T24 rfl
    rw [hql, hn] at this
    exact this
  refine call_mem fit mixed Try.func47 rfl rfl rfl (by kernel_rfl) fun hM => ?_
  refine goM ?_
  refine wq_loop (fun c ρ hp => ∃ (k : Nat) (u : V) (rv : List (V × Int)), k ≤ n ∧ c = n - k ∧ Like rv (rs.take k) ∧ Mem H hp (rowsR u rv (rs.take k)) ∧ ρ 0 = v ∧ ρ 3 = u ∧ ρ 4 = .int .i64 (k : Int)) ⟨0, .nils, [], Nat.zero_le _, rfl, ⟨rfl, by simp⟩, hM.nil 2 rowC, rfl, rfl, rfl⟩ ?_
  clear hM
  rintro _ ρ hp ⟨k, u, rv, hk, rfl, hlk, hM, g0, g3, g4⟩
  refine goM ?_
  refine cond_go (fun hb => ?_) (fun hb => ?_)
  · have hk' : k < n := by simpa using hb
    clear hb
    obtain ⟨⟨xs, y⟩, hrk⟩ : ∃ r, rs[k]? = some r := ⟨rs[k]'(by omega), by simp⟩
    obtain ⟨b3, o3, x, hi3, hlo3, _, _, hxs⟩ := hv0.at hrk
    replace hlo3 := loadV_pre hM.pre hlo3
    have hxl : xs.length * 8 ≤ 2 ^ 47 := hx _ (List.mem_of_getElem? hrk)
    have hw := wrap_succ (n := k) (by omega)
    have hrl : rv.length = k := by rw [hlk.1, List.length_take]; omega
    have s1 := hxs.cells
    have htk : rs.take (k + 1) = rs.take k ++ [(xs, y)] := by rw [List.take_add_one, hrk]; rfl
    replace hM := Mem.packed (M := []) (L := rowsR u rv (rs.take k)) (by simpa using hM)
    clear hrk
    refine goM ?_
    refine l_newM (cs := [.nils, .int .i64 0]) T64 rfl fun b4 H1 hM => ?_
    refine l_putM T64 fun H2 hM => ?_
    refine goM ?_
    refine l_sliceM intC [] [] T27 rfl T3 rfl (cells_ints []) (by decide) fun e1 H3 hM => ?_
    refine goM ?_
    refine l_appM (hxs.mono hM.pre) fun a H4 hM => ?_
    have s3 := (hM.sl .here).cells
    refine goM ?_
    refine l_putM T27 fun H5 hM => ?_
    refine goM ?_
    refine l_sliceM rowC [(a, y)] [a, .int .i64 y] T24 rfl T64 rfl (cells_rows [(a, y)]) (by decide) (fun e2 H6 hM => ?_)
    have hM2 : Mem H H6 (.own 2 rowC e2 [(a, y)] :: .own 2 rowC u rv :: .own 1 intC a ([] ++ xs) :: rowsP rv (rs.take k)) := by
      have h1 := hM.front (r := .ro (pack (rowsR u rv (rs.take k)))) (by (repeat (first | exact Take.here | apply Take.there)))
      have h2 := (h1.sub (L' := [.ro (pack (rowsR u rv (rs.take k))), .own 2 rowC e2 [(a, y)], .own 1 intC a ([] ++ xs)]) (by (repeat (first | exact List.Sublist.slnil | exact List.Sublist.refl _ | refine List.Sublist.cons_cons _ ?_ | refine List.Sublist.cons _ ?_)))).unpacked
      refine h2.perm ?_
      refine (List.perm_append_comm (l₁ := rowsR u rv (rs.take k))).trans ?_
      refine List.Perm.cons _ ?_
      show (Res.own 1 intC a ([] ++ xs) :: Res.own 2 rowC u rv :: rowsP rv (rs.take k)).Perm _
      exact .swap _ _ _
    clear hM
    have hM := hM2
    clear hM2
    refine goM ?_
    refine l_appM (hM.sl .here) (xs := rv) (hh := .there .here) (hb := by simp only [List.length_cons, List.length_nil]; rw [hrl]; omega) fun u' H7 hM => ?_
    refine goM ?_
    refine ⟨n - (k + 1), by omega, k + 1, u', rv ++ [(a, y)], hk', rfl, ?_, ?_, by simp [put_app, put_none, *]⟩
    · rw [htk]
      have h3 : (rs.take k).length = k := by rw [List.length_take]; omega
      refine ⟨by simp [hrl, h3], fun j p r hp hr => ?_⟩
      by_cases hj : j < k
      · rw [List.getElem?_append_left (by omega)] at hp hr
        exact hlk.2 j p r hp hr
      · rw [List.getElem?_append_right (by omega)] at hp hr
        rw [hrl] at hp
        rw [h3] at hr
        match hq : j - k, hp, hr with
        | 0, hp, hr => simp at hp hr; subst hp; subst hr; rfl
        | q + 1, hp, hr => simp at hp
    · rw [htk]
      have h3 : (rs.take k).length = k := by rw [List.length_take]; omega
      have hz : rowsP (rv ++ [(a, y)]) (rs.take k ++ [(xs, y)]) = rowsP rv (rs.take k) ++ [.own 1 intC a xs] := by
        unfold rowsP
        rw [List.zipWith_append (by omega)]; rfl
      unfold rowsR
      rw [hz]
      refine hM.drop.perm (List.Perm.cons _ ?_)
      exact List.perm_append_comm (l₁ := [Res.own 1 intC a xs]) (l₂ := rowsP rv (rs.take k))
  · have hk' : k = n := by have : ¬ k < n := by simpa using hb
                           omega
    subst hk'
    clear hb
    rw [List.take_of_length_le (by omega)] at hM hlk
    refine goM ?_
    exact end_1 (by first | exact .inl rfl | exact .inr rfl) ⟨rv, hlk, Mem.packed (M := []) (by simpa using hM)⟩

theorem copyConfigO_ (H : Heap) (c : Cfg) (v : V) (hv : Rows H v c.rows) (hf : c.Fit) : ∃ w H', Call Try.prog 14 [.agg (cfgC c v)] H w H' ∧ ∃ u rv, w = .agg (cfgC c u) ∧ Like rv c.rows ∧ Mem H H' [.ro (pack (rowsR u rv c.rows))] := by
  have l1 := hf.rows
  have l2 := hf.row
  have s0 : v.cells = [v] ∧ v.isTup = false := by obtain ⟨_, h, _⟩ := hv; exact h.cells
  refine call_mem fit mixed Try.func14 rfl rfl rfl (by kernel_rfl) fun hM => ?_
  refine wq_seq (wq_line ?_)
  refine l_boxM T26 fun b1 H1 hM => ?_
  refine l_newM (cs := zeroCfg) T26 rfl fun b2 H2 hM => ?_
  refine goM ?_
  obtain ⟨u, H3, c1, rv, hlk, m1⟩ := copyRowsO_ H2 v c.rows (hv.mono hM.pre) (by omega) (fun r hr => by have := l2 r hr; omega)
  have s1 : u.cells = [u] ∧ u.isTup = false := by obtain ⟨_, h, _⟩ := rows_pack (m1.fact .here) hlk; exact h.cells
  refine l_callG c1 ?_
  replace hM := hM.call1 m1
  refine goM ?_
  refine l_putM T24 fun H4 hM => ?_
  refine goM ?_
  refine l_putM T26 fun H5 hM => ?_
  refine goM ?_
  exact end_1 (by first | exact .inl rfl | exact .inr rfl) ⟨u, rv, rfl, hlk, hM.subG⟩
end Go.Proofs.Ytekifjeckbndiaa.VM

/- THE SMALL MACHINE, MEMORY BY PARTS: a field of an element is written. -/
namespace Go.Proofs.Ytekifjeckbndiaa.VM
open Go
set_option linter.unusedVariables false
set_option linter.unusedSimpArgs false

variable {T : Tab} {α : Type}

theorem setL_in {cs ws : List V} {k sz off : Nat} (h : k + sz ≤ cs.length) (ho : off + ws.length ≤ sz) : setL cs (k + off) ws = setL cs k (setL ((cs.drop k).take sz) off ws) := by
  apply List.ext_getElem?
  intro j
  have hl : (setL ((cs.drop k).take sz) off ws).length = sz := by rw [setL_length, List.length_take, List.length_drop]; omega
  rw [setL_get, setL_get, hl]
  by_cases h1 : k + off ≤ j ∧ j < k + off + ws.length ∧ j < cs.length
  · rw [if_pos h1, if_pos (by omega), setL_get, if_pos (by rw [List.length_take, List.length_drop]; omega)]
    congr 1; omega
  · rw [if_neg h1]
    by_cases h2 : k ≤ j ∧ j < k + sz ∧ j < cs.length
    · rw [if_pos h2, setL_get, if_neg (by rw [List.length_take, List.length_drop]; omega), List.getElem?_take, if_pos (by omega), List.getElem?_drop]
      congr 1; omega
    · rw [if_neg h2]
theorem store_row {t b off : Nat} {i : TI} {H : Heap} {cs : List V} {w : V} (hT : T t = some i) (hw : w.isTup = false) (hl : w.cells.length = i.size) (hb : H[b]? = some (.row cs true)) (hn : off + w.cells.length ≤ cs.length) : storeV T t H b off w = some (H.set b (.row (setL cs off w.cells) true)) := by
  unfold storeV
  split
  · cases hw
  · rename_i i' hT' _
    rw [hT] at hT'
    obtain rfl := Option.some.inj hT'
    rw [if_pos hl]
    unfold Heap.storeN
    rw [hb]
    simp only
    rw [if_pos hn]
  · rename_i hT'
    rw [hT] at hT'
    cases hT'
theorem own_storeAt {sz : Nat} {R : List V → α → Prop} {H : Heap} {b : Nat} {v : V} {xs : List α} (ho : Own sz R H b v xs) {t e te : Nat} {i ie it : TI} (hT : T t = some i) (hk : i.k = .slice e) (hE : T e = some ie) (hs : ie.size = sz) {k : Nat} {x : α} (hx : xs[k]? = some x) (hTe : T te = some it) {off : Nat} (hoff : off + it.size ≤ sz) {w : V} {y : α}
    (hw : w.isTup = false) (hl : w.cells.length = it.size) (hR : ∀ cs, cs.length = sz → R cs x → R (setL cs off w.cells) y) : ∃ H', storeV T te H b (k * sz + off) w = some H' ∧ Own sz R H' b v (xs.set k y) ∧ Fr b H H' := by
  have hk' : k < xs.length := (List.getElem?_eq_some_iff.1 hx).1
  have hm : (k + 1) * sz ≤ xs.length * sz := Nat.mul_le_mul_right _ hk'
  rw [Nat.add_mul, Nat.one_mul] at hm
  obtain ⟨_, h2⟩ := own_store ho hT hk hE hs hk'
  obtain ⟨cap, t', cs, rfl, g1, g2, g3, g4⟩ := ho
  have hfit : k * sz + sz ≤ cs.length := by have := g4.1; omega
  obtain ⟨el, hel⟩ : ∃ el, (cs.drop (k * sz)).take sz = el := ⟨_, rfl⟩
  have hell : el.length = sz := by rw [← hel, List.length_take, List.length_drop]; omega
  have hRx : R el x := hel ▸ g4.cell hx
  have hcl : (V.agg (setL el off w.cells)).cells.length = sz := by show (setL el off w.cells).length = sz; rw [setL_length]; exact hell
  obtain ⟨H', e1, e2, e3⟩ := h2 (.agg (setL el off w.cells)) y rfl hcl (hR el hell hRx)
  refine ⟨H', ?_, e2, e3⟩
  rw [store_row hE rfl (by rw [hcl, hs]) g2 (by rw [hcl]; exact hfit)] at e1
  rw [store_row hTe hw hl g2 (by omega), setL_in hfit (by omega), hel]
  exact e1
theorem Mem.elemAt {sz : Nat} {R : List V → α → Prop} {B H : Heap} {v : V} {xs : List α} {L : List Res} {f : Res → List Res} (h : Mem B H L) (hh : Has L (.own sz R v xs) f) {t e te : Nat} {i ie it : TI} (hT : T t = some i) (hk : i.k = .slice e) (hE : T e = some ie) (hs : ie.size = sz) {k : Nat} {x : α} (hx : xs[k]? = some x) (off : Nat) (hTe : T te = some it) (hoff : off + it.size ≤ sz) :
    ∃ b, idxV T t v (k : Int) = some (.ptr b (k * sz)) ∧ ∀ w y, w.isTup = false → w.cells.length = it.size → (∀ cs, cs.length = sz → R cs x → R (setL cs off w.cells) y) → ∃ H', storeV T te H b (k * sz + off) w = some H' ∧ Mem B H' (f (.own sz R v (xs.set k y))) := by
  have hk' : k < xs.length := (List.getElem?_eq_some_iff.1 hx).1
  rcases h.get hh with ⟨rfl, rfl⟩ | ⟨b, ho⟩
  · simp at hk'
  · obtain ⟨h1, _⟩ := own_store ho hT hk hE hs hk'
    refine ⟨b, h1, fun w y e1 e2 e3 => ?_⟩
    obtain ⟨H', g1, g2, g3⟩ := own_storeAt ho hT hk hE hs hx hTe hoff e1 e2 e3
    exact ⟨H', g1, h.turn hh g3.1 (fun c hc hne => g3.2 c hc fun e => hne (by subst e; exact ho.blk)) (.inr ⟨b, g2⟩) fun c hc => .inl hc⟩
end Go.Proofs.Ytekifjeckbndiaa.VM

/- Chapter 20: the statement MemberApart. -/
namespace Go.Proofs.Ytekifjeckbndiaa.VM
open Go
set_option linter.unusedVariables false
set_option linter.unusedSimpArgs false
attribute [local irreducible] wq wqL wqD wqE wqO Th Bk EndR
set_option maxHeartbeats 8000000

theorem rowC_len (cs : List V) (p : V × Int) (h : rowC cs p) : cs.length = 2 := by rw [h]; rfl
/-- the first row's answer is turned -/
def setY (rs : List (List Int × Int)) (y : Int) : List (List Int × Int) := match rs with
  | [] => []
  | (xs, _) :: r => (xs, y) :: r
def Cfg.else_ (c : Cfg) (y t i : Int) : Cfg := ⟨c.m, c.i, c.h, setY c.rows y, c.seed, t, i, 1, !c.pert⟩
theorem setY_len (rs : List (List Int × Int)) (y : Int) : (setY rs y).length = rs.length := by
  cases rs with
  | nil => rfl
  | cons r rs => obtain ⟨xs, z⟩ := r; rfl
theorem setY_row {rs : List (List Int × Int)} {y : Int} {p : List Int × Int → Prop} (h : ∀ r ∈ rs, p r) (hp : ∀ xs z, p (xs, z) → p (xs, y)) : ∀ r ∈ setY rs y, p r := by
  cases rs with
  | nil => simp [setY]
  | cons r rs =>
    obtain ⟨xs, z⟩ := r
    intro q hq
    rcases List.mem_cons.1 hq with rfl | hq
    · exact hp _ _ (h _ List.mem_cons_self)
    · exact h _ (List.mem_cons_of_mem _ hq)
theorem else_may {c : Cfg} {y t i : Int} (hc : cfgMay c = true) (hy : 0 ≤ y ∧ y ≤ 65535) (ht : 1 ≤ t ∧ t ≤ 32) (hi : 1 ≤ i ∧ i ≤ 8) : cfgMay (c.else_ y t i) = true := by
  have h0 := hc
  obtain ⟨hm, hl, hs, _⟩ := cfgMay_split hc
  obtain ⟨e1, e2, e3, e4⟩ := lossMay_split hl
  have hall := setY_row (y := y) (p := fun r => rowOk c.i r = true) e4 fun xs z h => by
    simp only [rowOk, Bool.and_eq_true] at h ⊢
    refine ⟨h.1, ?_⟩
    unfold fixMay
    rw [within_iff]; omega
  have hlen := setY_len c.rows y
  have hl2 : lossMay c.i c.h (setY c.rows y) = true := by
    unfold lossMay
    rw [e1, hlen, List.all_eq_true.2 hall]
    simp
    omega
  have w2 : IntKind.i64.wrap (c.m.tdiv 2) = c.m.tdiv 2 := by
    have := Int.tdiv_eq_ediv_of_nonneg (b := 2) (show 0 ≤ c.m by omega)
    rw [this, wrap_i64 (by omega) (by omega)]
  have hq : 1 ≤ c.m.tdiv 2 := by
    have := Int.tdiv_eq_ediv_of_nonneg (b := 2) (show 0 ≤ c.m by omega)
    omega
  unfold cfgMay Cfg.else_
  simp only [hl2, w2, Bool.and_true, Bool.and_eq_true, within_iff, Bool.true_and]
  refine ⟨?_, ?_⟩ <;> (try omega)
  all_goals (try (refine ⟨?_, ?_⟩ <;> omega))
theorem else_first (c : Cfg) (y t i id : Int) : firstK (c.else_ y t i) id = firstK c id ∧ firstS (c.else_ y t i) id = firstS c id := ⟨rfl, rfl⟩
theorem setY_set {rs : List (List Int × Int)} {xs : List Int} {z y : Int} (h : rs[0]? = some (xs, z)) : setY rs y = rs.set 0 (xs, y) := by
  cases rs with
  | nil => simp at h
  | cons r rs => simp at h; subst h; rfl
theorem like_set {rv : List (V × Int)} {rs : List (List Int × Int)} (h : Like rv rs) {u : V} {xs : List Int} (y : Int) : Like (rv.set 0 (u, y)) (rs.set 0 (xs, y)) := by
  refine ⟨by simpa using h.1, fun k p r hp hr => ?_⟩
  by_cases hk : 0 = k
  · subst hk
    rw [List.getElem?_set] at hp hr
    simp only [if_true] at hp hr
    split at hp
    · split at hr
      · cases hp; cases hr; rfl
      · cases hr
    · cases hp
  · rw [List.getElem?_set_ne hk] at hp hr
    exact h.2 k p r hp hr
theorem rowsP_set {rv : List (V × Int)} {rs : List (List Int × Int)} {u : V} {xs : List Int} {y z z' : Int} (hp : rv[0]? = some (u, z)) (hr : rs[0]? = some (xs, z')) : rowsP (rv.set 0 (u, y)) (rs.set 0 (xs, y)) = rowsP rv rs := by
  cases rv with
  | nil => simp at hp
  | cons p rv =>
    cases rs with
    | nil => simp at hr
    | cons r rs => simp at hp hr; subst hp; subst hr; rfl

theorem law_memberApart {D : Type} (K : Heap) (vs : List V) (ds : List (DataW D)) (ro : Ro K) (h : RdAll T K [26, 3, 3, 3] vs ds) : ∃ K', Call Try.prog 7 vs K (.bool true) K' := by
  obtain ⟨v1, vs, d1, ds, rfl, rfl, hv1, h⟩ := rdAll_cons h
  obtain ⟨v2, vs, d2, ds, rfl, rfl, hv2, h⟩ := rdAll_cons h
  obtain ⟨v3, vs, d3, ds, rfl, rfl, hv3, h⟩ := rdAll_cons h
  obtain ⟨v4, vs, d4, ds, rfl, rfl, hv4, h⟩ := rdAll_cons h
  obtain ⟨rfl, rfl⟩ := rdAll_nil h
  obtain ⟨c, rv, rfl, hr, cf⟩ := rd_config hv1
  obtain ⟨id, rfl, _⟩ := hv2.int T3 rfl
  obtain ⟨tt, rfl, _⟩ := hv3.int T3 rfl
  obtain ⟨yy, rfl, _⟩ := hv4.int T3 rfl
  clear hv1 hv2 hv3 hv4 h
  obtain ⟨y, hy, hy0, hy1⟩ := and_mask yy 65535 (by decide) (by decide)
  replace hy : IntKind.i64.wrap ((BitVec.ofInt IntKind.i64.bits yy &&& BitVec.ofInt IntKind.i64.bits 65535).toNat : Int) = y := hy
  obtain ⟨t, ht, ht0, ht1⟩ := and_mask tt 31 (by decide) (by decide)
  replace ht : IntKind.i64.wrap ((BitVec.ofInt IntKind.i64.bits tt &&& BitVec.ofInt IntKind.i64.bits 31).toNat : Int) = t := ht
  obtain ⟨i, hi, hi0, hi1⟩ := and_mask tt 7 (by decide) (by decide)
  replace hi : IntKind.i64.wrap ((BitVec.ofInt IntKind.i64.bits tt &&& BitVec.ofInt IntKind.i64.bits 7).toNat : Int) = i := hi
  have wt : IntKind.i64.wrap (1 + t) = 1 + t := wrap_i64 (by omega) (by omega)
  have wi : IntKind.i64.wrap (1 + i) = 1 + i := wrap_i64 (by omega) (by omega)
  have l1 := cf.rows
  have l2 := cf.row
  have s3 : rv.cells = [rv] ∧ rv.isTup = false := by obtain ⟨_, h, _⟩ := hr; exact h.cells
  have hF := fun H rv hr => member_First H c rv id hr cf
  have es := empty_same
  obtain ⟨n, hn⟩ : ∃ n, c.rows.length = n := ⟨_, rfl⟩
  have hlen : builtinP T .len [24] [rv] = some (.int .i64 (n : Int)) := by
    obtain ⟨qv, hqv, hql, _⟩ := hr
    have := hqv.len T24 rfl
    rw [hql, hn] at this
    exact this
  refine ⟨K, ?_⟩
  refine call_pure fit mixed Try.func7 rfl rfl rfl (by kernel_rfl) rfl fun hM => ?_
  refine wq_seq (wq_line ?_)
  refine l_boxM T26 fun b1 H1 hM => ?_
  refine goM ?_
  refine l_callG (awake20_ _) ?_
  refine goM ?_
  obtain ⟨_, H2, c1, a1, a2, rfl, m1⟩ := hF H1 rv (hr.mono hM.pre)
  simp only [firstKR, firstSR, firstER] at c1 m1
  cases hok : firstOk c id with
  | false =>
    simp only [hok, Bool.false_eq_true, if_false] at c1 m1
    refine l_callG c1 ?_
    have s7 := (m1.sl .here).cells
    have s8 := (m1.sl (.there .here)).cells
    replace hM := hM.call2 m1
    clear c1 m1 hF hok hy0 hy1 ht0 ht1 hi0 hi1 l1 l2
    refine goM ?_
    refine l_newM (cs := zeroMem) T33 rfl fun b5 H3 hM => ?_
    refine l_putM T33 fun H4 hM => ?_
    refine goM ?_
    refine l_callG (num_ _ _) ?_
    refine goM ?_
    exact end_1 (by first | exact .inl rfl | exact .inr rfl) ⟨rfl, hM.pre⟩
  | true =>
    simp only [hok, if_true] at c1 m1
    obtain ⟨hc, hid⟩ := firstOk_split hok
    have kf := kFits_fit (firstK_fits hc id)
    obtain ⟨hm2, hloss, _⟩ := cfgMay_split hc
    obtain ⟨_, hr1, hr8, _⟩ := lossMay_split hloss
    have hmay := else_may (y := y) (t := 1 + t) (i := 1 + i) hc ⟨hy0, hy1⟩ (by omega) (by omega)
    have cf2 : (c.else_ y (1 + t) (1 + i)).Fit := ⟨by show (setY c.rows y).length * 32 ≤ _; rw [setY_len]; exact l1, setY_row (p := fun r => r.1.length * 8 ≤ 140737488351232) l2 fun _ _ h => h⟩
    have hok2 : firstOk (c.else_ y (1 + t) (1 + i)) id = true := by
      unfold firstOk
      rw [hmay, Bool.true_and]
      have := hok
      unfold firstOk at this
      rw [hc, Bool.true_and] at this
      exact this
    have hF2 := fun H rv hr => member_First H (c.else_ y (1 + t) (1 + i)) rv id hr cf2
    simp only [firstKR, firstSR, firstER, hok2, if_true, else_first] at hF2
    refine l_callG c1 ?_
    have s7 := (m1.sl .here).cells
    have s8 := (m1.sl (.there .here)).cells
    replace hM := hM.call2 m1
    clear c1 m1 hF hok hok2 hloss
    generalize firstK c id = k at *
    generalize firstS c id = S at *
    have hz : decide ((n : Int) = 0) = false := decide_eq_false (by omega)
    have hz2 : ((n : Int) == 0) = false := by simp; omega
    refine goM ?_
    refine l_newM (cs := zeroMem) T33 rfl fun b5 H3 hM => ?_
    refine l_putM T33 fun H4 hM => ?_
    refine goM ?_
    refine l_callG (num_ _ _) ?_
    refine goM ?_
    obtain ⟨_, H5, c1, u, qv, rfl, hlk, m1⟩ := copyConfigO_ H4 c rv (hr.mono hM.pre) cf
    refine l_callG c1 ?_
    have hrows := rows_pack (m1.fact .here) hlk
    have s9 : u.cells = [u] ∧ u.isTup = false := by obtain ⟨_, h, _⟩ := hrows; exact h.cells
    replace hM := hM.call1 m1
    clear c1 m1
    refine goM ?_
    refine l_newM (cs := zeroCfg) T26 rfl fun b6 H6 hM => ?_
    refine l_putM T26 fun H7 hM => ?_
    -- the first row
    obtain ⟨⟨xs, z⟩, hx⟩ : ∃ x, c.rows[0]? = some x := ⟨c.rows[0]'(by omega), by simp⟩
    obtain ⟨⟨p, z'⟩, hp⟩ : ∃ x, qv[0]? = some x := ⟨qv[0]'(by have := hlk.1; omega), by simp⟩
    have hM2 : Mem K H7 (.own 2 rowC u qv :: (rowsP qv c.rows ++ [.box b6 (cfgC c u), .box b5 (mC a1 a2 k 0), .own 1 intC a2 k.vs, .own 1 intC a1 k.ws, .box b1 (cfgC c rv)])) := (hM.front (r := .ro (pack (rowsR u qv c.rows))) (by (repeat (first | exact Take.here | apply Take.there)))).unpacked
    obtain ⟨bb, hix, hput⟩ := hM2.elemAt .here T24 rfl T64 rfl hp 1 T3 (by decide)
    obtain ⟨H8, hst, hM3⟩ := hput (.int .i64 y) (p, y) rfl rfl fun cs hl hR => by
      cases hR; rfl
    have hrs := setY_set (y := y) hx
    have hlk2 : Like (qv.set 0 (p, y)) (c.else_ y (1 + t) (1 + i)).rows := by
      show Like _ (setY c.rows y)
      rw [hrs]; exact like_set hlk y
    have hpe : rowsP (qv.set 0 (p, y)) (c.else_ y (1 + t) (1 + i)).rows = rowsP qv c.rows := by
      show rowsP _ (setY c.rows y) = _
      rw [hrs]; exact rowsP_set hp hx
    rw [← hpe] at hM3
    replace hM3 : Mem K H8 (.ro (pack (rowsR u (qv.set 0 (p, y)) (c.else_ y (1 + t) (1 + i)).rows)) :: _) := Mem.packed (L := rowsR u (qv.set 0 (p, y)) (c.else_ y (1 + t) (1 + i)).rows) hM3
    replace hix : idxV T 24 u 0 = some (.ptr bb 0) := by simpa using hix
    rw [Nat.zero_mul, Nat.zero_add] at hst
    have hn2 : (c.else_ y (1 + t) (1 + i)).rows.length = n := by show (setY c.rows y).length = n; rw [setY_len]; exact hn
    clear hM2 hput hpe hrs hrows hlk hx hp hz hz2
    refine goM ?_
    refine l_stM hst ?_
    clear hM
    have hM := hM3
    clear hM3 hst
    refine goM ?_
    refine l_putM T3 fun H9 hM => ?_
    refine goM ?_
    refine l_putM T3 fun H10 hM => ?_
    refine goM ?_
    refine l_putM T3 fun H11 hM => ?_
    refine goM ?_
    refine l_putM T4 fun H12 hM => ?_
    refine goM ?_
    obtain ⟨_, H13, c1, e1, e2, rfl, m1⟩ := hF2 H12 u (rows_pack (hM.factG) hlk2)
    refine l_callG c1 ?_
    have s11 := (m1.sl .here).cells
    have s12 := (m1.sl (.there .here)).cells
    replace hM := hM.call2 m1
    clear c1 m1 hF2
    refine goM ?_
    refine l_newM (cs := zeroMem) T33 rfl fun b7 H14 hM => ?_
    refine l_putM T33 fun H15 hM => ?_
    have hsame : ((strOf S).toList == (strOf S).toList) = true := by simp
    refine goM ?_
    refine l_callG (num_ _ _) ?_
    refine goM ?_
    have c2 := sameK_ H15 a1 a2 e1 e2 k k ⟨hM.slG, hM.slG⟩ ⟨hM.slG, hM.slG⟩ kf
    rw [kEq_self] at c2
    refine l_callG c2 ?_
    clear c2
    refine goM ?_
    have c2 := refConfMay_ H15 (c.else_ y (1 + t) (1 + i)) u (rows_pack (hM.factG) hlk2) (by omega) (fun r h => by have := cf2.row r h; omega)
    rw [hmay] at c2
    refine l_callG c2 ?_
    clear c2
    refine goM ?_
    obtain ⟨_, H16, c1, qv2, xv2, rfl, m0⟩ := small20_ H15
    refine l_callG c1 ?_
    have hq2 : builtinP T .len [24] [qv2] = some (.int .i64 2) := by
      have := (m0.fact .here).1.len T24 rfl
      rw [(m0.fact .here).2.1] at this
      exact this
    replace hM := hM.grow m0.pre
    clear c1 m0
    refine goM ?_
    exact end_1 (by first | exact .inl rfl | exact .inr rfl) ⟨rfl, hM.pre⟩
end Go.Proofs.Ytekifjeckbndiaa.VM

/- Chapter 21: the statement TrainForms. -/
namespace Go.Proofs.Ytekifjeckbndiaa.VM
open Go
set_option linter.unusedVariables false
set_option linter.unusedSimpArgs false
attribute [local irreducible] wq wqL wqD wqE wqO Th Bk EndR
set_option maxHeartbeats 8000000

def Cfg.setI (c : Cfg) (x : Int) : Cfg := { c with interval := x }
def Chk.setT (k : Chk) (t : Int) : Chk := { k with t := t }
def Chk.noVs (k : Chk) : Chk := { k with vs := [] }
def Chk.more (k : Chk) : Chk := { k with ws := k.ws ++ [1], vs := k.vs ++ [1] }
theorem trainR_no {c : Cfg} {id : Int} {k : Chk} (h : trainOk c id k = false) : trainR c id k = (noChk, 2100) := by
  unfold trainR; rw [h]; rfl
theorem trainOk_cfg {c : Cfg} {id : Int} {k : Chk} (h : cfgMay c = false) : trainOk c id k = false := by unfold trainOk; rw [h]; rfl
theorem trainOk_fits {c : Cfg} {id : Int} {k : Chk} (h : kFits c k = false) : trainOk c id k = false := by unfold trainOk; rw [h, Bool.and_false]
theorem kFits_len {c : Cfg} {k : Chk} (h : kFits c k = true) : k.vs.length = k.ws.length ∧ 1 ≤ k.ws.length ∧ (k.ws.length : Int) = c.h * (c.i + 1) + c.h + 1 := by
  unfold kFits memFits at h
  rw [Bool.and_eq_true] at h
  obtain ⟨_, _, l, l1, _⟩ := chkMay_split h.1
  obtain ⟨_, _, i', h', hi', hh', _, _, _, _, hsz⟩ := fits_split h.2
  refine ⟨l, l1, ?_⟩
  rw [hsz, hi', hh', ← size_cast]
theorem cfgMay_interval {c : Cfg} {x : Int} (h : x < 1) : cfgMay { c with interval := x } = false := by
  rw [Bool.eq_false_iff]; intro hc
  obtain ⟨_, _, _, _, h1⟩ := cfgMay_split hc
  simp only at h1; omega
theorem kFits_vs {c : Cfg} {k : Chk} (h : kFits c k = true) : kFits c { k with vs := [] } = false := by
  rw [Bool.eq_false_iff]; intro hc
  have h1 := kFits_len h
  have h2 := kFits_len hc
  simp only [List.length_nil] at h2; omega
theorem kFits_more {c : Cfg} {k : Chk} (h : kFits c k = true) (x y : Int) : kFits c { k with ws := k.ws ++ [x], vs := k.vs ++ [y] } = false := by
  rw [Bool.eq_false_iff]; intro hc
  have h1 := kFits_len h
  have h2 := kFits_len hc
  simp only [List.length_append, List.length_cons, List.length_nil] at h2; omega
theorem kFits_late {c : Cfg} {k : Chk} {t : Int} (ht : 32 < t) : kFits c { k with t := t } = false := by
  rw [Bool.eq_false_iff]; intro hc
  unfold kFits memFits at hc
  rw [Bool.and_eq_true] at hc
  obtain ⟨_, _, _, _, _, _, l⟩ := chkMay_split hc.1
  simp only at l; omega

theorem more_fit {c : Cfg} {k : Chk} (h : kFits c k = true) : k.more.Fit ∧ k.ws.length ≤ 16 ∧ k.vs.length ≤ 16 := by
  unfold kFits memFits at h
  rw [Bool.and_eq_true] at h
  obtain ⟨a, b, l, _⟩ := chkMay_split h.1
  have := vecMay_len a
  have := vecMay_len b
  exact ⟨⟨by simp only [Chk.more, List.length_append, List.length_cons, List.length_nil]; omega, by simp only [Chk.more, List.length_append, List.length_cons, List.length_nil]; omega⟩, by omega, by omega⟩

end Go.Proofs.Ytekifjeckbndiaa.VM

/- Chapter 20: the statement MemberForms. -/
namespace Go.Proofs.Ytekifjeckbndiaa.VM
open Go
set_option linter.unusedVariables false
set_option linter.unusedSimpArgs false
attribute [local irreducible] wq wqL wqD wqE wqO Th Bk EndR
set_option maxHeartbeats 8000000

def Cfg.setCut (c : Cfg) (x : Int) : Cfg := { c with cutn := x }
def Cfg.noRows (c : Cfg) : Cfg := { c with rows := [] }
def Chk.less (k : Chk) : Chk := { k with ws := k.ws.drop 1 }
def Chk.setR (k : Chk) (r : Int) : Chk := { k with r := r }
theorem kFits_less {c : Cfg} {k : Chk} (h : kFits c k = true) : kFits c k.less = false := by
  rw [Bool.eq_false_iff]; intro hc
  have h1 := kFits_len h
  have h2 := kFits_len hc
  simp only [Chk.less, List.length_drop] at h2
  omega
theorem kFits_rate {c : Cfg} {k : Chk} {r : Int} (hr : 16384 < r) : kFits c (k.setR r) = false := by
  rw [Bool.eq_false_iff]; intro hc
  unfold kFits memFits at hc
  rw [Bool.and_eq_true] at hc
  have hh := (chkMay_split hc.1).2.2.2.2.1
  simp only [hyperMay, Bool.and_eq_true, within_iff, Chk.setR] at hh
  omega
theorem pair_get (a b : Int) {q : Int} (h : 0 ≤ q ∧ q ≤ 1) : ∃ (j : Nat) (x : Int), q = j ∧ [a, b][j]? = some x ∧ (x = a ∨ x = b) := by
  have : q = 0 ∨ q = 1 := by omega
  rcases this with rfl | rfl
  · exact ⟨0, a, rfl, rfl, .inl rfl⟩
  · exact ⟨1, b, rfl, rfl, .inr rfl⟩
theorem no_rows (H : Heap) : Rows H .nils [] := ⟨[], .inl ⟨rfl, rfl⟩, rfl, by simp⟩

theorem law_memberForms {D : Type} (K : Heap) (vs : List V) (ds : List (DataW D)) (ro : Ro K) (h : RdAll T K [3, 3] vs ds) : ∃ K', Call Try.prog 4 vs K (.bool true) K' := by
  obtain ⟨v1, vs, d1, ds, rfl, rfl, hv1, h⟩ := rdAll_cons h
  obtain ⟨v2, vs, d2, ds, rfl, rfl, hv2, h⟩ := rdAll_cons h
  obtain ⟨rfl, rfl⟩ := rdAll_nil h
  obtain ⟨n, rfl, _⟩ := hv1.int T3 rfl
  obtain ⟨x, rfl, _⟩ := hv2.int T3 rfl
  clear hv1 hv2 h
  obtain ⟨y, hy, hy0, hy1⟩ := and_mask x 1023 (by decide) (by decide)
  replace hy : IntKind.i64.wrap ((BitVec.ofInt IntKind.i64.bits x &&& BitVec.ofInt IntKind.i64.bits 1023).toNat : Int) = y := hy
  obtain ⟨q, hq, hq0, hq1⟩ := and_mask n 1 (by decide) (by decide)
  replace hq : IntKind.i64.wrap ((BitVec.ofInt IntKind.i64.bits n &&& BitVec.ofInt IntKind.i64.bits 1).toNat : Int) = q := hq
  obtain ⟨d, hd⟩ : ∃ d, 1 + y = d := ⟨_, rfl⟩
  have hd1 : IntKind.i64.wrap (1 + y) = d := by rw [hd]; exact wrap_i64 (by omega) (by omega)
  have w1 : IntKind.i64.wrap (0 - d) = 0 - d := wrap_i64 (by omega) (by omega)
  have w2 : IntKind.i64.wrap (1 + d) = 1 + d := wrap_i64 (by omega) (by omega)
  have w3 : IntKind.i64.wrap (32 + d) = 32 + d := wrap_i64 (by omega) (by omega)
  have w4 : IntKind.i64.wrap (16384 + d) = 16384 + d := wrap_i64 (by omega) (by omega)
  obtain ⟨j, id, hj, hid, hid2⟩ := pair_get (0 - d) (1 + d) ⟨hq0, hq1⟩
  have sm := small_may
  have sf := small_fit
  have ff := firstK_fits small_may 0
  have kf := kFits_fit ff
  obtain ⟨mf, l16w, l16v⟩ := more_fit ff
  have r0 : cfgMay (smallC.setCut 2) = false := by decide +kernel
  have r1 : kFits smallC (firstK smallC 0).less = false := kFits_less ff
  have r2 : kFits smallC (firstK smallC 0).noVs = false := kFits_vs ff
  have r3 : kFits smallC ((firstK smallC 0).setR (16384 + d)) = false := kFits_rate (by omega)
  have r4 : kFits smallC ((firstK smallC 0).setT (32 + d)) = false := kFits_late (by omega)
  have r5 : kFits smallC (firstK smallC 0).more = false := kFits_more ff 1 1
  have hlw : 1 ≤ (firstK smallC 0).ws.length := (kFits_len ff).2.1
  have hF2 : ∀ (H : Heap) (rv : V), Rows H rv smallC.rows → Call Try.prog 16 [.agg (cfgC smallC rv), .int .i64 id] H (.tup [.agg zeroMem, .str (strOf []), .int .i64 2000]) H := fun H rv hr => memberFirst_bad H smallC rv id hr (by decide) (fun r h => by have := small_fit.row r h; omega) (by
    have : within id 0 (IntKind.i64.wrap (smallC.m - 1)) = false := by
      rw [Bool.eq_false_iff, ne_eq, within_iff]
      have : IntKind.i64.wrap (smallC.m - 1) = 1 := by decide
      rw [this]
      rcases hid2 with rfl | rfl <;> omega
    rw [this, Bool.and_false])
  have hF3 : ∀ (H : Heap), Call Try.prog 16 [.agg (cfgC smallC.noRows .nils), .int .i64 0] H (.tup [.agg zeroMem, .str (strOf []), .int .i64 2000]) H := fun H => memberFirst_bad H smallC.noRows .nils 0 (no_rows H) (by decide) (fun r h => by cases h) (by decide +kernel)
  have hS : ∀ (H : Heap) (c' : Cfg) (rv w v : V) (k' : Chk), c'.Fit → k'.Fit → (cfgMay c' && kFits c' k') = false → Rows H rv c'.rows → KAt H w v k' → Call Try.prog 18 [.agg (cfgC c' rv), .agg (mC w v k' 0)] H (.tup [.int .i64 0, .int .i64 2000]) H := fun H c' rv w v k' f1 f2 hb hr hk => by
    have := member_Score H c' rv w v k' 0 hr hk f1 f2
    unfold scoreR at this
    rw [hb] at this
    exact this
  have hsm := small20_
  have hfm := fun H rv hr => refFirst_good H smallC rv 0 hr sm (by decide)
  have es := empty_same
  clear hy0 hy1 hq0 hq1 hd hid2 sm
  refine ⟨K, ?_⟩
  refine call_pure fit mixed Try.func4 rfl rfl rfl (by kernel_rfl) rfl fun hM => ?_
  have hnr : Held (cfgC smallC.noRows .nils = cfgC smallC.noRows .nils) := rfl
  have hfm : ∀ (H : Heap) (rv : V), Rows H rv smallC.rows → ∃ w H', Call Try.prog 17 [.agg (cfgC smallC rv), .int .i64 0] H w H' ∧ ∃ u1 u2, w = .tup [.agg (mC u1 u2 (firstK smallC 0) 0), .str (strOf (firstS smallC 0)), .int .i64 0] ∧ Mem H H' [.own 1 intC u2 (firstK smallC 0).vs, .own 1 intC u1 (firstK smallC 0).ws] := hfm
  generalize firstK smallC 0 = k at *
  generalize firstS smallC 0 = S at *
  generalize smallC = c at *
  refine goM ?_
  refine l_callG (awake20_ _) ?_
  refine goM ?_
  obtain ⟨_, H1, c1, rv, xv, rfl, m1⟩ := hsm K
  refine l_callG c1 ?_
  replace hM := hM.call1 m1
  have s0 : rv.cells = [rv] ∧ rv.isTup = false := (m1.fact .here).1.cells
  clear c1 m1
  refine goM ?_
  refine l_newM (cs := zeroCfg) T26 rfl fun b1 H3 hM => ?_
  refine l_putM T26 fun H4 hM => ?_
  refine goM ?_
  obtain ⟨_, H5, c1, u1, u2, rfl, m1⟩ := hfm H4 rv (rows_of (hM.factG))
  refine l_callG c1 ?_
  have s1 := (m1.sl .here).cells
  have s2 := (m1.sl (.there .here)).cells
  replace hM := hM.call2 m1
  clear c1 m1 hfm
  refine goM ?_
  refine l_newM (cs := zeroMem) T33 rfl fun b2 H6 hM => ?_
  refine l_putM T33 fun H7 hM => ?_
  refine goM ?_
  -- which
  refine wq_meet (fun ρ h => ∃ (c' : Cfg) (k' : Chk) (w v : V) (L : List Res), Mem K h (.box b2 (mC w v k' 0) :: .box b1 (cfgC c' rv) :: L) ∧ KAt h w v k' ∧ Rows h rv c'.rows ∧ c'.Fit ∧ k'.Fit ∧ Held ((cfgMay c' && kFits c' k') = false) ∧ ρ 0 = .int .i64 n ∧ ρ 5 = .int .i64 d ∧ ρ 6 = .ptr b1 0 ∧ ρ 7 = .ptr b2 0) ?_ ?_
  · refine cond_go (fun hb => ?_) (fun hb => ?_)
    · clear hb
      refine goM ?_
      refine l_putM T3 fun H8 hM => ?_
      refine goM ?_
      have hM2 := hM.front (r := .box b1 (cfgC (c.setCut 2) rv)) (by (repeat (first | exact Take.here | apply Take.there)))
      have hM3 := hM2.front (r := .box b2 (mC u1 u2 k 0)) (by (repeat (first | exact Take.here | apply Take.there)))
      exact ⟨c.setCut 2, k, u1, u2, _, hM3, ⟨hM.slG, hM.slG⟩, rows_of (hM.factG), ⟨sf.rows, sf.row⟩, kf, (by rw [r0]; rfl : (cfgMay (c.setCut 2) && _) = false), rfl, by simp [put_app, put_none, *]⟩
    clear hb
    refine goM ?_
    refine cond_go (fun hb => ?_) (fun hb => ?_)
    · clear hb
      obtain ⟨u, hsu, hsl⟩ := (hM.sl (v := u1) (xs := k.ws) (by (repeat (first | exact Has.here | apply Has.there)))).rest (l := 1) hlw
      replace hsu : sliceV 1 u1 (some (.int .i64 1)) none none = some u := hsu
      have s5 := hsl.cells
      clear hsl
      refine goM ?_
      refine l_putM T27 fun H8 hM => ?_
      obtain ⟨u', hsu', hsl⟩ := (hM.sl (v := u1) (xs := k.ws) (by (repeat (first | exact Has.here | apply Has.there)))).rest (l := 1) hlw
      replace hsu' : sliceV 1 u1 (some (.int .i64 1)) none none = some u' := hsu'
      obtain rfl : u = u' := Option.some.inj (hsu.symm.trans hsu')
      clear hsu'
      refine goM ?_
      have hM2 := hM.front (r := .box b1 (cfgC c rv)) (by (repeat (first | exact Take.here | apply Take.there)))
      have hM3 := hM2.front (r := .box b2 (mC u u2 k.less 0)) (by (repeat (first | exact Take.here | apply Take.there)))
      exact ⟨c, k.less, u, u2, _, hM3, ⟨hsl, hM.slG⟩, rows_of (hM.factG), sf, ⟨by have := kf.ws; simp only [Chk.less, List.length_drop]; omega, kf.vs⟩, (by rw [r1, Bool.and_false] : (_ && kFits c k.less) = false), rfl, by simp [put_app, put_none, *]⟩
    clear hb
    refine goM ?_
    refine cond_go (fun hb => ?_) (fun hb => ?_)
    · clear hb
      refine goM ?_
      refine l_putM T27 fun H8 hM => ?_
      refine goM ?_
      have hM2 := hM.front (r := .box b1 (cfgC c rv)) (by (repeat (first | exact Take.here | apply Take.there)))
      have hM3 := hM2.front (r := .box b2 (mC u1 .nils k.noVs 0)) (by (repeat (first | exact Take.here | apply Take.there)))
      exact ⟨c, k.noVs, u1, .nils, _, hM3, ⟨hM.slG, .inl ⟨rfl, rfl⟩⟩, rows_of (hM.factG), sf, ⟨kf.ws, by simp [Chk.noVs]⟩, (by rw [r2, Bool.and_false] : (_ && kFits c k.noVs) = false), rfl, by simp [put_app, put_none, *]⟩
    clear hb
    refine goM ?_
    refine cond_go (fun hb => ?_) (fun hb => ?_)
    · clear hb
      refine goM ?_
      refine l_putM T3 fun H8 hM => ?_
      refine goM ?_
      have hM2 := hM.front (r := .box b1 (cfgC c rv)) (by (repeat (first | exact Take.here | apply Take.there)))
      have hM3 := hM2.front (r := .box b2 (mC u1 u2 (k.setR (16384 + d)) 0)) (by (repeat (first | exact Take.here | apply Take.there)))
      exact ⟨c, k.setR (16384 + d), u1, u2, _, hM3, ⟨hM.slG, hM.slG⟩, rows_of (hM.factG), sf, ⟨kf.ws, kf.vs⟩, (by rw [r3, Bool.and_false] : (_ && kFits c (k.setR (16384 + d))) = false), rfl, by simp [put_app, put_none, *]⟩
    clear hb
    refine goM ?_
    refine cond_go (fun hb => ?_) (fun hb => ?_)
    · clear hb
      refine goM ?_
      refine l_putM T3 fun H8 hM => ?_
      refine goM ?_
      have hM2 := hM.front (r := .box b1 (cfgC c rv)) (by (repeat (first | exact Take.here | apply Take.there)))
      have hM3 := hM2.front (r := .box b2 (mC u1 u2 (k.setT (32 + d)) 0)) (by (repeat (first | exact Take.here | apply Take.there)))
      exact ⟨c, k.setT (32 + d), u1, u2, _, hM3, ⟨hM.slG, hM.slG⟩, rows_of (hM.factG), sf, ⟨kf.ws, kf.vs⟩, (by rw [r4, Bool.and_false] : (_ && kFits c (k.setT (32 + d))) = false), rfl, by simp [put_app, put_none, *]⟩
    clear hb
    refine goM ?_
    refine l_sliceM intC [1] [.int .i64 1] T27 rfl T3 rfl (cells_ints [1]) (by decide) (fun e1 H8 hM => ?_)
    refine goM ?_
    refine l_appM (hM.sl .here) (xs := k.ws) (hh := by (repeat (first | exact Has.here | apply Has.there))) (hb := by simp only [List.length_cons, List.length_nil]; omega) fun a1 H9 hM => ?_
    have s5 := (hM.sl (v := a1) (xs := k.ws ++ [1]) (by (repeat (first | exact Has.here | apply Has.there)))).cells
    refine goM ?_
    refine l_putM T27 fun H10 hM => ?_
    refine goM ?_
    refine l_sliceM intC [1] [.int .i64 1] T27 rfl T3 rfl (cells_ints [1]) (by decide) (fun e2 H11 hM => ?_)
    refine goM ?_
    refine l_appM (hM.sl .here) (xs := k.vs) (hh := by (repeat (first | exact Has.here | apply Has.there))) (hb := by simp only [List.length_cons, List.length_nil]; omega) fun a2 H12 hM => ?_
    have s6 := (hM.sl (v := a2) (xs := k.vs ++ [1]) (by (repeat (first | exact Has.here | apply Has.there)))).cells
    refine goM ?_
    refine l_putM T27 fun H13 hM => ?_
    refine goM ?_
    have hM2 := hM.front (r := .box b1 (cfgC c rv)) (by (repeat (first | exact Take.here | apply Take.there)))
    have hM3 := hM2.front (r := .box b2 (mC a1 a2 k.more 0)) (by (repeat (first | exact Take.here | apply Take.there)))
    exact ⟨c, k.more, a1, a2, _, hM3, ⟨hM.slG, hM.slG⟩, rows_of (hM.factG), sf, mf, (by rw [r5, Bool.and_false] : (_ && kFits c k.more) = false), rfl, by simp [put_app, put_none, *]⟩
  · clear hM r0 r1 r2 r3 r4 r5 s1 s2
    rintro ρ h ⟨c', k', w, v, L, hM, hk, hr, f1, f2, hbad, g0, g5, g6, g7⟩
    have s1 := hk.ws.cells
    have s2 := hk.vs.cells
    refine goM ?_
    refine l_callG (hS h c' rv w v k' f1 f2 hbad hr hk) ?_
    clear hS hbad hr hk f1 f2
    refine goM ?_
    obtain ⟨_, H8, c1, rv1, xv1, rfl, m1⟩ := hsm h
    refine d_callG c1 (.inl m1.pre) ?_
    replace hM := hM.call1 m1
    have hr1 := rows_of (m1.fact .here)
    clear c1 m1
    refine goM ?_
    refine d_sliceM intC [0 - d, 1 + d] [.int .i64 (0 - d), .int .i64 (1 + d)] T27 rfl T3 rfl (cells_ints [0 - d, 1 + d]) (by decide) (fun e1 H9 hM => ?_)
    obtain ⟨b3, o3, _, hi3, rfl, _, hlo3, _⟩ := (hM.sl .here).get T27 rfl T3 rfl hid
    have ho3 := loadV_one T3 rfl hlo3
    clear hlo3 hid
    refine goM ?_
    refine d_call0G (hF2 H9 rv1 (rows_of (hM.factG))) ?_
    refine goM ?_
    refine d_newM (cs := zeroMem) T33 rfl fun b4 H10 hM => ?_
    refine d_putM T33 fun H11 hM => ?_
    refine goM ?_
    obtain ⟨_, H12, c1, rv2, xv2, rfl, m1⟩ := hsm H11
    refine l_callG c1 ?_
    replace hM := hM.call1 m1
    have s3 : rv2.cells = [rv2] ∧ rv2.isTup = false := (m1.fact .here).1.cells
    clear c1 m1
    refine goM ?_
    refine l_newM (cs := zeroCfg) T26 rfl fun b5 H13 hM => ?_
    refine l_putM T26 fun H14 hM => ?_
    refine goM ?_
    refine l_putM T24 fun H15 hM => ?_
    refine goM ?_
    refine l_callG (hF3 H15) ?_
    refine goM ?_
    refine l_newM (cs := zeroMem) T33 rfl fun b6 H16 hM => ?_
    refine l_putM T33 fun H17 hM => ?_
    refine goM ?_
    refine l_callG (num_ _ _) ?_
    refine goM ?_
    have c1 := sameK_ H17 .nils .nils .nils .nils noChk noChk ⟨.inl ⟨rfl, rfl⟩, .inl ⟨rfl, rfl⟩⟩ ⟨.inl ⟨rfl, rfl⟩, .inl ⟨rfl, rfl⟩⟩ ⟨by simp, by simp⟩
    rw [kEq_self] at c1
    refine l_callG c1 ?_
    refine goM ?_
    refine l_callG (num_ _ _) ?_
    refine goM ?_
    refine l_callG (num_ _ _) ?_
    refine goM ?_
    refine l_callG (refFixMay_ _ _) ?_
    have hfx : fixMay 0 = true := by decide
    refine goM ?_
    exact end_1 (by first | exact .inl rfl | exact .inr rfl) ⟨rfl, hM.pre⟩
end Go.Proofs.Ytekifjeckbndiaa.VM
