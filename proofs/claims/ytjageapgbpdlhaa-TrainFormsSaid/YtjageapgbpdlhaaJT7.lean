/- Joined texts: TrainG, TrainI, TrainH, TrainJ. -/
import Derived.Test.YtjageapgbpdlhaaJT6
/- Chapter 21: what is handed in: checkpoints, configs; the statement Trains. -/
namespace Go.Proofs.Ytjageapgbpdlhaa.VM
open Go
set_option linter.unusedVariables false
set_option linter.unusedSimpArgs false
attribute [local irreducible] wq wqL wqD wqE wqO Th Bk EndR
set_option maxHeartbeats 8000000

theorem Sl.map {α β : Type} {sz : Nat} {R : List V → α → Prop} {R' : List V → β → Prop} {H : Heap} {v : V} {xs : List α} (f : α → β) (h : Sl sz R H v xs) (hf : ∀ cs x, R cs x → R' cs (f x)) : Sl sz R' H v (xs.map f) := by
  rcases h with ⟨rfl, rfl⟩ | ⟨b, off, cap, t, cs, wr, rfl, h1, h2, h3, h4⟩
  · exact .inl ⟨rfl, rfl⟩
  · refine .inr ⟨b, off, cap, t, cs, wr, by rw [List.length_map], by rw [List.length_map]; exact h1, h2, by rw [List.length_map]; exact h3, fun k y hy => ?_⟩
    rw [List.getElem?_map] at hy
    cases hx : xs[k]? with
    | none => rw [hx] at hy; cases hy
    | some x => rw [hx] at hy; cases hy; exact hf _ _ (h4 k x hx)
theorem Sl.all {α : Type} {sz : Nat} {R : List V → α → Prop} {Q : α → Prop} {H : Heap} {v : V} {xs : List α} (h : Sl sz R H v xs) (hf : ∀ cs x, R cs x → Q x) : ∀ x ∈ xs, Q x := fun x hx => by
  obtain ⟨k, hk⟩ := List.mem_iff_getElem?.1 hx
  rcases h with ⟨rfl, rfl⟩ | ⟨b, off, cap, t, cs, wr, rfl, h1, h2, h3, h4⟩
  · cases hx
  · exact hf _ _ (h4 k x hk)

theorem rd_hyper {K : Heap} {D : Type} {vs : List V} {d : DataW D} (h : Rd T K 54 vs d) : ∃ a b, vs = [.int .i64 a, .int .i64 b] := by
  obtain ⟨hl, hf⟩ := h.field T54 rfl
  replace hl : vs.length = 2 := hl
  obtain ⟨x0, h0⟩ := hf 0 _ _ rfl T3
  obtain ⟨x1, h1⟩ := hf 1 _ _ rfl T3
  obtain ⟨n0, e0, _⟩ := h0.isInt T3 rfl
  obtain ⟨n1, e1, _⟩ := h1.isInt T3 rfl
  match vs, hl, e0, e1 with
  | [a, b], _, e0, e1 =>
    simp at e0 e1
    subst e0; subst e1
    exact ⟨n0, n1, rfl⟩
theorem rd_shapecells {K : Heap} {D : Type} {vs : List V} {d : DataW D} (h : Rd T K 23 vs d) : ∃ a b, vs = [.int .i64 a, .int .i64 b] := by
  obtain ⟨hl, hf⟩ := h.field T23 rfl
  replace hl : vs.length = 2 := hl
  obtain ⟨x0, h0⟩ := hf 0 _ _ rfl T3
  obtain ⟨x1, h1⟩ := hf 1 _ _ rfl T3
  obtain ⟨n0, e0, _⟩ := h0.isInt T3 rfl
  obtain ⟨n1, e1, _⟩ := h1.isInt T3 rfl
  match vs, hl, e0, e1 with
  | [a, b], _, e0, e1 =>
    simp at e0 e1
    subst e0; subst e1
    exact ⟨n0, n1, rfl⟩
theorem rd_checkcells {K : Heap} {D : Type} {vs : List V} {d : DataW D} (hr : Rd T K 56 vs d) : ∃ w u k, vs = kC w u k ∧ KAt K w u k ∧ k.Fit := by
  obtain ⟨hl, hf⟩ := hr.field T56 rfl
  replace hl : vs.length = 5 := hl
  obtain ⟨x0, h0⟩ := hf 0 _ _ rfl T24
  obtain ⟨x1, h1⟩ := hf 1 _ _ rfl T24
  obtain ⟨x2, h2⟩ := hf 2 _ _ rfl T54
  obtain ⟨x3, h3⟩ := hf 3 _ _ rfl T3
  obtain ⟨n3, e3, _⟩ := h3.isInt T3 rfl
  obtain ⟨p, q, e2⟩ := rd_hyper h2
  match vs, hl, h0, h1, e2, e3 with
  | [a, b, c, e, f], _, h0, h1, e2, e3 =>
    simp at e2 e3
    obtain ⟨rfl, rfl⟩ := e2
    subst e3
    obtain ⟨ws, s1, l1⟩ := rd_ints ⟨_, T24, .inr ⟨rfl, h0⟩⟩
    obtain ⟨us, s2, l2⟩ := rd_ints ⟨_, T24, .inr ⟨rfl, h1⟩⟩
    exact ⟨a, b, ⟨ws, us, p, q, n3⟩, rfl, ⟨s1, s2⟩, ⟨Nat.le_trans l1 (by decide), Nat.le_trans l2 (by decide)⟩⟩
theorem rd_check {K : Heap} {D : Type} {v : V} {d : DataW D} (h : RdV T K 56 v d) : ∃ w u k, v = .agg (kC w u k) ∧ KAt K w u k ∧ k.Fit := by
  obtain ⟨vs, rfl, hr⟩ := h.agg T56 rfl
  obtain ⟨w, u, k, rfl, h1, h2⟩ := rd_checkcells hr
  exact ⟨w, u, k, rfl, h1, h2⟩
def rdRowC (K : Heap) (cs : List V) (p : (V × Int) × List Int) : Prop := cs = [p.1.1, .int .i64 p.1.2] ∧ Sl 1 intC K p.1.1 p.2 ∧ p.2.length * 8 ≤ 140737488351232
theorem rd_rows {K : Heap} {D : Type} {v : V} {d : DataW D} (h : RdV T K 28 v d) : ∃ rs, Rows K v rs ∧ rs.length * 32 ≤ 140737488351232 ∧ ∀ r ∈ rs, r.1.length * 8 ≤ 140737488351232 := by
  obtain ⟨xs, h1, h2⟩ := (h.plain T28 rfl).isSlice (R := rdRowC K) T28 rfl T26 fun cs x hx => by
    obtain ⟨x, xs, y, e, e1, e2⟩ := rd_rowcells hx
    exact ⟨((x, y), xs), e, e1, Nat.le_trans e2 (by decide)⟩
  have h3 := h1.all (Q := fun p => Sl 1 intC K p.1.1 p.2 ∧ p.2.length * 8 ≤ 140737488351232) fun cs x hx => hx.2
  refine ⟨xs.map fun p => (p.2, p.1.2), ⟨xs.map (·.1), h1.map (R' := rowC) (fun p => p.1) fun cs x hx => (show rowC cs x.1 from hx.1), by simp, fun k p r hp hr => ?_⟩, by rw [List.length_map]; exact Nat.le_trans h2 (by decide), fun r hr => ?_⟩
  · rw [List.getElem?_map] at hp hr
    cases hx : xs[k]? with
    | none => rw [hx] at hp; cases hp
    | some x =>
      rw [hx] at hp hr
      cases hp; cases hr
      exact ⟨(h3 x (List.mem_iff_getElem?.2 ⟨k, hx⟩)).1, rfl⟩
  · obtain ⟨x, hx, rfl⟩ := List.mem_map.1 hr
    exact (h3 x hx).2
theorem rd_config {K : Heap} {D : Type} {v : V} {d : DataW D} (h : RdV T K 52 v d) : ∃ c rv, v = .agg (cfgC c rv) ∧ Rows K rv c.rows ∧ c.Fit := by
  obtain ⟨vs, rfl, hr⟩ := h.agg T52 rfl
  obtain ⟨hl, hf⟩ := hr.field T52 rfl
  replace hl : vs.length = 9 := hl
  obtain ⟨x0, h0⟩ := hf 0 _ _ rfl T3
  obtain ⟨x1, h1⟩ := hf 1 _ _ rfl T23
  obtain ⟨x2, h2⟩ := hf 2 _ _ rfl T28
  obtain ⟨x3, h3⟩ := hf 3 _ _ rfl T3
  obtain ⟨x4, h4⟩ := hf 4 _ _ rfl T3
  obtain ⟨x5, h5⟩ := hf 5 _ _ rfl T3
  obtain ⟨x6, h6⟩ := hf 6 _ _ rfl T3
  obtain ⟨x7, h7⟩ := hf 7 _ _ rfl T4
  obtain ⟨n0, e0, _⟩ := h0.isInt T3 rfl
  obtain ⟨n1, n2, e1⟩ := rd_shapecells h1
  obtain ⟨n3, e3, _⟩ := h3.isInt T3 rfl
  obtain ⟨n4, e4, _⟩ := h4.isInt T3 rfl
  obtain ⟨n5, e5, _⟩ := h5.isInt T3 rfl
  obtain ⟨n6, e6, _⟩ := h6.isInt T3 rfl
  obtain ⟨n7, e7⟩ := h7.isBool T4 rfl
  match vs, hl, e0, e1, h2, e3, e4, e5, e6, e7 with
  | [a0, a1, a2, a3, a4, a5, a6, a7, a8], _, e0, e1, h2, e3, e4, e5, e6, e7 =>
    simp at e0 e1 e3 e4 e5 e6 e7
    obtain ⟨rfl, rfl⟩ := e1
    subst e0; subst e3; subst e4; subst e5; subst e6; subst e7
    obtain ⟨rs, q1, q2, q3⟩ := rd_rows ⟨_, T28, .inr ⟨rfl, h2⟩⟩
    exact ⟨⟨n0, n1, n2, rs, n3, n4, n5, n6, n7⟩, a3, rfl, q1, ⟨q2, q3⟩⟩

theorem law_trains {D : Type} (K : Heap) (vs : List V) (ds : List (DataW D)) (ro : Ro K) (h : RdAll T K [52, 3, 56] vs ds) : ∃ K', Call Try.prog 8 vs K (.bool true) K' := by
  obtain ⟨v1, vs, d1, ds, rfl, rfl, hv1, h⟩ := rdAll_cons h
  obtain ⟨v2, vs, d2, ds, rfl, rfl, hv2, h⟩ := rdAll_cons h
  obtain ⟨v3, vs, d3, ds, rfl, rfl, hv3, h⟩ := rdAll_cons h
  obtain ⟨rfl, rfl⟩ := rdAll_nil h
  obtain ⟨c, rv, rfl, hr, cf⟩ := rd_config hv1
  obtain ⟨id, rfl, _⟩ := hv2.int T3 rfl
  obtain ⟨w, u, k, rfl, hk, kf⟩ := rd_check hv3
  clear hv1 hv2 hv3 h
  have s1 := hk.ws.cells
  have s2 := hk.vs.cells
  have s3 : rv.cells = [rv] ∧ rv.isTup = false := by obtain ⟨_, h, _⟩ := hr; exact h.cells
  refine ⟨K, ?_⟩
  refine call_pure fit mixed Try.func8 rfl rfl rfl (by kernel_rfl) rfl fun hM => ?_
  refine wq_seq (wq_line ?_)
  refine l_boxM T52 fun b1 H1 hM => ?_
  refine l_boxM T56 fun b2 H2 hM => ?_
  refine goM ?_
  obtain ⟨_, H3, c1, x, xv, rfl, m1⟩ := copyConfigM_ H2 c rv (hr.mono hM.pre) cf
  refine d_callG c1 (.inl m1.pre) ?_
  have s4 : x.cells = [x] ∧ x.isTup = false := (m1.fact .here).1.cells
  replace hM := hM.call1 m1
  refine goM ?_
  obtain ⟨_, H4, c2, y1, y2, rfl, m2⟩ := copyCheckM_ H3 w u k (hk.mono hM.pre) kf
  refine d_callG c2 (.inl m2.pre) ?_
  have s5 := (m2.sl .here).cells
  have s6 := (m2.sl (.there .here)).cells
  replace hM := hM.call2 m2
  clear c1 m1 c2 m2
  refine goM ?_
  refine d_newM (cs := zeroCfg) T52 rfl fun b3 H5 hM => ?_
  refine d_newM (cs := zeroChk) T56 rfl fun b4 H6 hM => ?_
  refine d_putM T52 fun H7 hM => ?_
  refine d_putM T56 fun H8 hM => ?_
  refine goM ?_
  have of := trainR_fit (c := c) (id := id) kf
  obtain ⟨a1, a2, H9, c1, m1⟩ := one_ H8 c x y1 y2 id k (rows_of (hM.factG)) ⟨hM.slG, hM.slG⟩ cf kf
  refine l_callG c1 ?_
  have s7 := (m1.sl .here).cells
  have s8 := (m1.sl (.there .here)).cells
  replace hM := hM.call2 m1
  clear c1 m1
  refine goM ?_
  refine l_newM (cs := zeroChk) T56 rfl fun b5 H10 hM => ?_
  refine l_putM T56 fun H11 hM => ?_
  refine goM ?_
  obtain ⟨e1, e2, H12, c1, m1⟩ := refTrain_ H11 c rv w u id k (hr.mono hM.pre) (hk.mono hM.pre) cf kf
  refine l_callG c1 ?_
  have s9 := (m1.sl .here).cells
  have s10 := (m1.sl (.there .here)).cells
  replace hM := hM.call2 m1
  clear c1 m1
  refine goM ?_
  refine l_newM (cs := zeroChk) T56 rfl fun b6 H13 hM => ?_
  refine l_putM T56 fun H14 hM => ?_
  generalize trainR c id k = o at *
  refine goM ?_
  have c1 := sameK_ H14 a1 a2 e1 e2 o.1 o.1 ⟨hM.slG, hM.slG⟩ ⟨hM.slG, hM.slG⟩ of
  rw [kEq_self] at c1
  refine l_callG c1 ?_
  refine goM ?_
  refine l_callG (num_ _ _) ?_
  clear c1
  refine goM ?_
  have hM2 := (hM.front (r := .own 1 intC a2 o.1.vs) (by (repeat (first | exact Take.here | apply Take.there)))).front (r := .own 1 intC a1 o.1.ws) (by (repeat (first | exact Take.here | apply Take.there)))
  obtain ⟨_, H15, c1, rfl, hM⟩ := spoilCheckM_ K H14 _ a1 a2 o.1 hM2 of
  refine l_callG c1 ?_
  clear c1 hM2
  refine goM ?_
  have c1 := sameConfig_ H15 c x rv (rows_of (hM.factG)) (hr.mono hM.pre) (by have := cf.rows; omega) (fun r hr => by have := cf.row r hr; omega)
  have c2 := sameK_ H15 y1 y2 w u k k ⟨hM.slG, hM.slG⟩ (hk.mono hM.pre) kf
  rw [kEq_self] at c2
  refine l_callG c1 ?_
  refine goM ?_
  refine l_callG c2 ?_
  refine goM ?_
  refine l_callG (awake_ _) ?_
  refine goM ?_
  exact end_1 (by first | exact .inl rfl | exact .inr rfl) ⟨rfl, hM.pre⟩
end Go.Proofs.Ytjageapgbpdlhaa.VM

/- Chapter 21: the statements TrainParts and TrainOwn. -/
namespace Go.Proofs.Ytjageapgbpdlhaa.VM
open Go
set_option linter.unusedVariables false
set_option linter.unusedSimpArgs false
attribute [local irreducible] wq wqL wqD wqE wqO Th Bk EndR
set_option maxHeartbeats 8000000

theorem trainR_cases (c : Cfg) (id : Int) (k : Chk) : (trainOk c id k = true ∧ k.t < c.total ∧ trainR c id k = (trainK c id k, 0)) ∨ ∃ e, e ≠ 0 ∧ trainR c id k = (noChk, e) := by
  unfold trainR
  split
  · split
    · exact .inr ⟨2101, by decide, rfl⟩
    · exact .inl ⟨by assumption, by omega, rfl⟩
  · exact .inr ⟨2100, by decide, rfl⟩

structure Parts (c : Cfg) (id : Int) (k : Chk) (s d n q a b : Nat) (xs : List Int) (y : Int) : Prop where
  seed : c.seed = s
  hid : id = d
  ht : k.t = n
  s16 : s ≤ 65535
  d7 : d ≤ 7
  t32 : n ≤ 32
  n1 : 1 ≤ c.rows.length
  n8 : c.rows.length ≤ 8
  hq : pickN s (4096 * d + n) c.rows.length = q
  tq : trainQ c id k.t = q
  row : c.rows[q]? = some (xs, y)
  hi : c.i = a
  hh : c.h = b
  fits : fits (a : Int) (b : Int) k.ws = true
  feeds : feeds (a : Int) xs = true
  fix : fixMay y = true
  g : trainG c id k.ws k.t = grad a b k.ws xs y
  al : alike k.ws.length [k.ws, k.vs, trainG c id k.ws k.t] = true
  hy : hyperMay k.r k.m = true
theorem parts_of {c : Cfg} {id : Int} {k : Chk} (hok : trainOk c id k = true) (ht : k.t < c.total) : ∃ s d t q i h xs y, Parts c id k s d t q i h xs y := by
  obtain ⟨hc, hid, hf⟩ := trainOk_split hok
  have hf' := hf
  simp only [kFits, memFits, Bool.and_eq_true] at hf'
  obtain ⟨hchk, hfit⟩ := hf'
  obtain ⟨hvw, hvv, hlv, hlw1, hhy, ht0, ht32⟩ := chkMay_split hchk
  obtain ⟨hm2, hloss, hseed, htot, _⟩ := cfgMay_split hc
  obtain ⟨_, hr1, hr8, hrok⟩ := lossMay_split hloss
  have hlw := vecMay_len hvw
  obtain ⟨s, hs⟩ : ∃ s : Nat, c.seed = s := ⟨c.seed.toNat, by omega⟩
  obtain ⟨d, hd⟩ : ∃ d : Nat, id = d := ⟨id.toNat, by omega⟩
  obtain ⟨t, htt⟩ : ∃ t : Nat, k.t = t := ⟨k.t.toNat, by omega⟩
  obtain ⟨q, hq⟩ : ∃ q, trainQ c id k.t = q := ⟨_, rfl⟩
  have hq' : pickN s (4096 * d + t) c.rows.length = q := by rw [← hq]; unfold trainQ; rw [hs, hd, htt]; rfl
  have hql : q < c.rows.length := by rw [← hq']; exact pickN_lt hr1
  obtain ⟨xs, y, hxy⟩ := rows_at c q hql
  have hro := hrok _ (List.mem_iff_getElem?.2 ⟨q, hxy⟩)
  simp only [rowOk, Bool.and_eq_true] at hro
  obtain ⟨_, _, i', h', hi', hh', hi1, hi2, hh1, hh2, hsz⟩ := fits_split hfit
  have hxl : xs.length = i' := by have := (feeds_split hro.1).1; omega
  have hG : trainG c id k.ws k.t = grad i' h' k.ws xs y := by unfold trainG; rw [hq, hxy]; simp only [hi', hh', Int.toNat_natCast]
  have hgm := grad_may (ws := k.ws) (y := y) (h := h') hxl (by rw [← hsz]; exact hlw)
  have hgl := grad_len (h := h') (ws := k.ws) (y := y) hxl
  exact ⟨s, d, t, q, i', h', xs, y, hs, hd, htt, by omega, by omega, by omega, hr1, hr8, hq', hq, hxy, hi', hh', by rw [← hi', ← hh']; exact hfit, by rw [← hi']; exact hro.1, hro.2, hG, by rw [hG]; simp [alike, hvw, hvv, hgm, hlv, hgl, hsz], hhy⟩

theorem law_trainParts {D : Type} (K : Heap) (vs : List V) (ds : List (DataW D)) (ro : Ro K) (h : RdAll T K [52, 3, 56] vs ds) : ∃ K', Call Try.prog 10 vs K (.bool true) K' := by
  obtain ⟨v1, vs, d1, ds, rfl, rfl, hv1, h⟩ := rdAll_cons h
  obtain ⟨v2, vs, d2, ds, rfl, rfl, hv2, h⟩ := rdAll_cons h
  obtain ⟨v3, vs, d3, ds, rfl, rfl, hv3, h⟩ := rdAll_cons h
  obtain ⟨rfl, rfl⟩ := rdAll_nil h
  obtain ⟨c, rv, rfl, hr, cf⟩ := rd_config hv1
  obtain ⟨id, rfl, _⟩ := hv2.int T3 rfl
  obtain ⟨w, u, k, rfl, hk, kf⟩ := rd_check hv3
  clear hv1 hv2 hv3 h
  have s1 := hk.ws.cells
  have s2 := hk.vs.cells
  have s3 : rv.cells = [rv] ∧ rv.isTup = false := by obtain ⟨_, h, _⟩ := hr; exact h.cells
  refine ⟨K, ?_⟩
  refine call_pure fit mixed Try.func10 rfl rfl rfl (by kernel_rfl) rfl fun hM => ?_
  refine wq_seq (wq_line ?_)
  refine l_boxM T52 fun b1 H1 hM => ?_
  refine l_boxM T56 fun b2 H2 hM => ?_
  refine goM ?_
  refine l_callG (awake_ _) ?_
  refine goM ?_
  obtain ⟨a1, a2, H3, c1, m1⟩ := one_ H2 c rv w u id k (hr.mono hM.pre) (hk.mono hM.pre) cf kf
  refine l_callG c1 ?_
  have s4 := (m1.sl .here).cells
  have s5 := (m1.sl (.there .here)).cells
  replace hM := hM.call2 m1
  clear c1 m1
  refine goM ?_
  refine l_newM (cs := zeroChk) T56 rfl fun b3 H4 hM => ?_
  refine l_putM T56 fun H5 hM => ?_
  have hcase := trainR_cases c id k
  generalize trainR c id k = o at *
  refine goM ?_
  refine l_callG (num_ _ _) ?_
  rcases hcase with ⟨hok, ht, rfl⟩ | ⟨e, he, rfl⟩
  · obtain ⟨s, d, t, q, i, h, xs, y, hp⟩ := parts_of hok ht
    have e1 := hp.seed
    have e2 := hp.hid
    have e3 := hp.ht
    have c1 := refSample_ H5 s d t c.rows.length hp.s16 hp.d7 hp.t32 hp.n1 hp.n8
    rw [hp.hq, ← e1, ← e2, ← e3] at c1
    have hr5 := hr.mono hM.pre
    obtain ⟨b0, o0, x, hi0, hl0, _, _, hx⟩ := hr5.at hp.row
    obtain ⟨_, hrv, hrl, _⟩ := hr5
    have hlen := hrv.len T28 rfl
    rw [hrl] at hlen
    obtain ⟨gu, H6, c2, m2⟩ := refGrad_good H5 i h y w x k.ws xs (hk.ws.mono hM.pre) hx hp.fits hp.feeds hp.fix
    rw [← hp.hi, ← hp.hh] at c2
    obtain ⟨u1, u2, H7, c3, o1, o2, ha⟩ := refOptim_ H6 w u gu k.ws k.vs _ k.r k.m (hk.ws.mono (hM.pre.trans m2.1)) (hk.vs.mono (hM.pre.trans m2.1)) m2.sl (by rw [← hp.g]; exact hp.al) hp.hy
    have m3 := two_mine o1 o2 ha
    have hg := hp.g
    have s6 := m2.sl.cells
    have s7 := o1.sl.cells
    have s8 := o2.sl.cells
    have wt : IntKind.i64.wrap (k.t + 1) = k.t + 1 := wrap_i64 (by have := hp.t32; have := hp.ht; omega) (by have := hp.t32; have := hp.ht; omega)
    clear hp e1 e2 e3 hrl hrv hok ht
    refine goM ?_
    refine l_callG c1 ?_
    refine goM ?_
    refine d_callG c2 (.inl m2.1) ?_
    replace hM := hM.call1 m2.mem
    refine goM ?_
    refine l_callG c3 ?_
    replace hM := hM.call2 m3
    have q1 := sameInts_ H7 a1 u1 _ _ (hM.sl (sz := 1) (R := intC) (v := a1) (by (repeat (first | exact Has.here | apply Has.there)))) o1.sl (by have := kf.ws; simp [trainK, nextL]; omega)
    have q2 := sameInts_ H7 a2 u2 _ _ (hM.sl (sz := 1) (R := intC) (v := a2) (by (repeat (first | exact Has.here | apply Has.there)))) o2.sl (by have := kf.ws; simp [trainK, speedL]; omega)
    rw [decide_eq_true (by show nextL k.r k.m k.ws k.vs _ = _; rw [hg])] at q1
    rw [decide_eq_true (by show speedL k.m k.ws k.vs _ = _; rw [hg])] at q2
    have q3 := eq_hyper k.r k.m k.r k.m
    have q4 : eqHyper k.r k.m k.r k.m = true := by simp [eqHyper]
    rw [q4] at q3
    have p3 : (trainK c id k).r = k.r ∧ (trainK c id k).m = k.m ∧ (trainK c id k).t = k.t + 1 := ⟨rfl, rfl, rfl⟩
    clear c1 c2 c3 o1 o2 ha m2 m3 hx hl0 hi0 hg hlen
    refine goM ?_
    refine l_callG q1 ?_
    refine goM ?_
    refine l_callG q2 ?_
    refine goM ?_
    exact end_1 (by first | exact .inl rfl | exact .inr rfl) ⟨rfl, hM.pre⟩
  · have he' : (e != 0) = true := by simpa using he
    refine goM ?_
    have c1 := sameK_ H5 a1 a2 .nils .nils noChk noChk ⟨hM.slG, hM.slG⟩ ⟨.inl ⟨rfl, rfl⟩, .inl ⟨rfl, rfl⟩⟩ ⟨by simp, by simp⟩
    rw [kEq_self] at c1
    refine l_callG c1 ?_
    refine goM ?_
    exact end_1 (by first | exact .inl rfl | exact .inr rfl) ⟨rfl, hM.pre⟩

theorem trainK_same {c : Cfg} {a b : Int} {k : Chk} (h : trainQ c a k.t = trainQ c b k.t) : trainK c a k = trainK c b k := by
  have : trainG c a k.ws k.t = trainG c b k.ws k.t := by unfold trainG; rw [h]
  unfold trainK; rw [this]

theorem law_trainOwn {D : Type} (K : Heap) (vs : List V) (ds : List (DataW D)) (ro : Ro K) (h : RdAll T K [52, 3, 3, 56] vs ds) : ∃ K', Call Try.prog 11 vs K (.bool true) K' := by
  obtain ⟨v1, vs, d1, ds, rfl, rfl, hv1, h⟩ := rdAll_cons h
  obtain ⟨v2, vs, d2, ds, rfl, rfl, hv2, h⟩ := rdAll_cons h
  obtain ⟨v4, vs, d4, ds, rfl, rfl, hv4, h⟩ := rdAll_cons h
  obtain ⟨v3, vs, d3, ds, rfl, rfl, hv3, h⟩ := rdAll_cons h
  obtain ⟨rfl, rfl⟩ := rdAll_nil h
  obtain ⟨c, rv, rfl, hr, cf⟩ := rd_config hv1
  obtain ⟨id, rfl, _⟩ := hv2.int T3 rfl
  obtain ⟨jd, rfl, _⟩ := hv4.int T3 rfl
  obtain ⟨w, u, k, rfl, hk, kf⟩ := rd_check hv3
  clear hv1 hv2 hv3 hv4 h
  have s1 := hk.ws.cells
  have s2 := hk.vs.cells
  have s3 : rv.cells = [rv] ∧ rv.isTup = false := by obtain ⟨_, h, _⟩ := hr; exact h.cells
  refine ⟨K, ?_⟩
  refine call_pure fit mixed Try.func11 rfl rfl rfl (by kernel_rfl) rfl fun hM => ?_
  refine wq_seq (wq_line ?_)
  refine l_boxM T52 fun b1 H1 hM => ?_
  refine l_boxM T56 fun b2 H2 hM => ?_
  refine goM ?_
  refine l_callG (awake_ _) ?_
  refine goM ?_
  obtain ⟨a1, a2, H3, c1, m1⟩ := one_ H2 c rv w u id k (hr.mono hM.pre) (hk.mono hM.pre) cf kf
  refine l_callG c1 ?_
  have s4 := (m1.sl .here).cells
  have s5 := (m1.sl (.there .here)).cells
  replace hM := hM.call2 m1
  clear c1 m1
  refine goM ?_
  refine l_newM (cs := zeroChk) T56 rfl fun b3 H4 hM => ?_
  refine l_putM T56 fun H5 hM => ?_
  refine goM ?_
  obtain ⟨e1, e2, H6, c1, m1⟩ := one_ H5 c rv w u jd k (hr.mono hM.pre) (hk.mono hM.pre) cf kf
  refine l_callG c1 ?_
  have s6 := (m1.sl .here).cells
  have s7 := (m1.sl (.there .here)).cells
  replace hM := hM.call2 m1
  clear c1 m1
  refine goM ?_
  refine l_newM (cs := zeroChk) T56 rfl fun b4 H7 hM => ?_
  refine l_putM T56 fun H8 hM => ?_
  have h1 := trainR_cases c id k
  have h2 := trainR_cases c jd k
  have of := trainR_fit (c := c) (id := id) kf
  generalize trainR c id k = o at *
  generalize trainR c jd k = p at *
  refine goM ?_
  refine l_callG (num_ _ _) ?_
  rcases h1 with ⟨hok, ht, rfl⟩ | ⟨e, he, rfl⟩
  · rcases h2 with ⟨hok2, _, rfl⟩ | ⟨e, he, rfl⟩
    · obtain ⟨s, d, t, q, _, _, _, _, hp⟩ := parts_of hok ht
      obtain ⟨s', d', t', q', _, _, _, _, hp'⟩ := parts_of hok2 ht
      have c1 := refSample_ H8 s d t c.rows.length hp.s16 hp.d7 hp.t32 hp.n1 hp.n8
      rw [hp.hq, ← hp.seed, ← hp.hid, ← hp.ht] at c1
      have c2 := refSample_ H8 s' d' t' c.rows.length hp'.s16 hp'.d7 hp'.t32 hp'.n1 hp'.n8
      rw [hp'.hq, ← hp'.seed, ← hp'.hid, ← hp'.ht] at c2
      obtain ⟨_, hrv, hrl, _⟩ := hr.mono hM.pre
      have hlen := hrv.len T28 rfl
      rw [hrl] at hlen
      have hsame : q = q' → trainK c id k = trainK c jd k := fun e => trainK_same (by rw [hp.tq, hp'.tq, e])
      clear hp hp' hrl hrv hok hok2 ht
      refine goM ?_
      refine l_callG (num_ _ _) ?_
      refine goM ?_
      refine l_callG c1 ?_
      refine goM ?_
      refine l_callG c2 ?_
      by_cases hq : q = q'
      · subst hq
        have hs := hsame rfl
        have c3 := sameK_ H8 a1 a2 e1 e2 _ _ ⟨hM.sl (sz := 1) (R := intC) (v := a1) (by (repeat (first | exact Has.here | apply Has.there))), hM.sl (sz := 1) (R := intC) (v := a2) (by (repeat (first | exact Has.here | apply Has.there)))⟩ ⟨hM.sl (sz := 1) (R := intC) (v := e1) (xs := (trainK c jd k).ws) (by (repeat (first | exact Has.here | apply Has.there))), hM.sl (sz := 1) (R := intC) (v := e2) (xs := (trainK c jd k).vs) (by (repeat (first | exact Has.here | apply Has.there)))⟩ of
        have c4 : kEq (trainK c id k) (trainK c jd k) = true := kEq_iff.2 hs
        rw [show kEq (trainK c id k, (0 : Int)).1 _ = true from c4] at c3
        clear hs hsame c4
        refine goM ?_
        refine l_callG c3 ?_
        refine goM ?_
        exact end_1 (by first | exact .inl rfl | exact .inr rfl) ⟨rfl, hM.pre⟩
      · have hne : ((q : Int) != (q' : Int)) = true := by simpa using fun e => hq (by omega)
        clear hsame
        refine goM ?_
        exact end_1 (by first | exact .inl rfl | exact .inr rfl) ⟨rfl, hM.pre⟩
    · have he' : (e != 0) = true := by simpa using he
      refine goM ?_
      refine l_callG (num_ _ _) ?_
      refine goM ?_
      exact end_1 (by first | exact .inl rfl | exact .inr rfl) ⟨rfl, hM.pre⟩
  · have he' : (e != 0) = true := by simpa using he
    refine goM ?_
    exact end_1 (by first | exact .inl rfl | exact .inr rfl) ⟨rfl, hM.pre⟩
end Go.Proofs.Ytjageapgbpdlhaa.VM

/- Chapter 21: the statement TrainForms. -/
namespace Go.Proofs.Ytjageapgbpdlhaa.VM
open Go
set_option linter.unusedVariables false
set_option linter.unusedSimpArgs false
attribute [local irreducible] wq wqL wqD wqE wqO Th Bk EndR
set_option maxHeartbeats 8000000

def Cfg.setI (c : Cfg) (x : Int) : Cfg := { c with interval := x }
def Chk.setT (k : Chk) (t : Int) : Chk := { k with t := t }
def Chk.noVs (k : Chk) : Chk := { k with vs := [] }
def Chk.more (k : Chk) : Chk := { k with ws := k.ws ++ [1], vs := k.vs ++ [1] }
theorem trainR_no {c : Cfg} {id : Int} {k : Chk} (h : trainOk c id k = false) : trainR c id k = (noChk, 2100) := by
  unfold trainR; rw [h]; rfl
theorem trainOk_cfg {c : Cfg} {id : Int} {k : Chk} (h : cfgMay c = false) : trainOk c id k = false := by unfold trainOk; rw [h]; rfl
theorem trainOk_fits {c : Cfg} {id : Int} {k : Chk} (h : kFits c k = false) : trainOk c id k = false := by unfold trainOk; rw [h, Bool.and_false]
theorem kFits_len {c : Cfg} {k : Chk} (h : kFits c k = true) : k.vs.length = k.ws.length ∧ 1 ≤ k.ws.length ∧ (k.ws.length : Int) = c.h * (c.i + 1) + c.h + 1 := by
  unfold kFits memFits at h
  rw [Bool.and_eq_true] at h
  obtain ⟨_, _, l, l1, _⟩ := chkMay_split h.1
  obtain ⟨_, _, i', h', hi', hh', _, _, _, _, hsz⟩ := fits_split h.2
  refine ⟨l, l1, ?_⟩
  rw [hsz, hi', hh', ← size_cast]
theorem cfgMay_interval {c : Cfg} {x : Int} (h : x < 1) : cfgMay { c with interval := x } = false := by
  rw [Bool.eq_false_iff]; intro hc
  obtain ⟨_, _, _, _, h1⟩ := cfgMay_split hc
  simp only at h1; omega
theorem kFits_vs {c : Cfg} {k : Chk} (h : kFits c k = true) : kFits c { k with vs := [] } = false := by
  rw [Bool.eq_false_iff]; intro hc
  have h1 := kFits_len h
  have h2 := kFits_len hc
  simp only [List.length_nil] at h2; omega
theorem kFits_more {c : Cfg} {k : Chk} (h : kFits c k = true) (x y : Int) : kFits c { k with ws := k.ws ++ [x], vs := k.vs ++ [y] } = false := by
  rw [Bool.eq_false_iff]; intro hc
  have h1 := kFits_len h
  have h2 := kFits_len hc
  simp only [List.length_append, List.length_cons, List.length_nil] at h2; omega
theorem kFits_late {c : Cfg} {k : Chk} {t : Int} (ht : 32 < t) : kFits c { k with t := t } = false := by
  rw [Bool.eq_false_iff]; intro hc
  unfold kFits memFits at hc
  rw [Bool.and_eq_true] at hc
  obtain ⟨_, _, _, _, _, _, l⟩ := chkMay_split hc.1
  simp only at l; omega

theorem more_fit {c : Cfg} {k : Chk} (h : kFits c k = true) : k.more.Fit ∧ k.ws.length ≤ 16 ∧ k.vs.length ≤ 16 := by
  unfold kFits memFits at h
  rw [Bool.and_eq_true] at h
  obtain ⟨a, b, l, _⟩ := chkMay_split h.1
  have := vecMay_len a
  have := vecMay_len b
  exact ⟨⟨by simp only [Chk.more, List.length_append, List.length_cons, List.length_nil]; omega, by simp only [Chk.more, List.length_append, List.length_cons, List.length_nil]; omega⟩, by omega, by omega⟩

theorem law_trainForms {D : Type} (K : Heap) (vs : List V) (ds : List (DataW D)) (ro : Ro K) (h : RdAll T K [3, 3] vs ds) : ∃ K', Call Try.prog 9 vs K (.bool true) K' := by
  obtain ⟨v1, vs, d1, ds, rfl, rfl, hv1, h⟩ := rdAll_cons h
  obtain ⟨v2, vs, d2, ds, rfl, rfl, hv2, h⟩ := rdAll_cons h
  obtain ⟨rfl, rfl⟩ := rdAll_nil h
  obtain ⟨n, rfl, _⟩ := hv1.int T3 rfl
  obtain ⟨x, rfl, _⟩ := hv2.int T3 rfl
  clear hv1 hv2 h
  obtain ⟨y, hy, hy0, hy1⟩ := and_mask x 1023 (by decide) (by decide)
  replace hy : IntKind.i64.wrap ((BitVec.ofInt IntKind.i64.bits x &&& BitVec.ofInt IntKind.i64.bits 1023).toNat : Int) = y := hy
  obtain ⟨z, hz, hz0, hz1⟩ := and_mask x 15 (by decide) (by decide)
  replace hz : IntKind.i64.wrap ((BitVec.ofInt IntKind.i64.bits x &&& BitVec.ofInt IntKind.i64.bits 15).toNat : Int) = z := hz
  obtain ⟨d, hd⟩ : ∃ d, 1 + y = d := ⟨_, rfl⟩
  have hd1 : IntKind.i64.wrap (1 + y) = d := by rw [hd]; exact wrap_i64 (by omega) (by omega)
  have w0 : IntKind.i64.wrap (1 - d) = 1 - d := wrap_i64 (by omega) (by omega)
  have w1 : IntKind.i64.wrap (0 - d) = 0 - d := wrap_i64 (by omega) (by omega)
  have w2 : IntKind.i64.wrap (1 + d) = 1 + d := wrap_i64 (by omega) (by omega)
  have w3 : IntKind.i64.wrap (32 + d) = 32 + d := wrap_i64 (by omega) (by omega)
  have w4 : IntKind.i64.wrap (3 + z) = 3 + z := wrap_i64 (by omega) (by omega)
  have sm := small_may
  have sf := small_fit
  have ff := firstK_fits small_may 0
  have hm : Held (smallC.m = 2) := rfl
  have ht : Held (smallC.total = 3) := rfl
  have z1 : Held (0 ≤ y ∧ y ≤ 1023 ∧ 0 ≤ z ∧ z ≤ 15 ∧ 1 + y = d) := ⟨by omega, by omega, by omega, by omega, hd⟩
  have r0 : trainR (smallC.setI (1 - d)) 0 (firstK smallC 0) = (noChk, 2100) := trainR_no (trainOk_cfg (cfgMay_interval (by omega)))
  have r1 : trainR smallC (0 - d) (firstK smallC 0) = (noChk, 2100) := trainR_id sm (.inl (by omega))
  have r2 : trainR smallC (1 + d) (firstK smallC 0) = (noChk, 2100) := trainR_id sm (.inr (by show (2 : Int) ≤ _; omega))
  have r3 : trainR smallC 0 (firstK smallC 0).noVs = (noChk, 2100) := trainR_no (trainOk_fits (kFits_vs ff))
  have r4 : trainR smallC 0 (firstK smallC 0).more = (noChk, 2100) := trainR_no (trainOk_fits (kFits_more ff 1 1))
  have r5 : trainR smallC 0 ((firstK smallC 0).setT (32 + d)) = (noChk, 2100) := trainR_no (trainOk_fits (kFits_late (by omega)))
  have r6 : trainR smallC 0 ((firstK smallC 0).setT (3)) = (noChk, 2101) := trainR_done sm (by decide) (kFits_t ff (by decide)) (by decide)
  have r7 : trainR smallC 0 ((firstK smallC 0).setT (3 + z)) = (noChk, 2101) := trainR_done sm (by decide) (kFits_t ff (by omega)) (by show (3 : Int) ≤ 3 + z; omega)
  have kf := kFits_fit ff
  obtain ⟨mf, l16w, l16v⟩ := more_fit ff
  clear hy0 hy1 hz0 hz1 hd hm ht z1
  refine ⟨K, ?_⟩
  refine call_pure fit mixed Try.func9 rfl rfl rfl (by kernel_rfl) rfl fun hM => ?_
  have hsm := small_
  have hfm := fun H rv hr => refFirstK_ H smallC rv 0 hr sm (by decide)
  generalize firstK smallC 0 = k at *
  generalize firstS smallC 0 = S at *
  generalize smallC = c at *
  refine goM ?_
  refine l_callG (awake_ _) ?_
  refine goM ?_
  obtain ⟨_, H1, c1, rv, xv, rfl, m1⟩ := hsm K
  refine l_callG c1 ?_
  replace hM := hM.call1 m1
  have s0 : rv.cells = [rv] ∧ rv.isTup = false := (m1.fact .here).1.cells
  clear c1 m1
  refine goM ?_
  refine l_newM (cs := zeroCfg) T52 rfl fun b1 H3 hM => ?_
  refine l_putM T52 fun H4 hM => ?_
  refine goM ?_
  obtain ⟨_, H5, c1, u1, u2, rfl, m1⟩ := hfm H4 rv (rows_of (hM.factG))
  refine l_callG c1 ?_
  have s1 := (m1.sl .here).cells
  have s2 := (m1.sl (.there .here)).cells
  replace hM := hM.call2 m1
  clear c1 m1
  refine goM ?_
  refine l_newM (cs := zeroMem) T69 rfl fun b2 H6 hM => ?_
  refine l_putM T69 fun H7 hM => ?_
  refine goM ?_
  refine l_newM (cs := zeroChk) T56 rfl fun b3 H8 hM => ?_
  refine l_putM T56 fun H9 hM => ?_
  refine goM ?_
  -- which
  refine cond_go (fun hb => ?_) (fun hb => ?_)
  · clear hb
    refine goM ?_
    refine l_putM T3 fun Hp hM => ?_
    refine goM ?_
    obtain ⟨a1, a2, Ha, c1, m1⟩ := one_ _ (c.setI (1 - d)) rv u1 u2 0 k (rows_of (hM.factG)) ⟨hM.slG, hM.slG⟩ ⟨sf.rows, sf.row⟩ kf
    rw [r0] at c1 m1
    refine l_callG c1 ?_
    have s3 := (m1.sl .here).cells
    have s4 := (m1.sl (.there .here)).cells
    replace hM := hM.call2 m1
    clear c1 m1
    refine goM ?_
    refine l_newM (cs := zeroChk) T56 rfl fun b4 Hb hM => ?_
    refine l_putM T56 fun Hc hM => ?_
    refine goM ?_
    have c2 := sameK_ Hc a1 a2 .nils .nils noChk noChk ⟨hM.slG, hM.slG⟩ ⟨.inl ⟨rfl, rfl⟩, .inl ⟨rfl, rfl⟩⟩ ⟨by simp, by simp⟩
    rw [kEq_self] at c2
    refine l_callG c2 ?_
    refine goM ?_
    refine l_callG (num_ _ _) ?_
    refine goM ?_
    exact end_1 (by first | exact .inl rfl | exact .inr rfl) ⟨rfl, hM.pre⟩
  clear hb
  refine goM ?_
  refine cond_go (fun hb => ?_) (fun hb => ?_)
  · clear hb
    refine goM ?_
    obtain ⟨a1, a2, Ha, c1, m1⟩ := one_ _ c rv u1 u2 (0 - d) k (rows_of (hM.factG)) ⟨hM.slG, hM.slG⟩ sf kf
    rw [r1] at c1 m1
    refine l_callG c1 ?_
    have s3 := (m1.sl .here).cells
    have s4 := (m1.sl (.there .here)).cells
    replace hM := hM.call2 m1
    clear c1 m1
    refine goM ?_
    refine l_newM (cs := zeroChk) T56 rfl fun b4 Hb hM => ?_
    refine l_putM T56 fun Hc hM => ?_
    refine goM ?_
    have c2 := sameK_ Hc a1 a2 .nils .nils noChk noChk ⟨hM.slG, hM.slG⟩ ⟨.inl ⟨rfl, rfl⟩, .inl ⟨rfl, rfl⟩⟩ ⟨by simp, by simp⟩
    rw [kEq_self] at c2
    refine l_callG c2 ?_
    refine goM ?_
    refine l_callG (num_ _ _) ?_
    refine goM ?_
    exact end_1 (by first | exact .inl rfl | exact .inr rfl) ⟨rfl, hM.pre⟩
  clear hb
  refine goM ?_
  refine cond_go (fun hb => ?_) (fun hb => ?_)
  · clear hb
    refine goM ?_
    obtain ⟨a1, a2, Ha, c1, m1⟩ := one_ _ c rv u1 u2 (1 + d) k (rows_of (hM.factG)) ⟨hM.slG, hM.slG⟩ sf kf
    rw [r2] at c1 m1
    refine l_callG c1 ?_
    have s3 := (m1.sl .here).cells
    have s4 := (m1.sl (.there .here)).cells
    replace hM := hM.call2 m1
    clear c1 m1
    refine goM ?_
    refine l_newM (cs := zeroChk) T56 rfl fun b4 Hb hM => ?_
    refine l_putM T56 fun Hc hM => ?_
    refine goM ?_
    have c2 := sameK_ Hc a1 a2 .nils .nils noChk noChk ⟨hM.slG, hM.slG⟩ ⟨.inl ⟨rfl, rfl⟩, .inl ⟨rfl, rfl⟩⟩ ⟨by simp, by simp⟩
    rw [kEq_self] at c2
    refine l_callG c2 ?_
    refine goM ?_
    refine l_callG (num_ _ _) ?_
    refine goM ?_
    exact end_1 (by first | exact .inl rfl | exact .inr rfl) ⟨rfl, hM.pre⟩
  clear hb
  refine goM ?_
  refine cond_go (fun hb => ?_) (fun hb => ?_)
  · clear hb
    refine goM ?_
    refine l_putM T24 fun Hp hM => ?_
    refine goM ?_
    obtain ⟨a1, a2, Ha, c1, m1⟩ := one_ _ c rv u1 .nils 0 k.noVs (rows_of (hM.factG)) ⟨hM.slG, .inl ⟨rfl, rfl⟩⟩ sf ⟨kf.ws, by simp [Chk.noVs]⟩
    rw [r3] at c1 m1
    refine l_callG c1 ?_
    have s3 := (m1.sl .here).cells
    have s4 := (m1.sl (.there .here)).cells
    replace hM := hM.call2 m1
    clear c1 m1
    refine goM ?_
    refine l_newM (cs := zeroChk) T56 rfl fun b4 Hb hM => ?_
    refine l_putM T56 fun Hc hM => ?_
    refine goM ?_
    have c2 := sameK_ Hc a1 a2 .nils .nils noChk noChk ⟨hM.slG, hM.slG⟩ ⟨.inl ⟨rfl, rfl⟩, .inl ⟨rfl, rfl⟩⟩ ⟨by simp, by simp⟩
    rw [kEq_self] at c2
    refine l_callG c2 ?_
    refine goM ?_
    refine l_callG (num_ _ _) ?_
    refine goM ?_
    exact end_1 (by first | exact .inl rfl | exact .inr rfl) ⟨rfl, hM.pre⟩
  clear hb
  refine goM ?_
  refine cond_go (fun hb => ?_) (fun hb => ?_)
  · clear hb
    refine goM ?_
    refine l_sliceM intC [1] [.int .i64 1] T24 rfl T3 rfl (cells_ints [1]) (by decide) fun e1 Hq hM => ?_
    refine goM ?_
    refine l_appM (hM.sl .here) (xs := k.ws) fun w1 Hr hM => ?_
    have s5 := (hM.sl (xs := k.ws ++ [1]) (v := w1) (by (repeat (first | exact Has.here | apply Has.there)))).cells
    refine goM ?_
    refine l_putM T24 fun Hs hM => ?_
    refine goM ?_
    refine l_sliceM intC [1] [.int .i64 1] T24 rfl T3 rfl (cells_ints [1]) (by decide) fun e2 Ht hM => ?_
    refine goM ?_
    refine l_appM (hM.sl .here) (xs := k.vs) fun w2 Hu hM => ?_
    have s6 := (hM.sl (xs := k.vs ++ [1]) (v := w2) (by (repeat (first | exact Has.here | apply Has.there)))).cells
    refine goM ?_
    refine l_putM T24 fun Hv hM => ?_
    refine goM ?_
    obtain ⟨a1, a2, Ha, c1, m1⟩ := one_ _ c rv w1 w2 0 k.more (rows_of (hM.factG)) ⟨hM.slG, hM.slG⟩ sf mf
    rw [r4] at c1 m1
    refine l_callG c1 ?_
    have s3 := (m1.sl .here).cells
    have s4 := (m1.sl (.there .here)).cells
    replace hM := hM.call2 m1
    clear c1 m1
    refine goM ?_
    refine l_newM (cs := zeroChk) T56 rfl fun b4 Hb hM => ?_
    refine l_putM T56 fun Hc hM => ?_
    refine goM ?_
    have c2 := sameK_ Hc a1 a2 .nils .nils noChk noChk ⟨hM.slG, hM.slG⟩ ⟨.inl ⟨rfl, rfl⟩, .inl ⟨rfl, rfl⟩⟩ ⟨by simp, by simp⟩
    rw [kEq_self] at c2
    refine l_callG c2 ?_
    refine goM ?_
    refine l_callG (num_ _ _) ?_
    refine goM ?_
    exact end_1 (by first | exact .inl rfl | exact .inr rfl) ⟨rfl, hM.pre⟩
  clear hb
  refine goM ?_
  refine cond_go (fun hb => ?_) (fun hb => ?_)
  · clear hb
    refine goM ?_
    refine l_putM T3 fun Hp hM => ?_
    refine goM ?_
    obtain ⟨a1, a2, Ha, c1, m1⟩ := one_ _ c rv u1 u2 0 (k.setT (32 + d)) (rows_of (hM.factG)) ⟨hM.slG, hM.slG⟩ sf ⟨kf.ws, kf.vs⟩
    rw [r5] at c1 m1
    refine l_callG c1 ?_
    have s3 := (m1.sl .here).cells
    have s4 := (m1.sl (.there .here)).cells
    replace hM := hM.call2 m1
    clear c1 m1
    refine goM ?_
    refine l_newM (cs := zeroChk) T56 rfl fun b4 Hb hM => ?_
    refine l_putM T56 fun Hc hM => ?_
    refine goM ?_
    have c2 := sameK_ Hc a1 a2 .nils .nils noChk noChk ⟨hM.slG, hM.slG⟩ ⟨.inl ⟨rfl, rfl⟩, .inl ⟨rfl, rfl⟩⟩ ⟨by simp, by simp⟩
    rw [kEq_self] at c2
    refine l_callG c2 ?_
    refine goM ?_
    refine l_callG (num_ _ _) ?_
    refine goM ?_
    exact end_1 (by first | exact .inl rfl | exact .inr rfl) ⟨rfl, hM.pre⟩
  clear hb
  refine goM ?_
  refine cond_go (fun hb => ?_) (fun hb => ?_)
  · clear hb
    refine goM ?_
    refine l_putM T3 fun Hp hM => ?_
    refine goM ?_
    obtain ⟨a1, a2, Ha, c1, m1⟩ := one_ _ c rv u1 u2 0 (k.setT 3) (rows_of (hM.factG)) ⟨hM.slG, hM.slG⟩ sf ⟨kf.ws, kf.vs⟩
    rw [r6] at c1 m1
    refine l_callG c1 ?_
    have s3 := (m1.sl .here).cells
    have s4 := (m1.sl (.there .here)).cells
    replace hM := hM.call2 m1
    clear c1 m1
    refine goM ?_
    refine l_newM (cs := zeroChk) T56 rfl fun b4 Hb hM => ?_
    refine l_putM T56 fun Hc hM => ?_
    refine goM ?_
    have c2 := sameK_ Hc a1 a2 .nils .nils noChk noChk ⟨hM.slG, hM.slG⟩ ⟨.inl ⟨rfl, rfl⟩, .inl ⟨rfl, rfl⟩⟩ ⟨by simp, by simp⟩
    rw [kEq_self] at c2
    refine l_callG c2 ?_
    refine goM ?_
    refine l_callG (num_ _ _) ?_
    refine goM ?_
    exact end_1 (by first | exact .inl rfl | exact .inr rfl) ⟨rfl, hM.pre⟩
  clear hb
  refine goM ?_
  refine l_putM T3 fun Hp hM => ?_
  refine goM ?_
  obtain ⟨a1, a2, Ha, c1, m1⟩ := one_ _ c rv u1 u2 0 (k.setT (3 + z)) (rows_of (hM.factG)) ⟨hM.slG, hM.slG⟩ sf ⟨kf.ws, kf.vs⟩
  rw [r7] at c1 m1
  refine l_callG c1 ?_
  have s3 := (m1.sl .here).cells
  have s4 := (m1.sl (.there .here)).cells
  replace hM := hM.call2 m1
  clear c1 m1
  refine goM ?_
  refine l_newM (cs := zeroChk) T56 rfl fun b4 Hb hM => ?_
  refine l_putM T56 fun Hc hM => ?_
  refine goM ?_
  have c2 := sameK_ Hc a1 a2 .nils .nils noChk noChk ⟨hM.slG, hM.slG⟩ ⟨.inl ⟨rfl, rfl⟩, .inl ⟨rfl, rfl⟩⟩ ⟨by simp, by simp⟩
  rw [kEq_self] at c2
  refine l_callG c2 ?_
  refine goM ?_
  refine l_callG (num_ _ _) ?_
  refine goM ?_
  exact end_1 (by first | exact .inl rfl | exact .inr rfl) ⟨rfl, hM.pre⟩
end Go.Proofs.Ytjageapgbpdlhaa.VM

/- Chapter 21: the statement TrainRow. -/
namespace Go.Proofs.Ytjageapgbpdlhaa.VM
open Go
set_option linter.unusedVariables false
set_option linter.unusedSimpArgs false
attribute [local irreducible] wq wqL wqD wqE wqO Th Bk EndR
set_option maxHeartbeats 8000000

theorem u64_range (n : Int) : 0 ≤ IntKind.u64.wrap n ∧ IntKind.u64.wrap n < 18446744073709551616 := by
  unfold IntKind.wrap
  simp only [IntKind.bits, IntKind.signed, Bool.false_and, Bool.false_eq_true, if_false, Int.reducePow]
  omega
theorem u64_id {n : Int} (h1 : 0 ≤ n) (h2 : n < 18446744073709551616) : IntKind.u64.wrap n = n := by
  unfold IntKind.wrap
  simp only [IntKind.bits, IntKind.signed, Bool.false_and, Bool.false_eq_true, if_false, Int.reducePow]
  omega

theorem train_fits {c : Cfg} {id : Int} {k : Chk} (hf : kFits c k = true) (ht : k.t < 32) : kFits c (trainK c id k) = true := by
  have h1 := kFits_len hf
  unfold kFits memFits at hf ⊢
  rw [Bool.and_eq_true] at hf ⊢
  obtain ⟨hvw, hvv, hlv, hl1, hhy, ht0, _⟩ := chkMay_split hf.1
  have l16 := vecMay_len hvw
  have e1 : (trainK c id k).ws.length = k.ws.length := by simp [trainK, nextL]
  have e2 : (trainK c id k).vs.length = k.ws.length := by simp [trainK, speedL]
  have m1 : vecMay (trainK c id k).ws = true := by
    simp only [vecMay, Bool.and_eq_true, decide_eq_true_eq, List.all_eq_true]
    refine ⟨by omega, fun b hb => ?_⟩
    simp only [trainK, nextL, List.mem_map] at hb
    obtain ⟨j, _, rfl⟩ := hb
    exact plus_may _ _
  have m2 : vecMay (trainK c id k).vs = true := by
    simp only [vecMay, Bool.and_eq_true, decide_eq_true_eq, List.all_eq_true]
    refine ⟨by omega, fun b hb => ?_⟩
    simp only [trainK, speedL, List.mem_map] at hb
    obtain ⟨j, _, rfl⟩ := hb
    exact plus_may _ _
  refine ⟨?_, ?_⟩
  · unfold chkMay alike
    simp only [List.all_cons, List.all_nil, m1, m2, e1, e2, decide_true, Bool.and_true, Bool.true_and]
    have h2 : hyperMay (trainK c id k).r (trainK c id k).m = true := hhy
    have h3 : (trainK c id k).t = k.t + 1 := rfl
    rw [h2, h3]
    simp only [Bool.and_eq_true, decide_eq_true_eq, and_true]
    omega
  · have h2 := hf.2
    unfold fits at h2 ⊢
    rw [Bool.and_eq_true, Bool.and_eq_true] at h2 ⊢
    exact ⟨⟨h2.1.1, m1⟩, by rw [e1]; exact h2.2⟩

theorem law_trainRow {D : Type} (K : Heap) (vs : List V) (ds : List (DataW D)) (ro : Ro K) (h : RdAll T K [52, 3] vs ds) : ∃ K', Call Try.prog 12 vs K (.bool true) K' := by
  obtain ⟨v1, vs, d1, ds, rfl, rfl, hv1, h⟩ := rdAll_cons h
  obtain ⟨v2, vs, d2, ds, rfl, rfl, hv2, h⟩ := rdAll_cons h
  obtain ⟨rfl, rfl⟩ := rdAll_nil h
  obtain ⟨c, rv, rfl, hr, cf⟩ := rd_config hv1
  obtain ⟨id0, rfl, _⟩ := hv2.int T3 rfl
  clear hv1 hv2 h
  have s3 : rv.cells = [rv] ∧ rv.isTup = false := by obtain ⟨_, h, _⟩ := hr; exact h.cells
  refine ⟨K, ?_⟩
  refine call_pure fit mixed Try.func12 rfl rfl rfl (by kernel_rfl) rfl fun hM => ?_
  refine wq_seq (wq_line ?_)
  refine l_boxM T52 fun b1 H1 hM => ?_
  refine goM ?_
  refine l_callG (awake_ _) ?_
  refine goM ?_
  have c1 := refConfMay_ H1 c rv (hr.mono hM.pre) (by have := cf.rows; omega) (fun r hr => by have := cf.row r hr; omega)
  refine l_callG c1 ?_
  clear c1
  cases hc : cfgMay c
  · refine goM ?_
    exact end_1 (by first | exact .inl rfl | exact .inr rfl) ⟨rfl, hM.pre⟩
  obtain ⟨hm2, _, _, htot, _⟩ := cfgMay_split hc
  have wm : IntKind.u64.wrap c.m = c.m := u64_id (by omega) (by omega)
  have mz : (c.m = 0) = False := by simp; omega
  have hu0 : 0 ≤ IntKind.u64.wrap id0 ∧ IntKind.u64.wrap id0 < 18446744073709551616 := u64_range id0
  obtain ⟨id, hid⟩ : ∃ id, (IntKind.u64.wrap id0).tmod c.m = id := ⟨_, rfl⟩
  have hidr : 0 ≤ id ∧ id < c.m := by rw [← hid, Int.tmod_eq_emod_of_nonneg hu0.1]; exact ⟨Int.emod_nonneg _ (by omega), Int.emod_lt_of_pos _ (by omega)⟩
  have wi : IntKind.i64.wrap id = id := wrap_i64 (by omega) (by omega)
  obtain ⟨n, hn⟩ : ∃ n : Nat, c.total = n := ⟨c.total.toNat, by omega⟩
  have hn32 : Held (1 ≤ n ∧ n ≤ 32) := ⟨by omega, by omega⟩
  have hidH : Held (0 ≤ id ∧ id < c.m) := hidr
  have hnH : Held (c.total = n) := hn
  clear hm2 htot hu0 hn
  refine goM ?_
  obtain ⟨_, H2, c1, u1, u2, rfl, m1⟩ := refFirstK_ H1 c rv id (hr.mono hM.pre) hc hidr
  refine l_callG c1 ?_
  have s1 := (m1.sl .here).cells
  have s2 := (m1.sl (.there .here)).cells
  replace hM := hM.call2 m1
  have hf0 := firstK_fits hc id
  have ht0 : Held ((firstK c id).t = 0) := rfl
  generalize firstK c id = k0 at *
  generalize firstS c id = S at *
  clear c1 m1 hidr hid wm mz
  refine goM ?_
  refine l_newM (cs := zeroMem) T69 rfl fun b2 H3 hM => ?_
  refine l_putM T69 fun H4 hM => ?_
  refine goM ?_
  refine l_newM (cs := zeroChk) T56 rfl fun b3 H5 hM => ?_
  refine l_putM T56 fun H6 hM => ?_
  refine goM ?_
  refine wq_loop (fun m ρ hp => ∃ (i : Nat) (w' v' : V) (k : Chk), i ≤ n ∧ m = n - i ∧ Held (k.t = (i : Int)) ∧ kFits c k = true ∧ Held (k.r = k0.r) ∧ Held (k.m = k0.m) ∧ Mem K hp [.own 1 intC w' k.ws, .own 1 intC v' k.vs, .box b3 (kC w' v' k), .box b2 (mC u1 u2 k0 0), .box b1 (cfgC c rv)] ∧
    ρ 2 = .ptr b1 0 ∧ ρ 5 = .int .i64 id ∧ ρ 6 = .ptr b2 0 ∧ ρ 9 = .ptr b3 0 ∧ ρ 10 = .int .i64 (i : Nat)) ⟨0, u1, u2, k0, Nat.zero_le _, rfl, ht0, hf0, (rfl : k0.r = k0.r), (rfl : k0.m = k0.m), (hM.front (r := .own 1 intC u2 k0.vs) (by (repeat (first | exact Take.here | apply Take.there)))).front (r := .own 1 intC u1 k0.ws) (by (repeat (first | exact Take.here | apply Take.there))), rfl, rfl, rfl, rfl, rfl⟩ ?_
  clear hM
  rintro _ ρ hp ⟨i, w', v', k, hi, rfl, ht, hf, hkr, hkm, hM, h2, h5, h6, h9, h10⟩
  have s4 := (hM.sl .here).cells
  have s5 := (hM.sl (.there .here)).cells
  have kf := kFits_fit hf
  have hlt : decide ((i : Int) < c.total) = decide (i < n) := by
    have e : c.total = n := hnH
    rw [e]; apply Bool.eq_iff_iff.2; simp
  refine goM ?_
  refine cond_go (fun hb => ?_) (fun hb => ?_)
  · have hi' : i < n := by simpa using hb
    clear hb hlt
    have e1 : trainR c id k = (trainK c id k, 0) := trainR_go hc hidH hf (by have h1 : k.t = (i : Int) := ht; have h2 : c.total = n := hnH; omega)
    have hft : kFits c (trainK c id k) = true := train_fits hf (by have h1 : k.t = (i : Int) := ht; have h2 : 1 ≤ n ∧ n ≤ 32 := hn32; omega)
    have ht1 : Held ((trainK c id k).t = ((i + 1 : Nat) : Int)) := by
      have h1 : k.t = (i : Int) := ht
      show k.t + 1 = _
      omega
    have hr1 : Held ((trainK c id k).r = k0.r) := hkr
    have hm1 : Held ((trainK c id k).m = k0.m) := hkm
    have w1 : IntKind.i64.wrap ((i : Int) + 1) = ((i + 1 : Nat) : Int) := by
      have h2 : 1 ≤ n ∧ n ≤ 32 := hn32
      rw [wrap_i64 (by omega) (by omega)]; omega
    refine goM ?_
    obtain ⟨a1, a2, H7, c1, m1⟩ := one_ hp c rv w' v' id k (hr.mono hM.pre) ⟨hM.sl .here, hM.sl (.there .here)⟩ cf kf
    rw [e1] at c1 m1
    refine l_callG c1 ?_
    have s6 := (m1.sl .here).cells
    have s7 := (m1.sl (.there .here)).cells
    replace hM := hM.call2 m1
    clear c1 m1 e1 hkr hkm
    generalize trainK c id k = k' at *
    refine goM ?_
    refine l_newM (cs := zeroChk) T56 rfl fun b4 H8 hM => ?_
    refine l_putM T56 fun H9 hM => ?_
    refine goM ?_
    refine l_callG (num_ _ _) ?_
    have ht2 : k'.t = ((i + 1 : Nat) : Int) := ht1
    have hr2 : k'.r = k0.r := hr1
    have hm2 : k'.m = k0.m := hm1
    refine goM ?_
    clear hr2 hm2 ht2
    refine l_putM T56 fun H10 hM => ?_
    refine goM ?_
    refine ⟨n - (i + 1), by omega, i + 1, a1, a2, k', hi', rfl, ht1, hft, hr1, hm1, hM.subG, ?_⟩
    simp [put_app, put_none, *]
  · have hi' : i = n := by have : ¬ i < n := by simpa using hb
                           omega
    clear hb hlt
    subst hi'
    have e1 : trainR c id k = (noChk, 2101) := trainR_done hc hidH hf (by have h1 : k.t = (i : Int) := ht; have h2 : c.total = i := hnH; omega)
    refine goM ?_
    obtain ⟨a1, a2, H7, c1, m1⟩ := one_ hp c rv w' v' id k (hr.mono hM.pre) ⟨hM.sl .here, hM.sl (.there .here)⟩ cf kf
    rw [e1] at c1 m1
    refine l_callG c1 ?_
    have s6 := (m1.sl .here).cells
    have s7 := (m1.sl (.there .here)).cells
    replace hM := hM.call2 m1
    clear c1 m1 e1
    refine goM ?_
    refine l_newM (cs := zeroChk) T56 rfl fun b4 H8 hM => ?_
    refine l_putM T56 fun H9 hM => ?_
    refine goM ?_
    refine l_callG (num_ _ _) ?_
    refine goM ?_
    obtain ⟨_, H10, c1, rv1, xv1, rfl, m0⟩ := small_ H9
    have hlen := (m0.fact .here).1.len T28 rfl
    rw [show xv1.length = 2 from (m0.fact .here).2.1] at hlen
    refine l_callG c1 ?_
    replace hM := hM.call1 m0
    clear m0 c1
    refine goM ?_
    exact end_1 (by first | exact .inl rfl | exact .inr rfl) ⟨rfl, hM.pre⟩
end Go.Proofs.Ytjageapgbpdlhaa.VM
