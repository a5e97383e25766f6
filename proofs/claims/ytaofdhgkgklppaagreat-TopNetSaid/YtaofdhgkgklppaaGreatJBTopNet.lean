/- Joined texts: RowB, TopG. -/
import Derived.Test.YtaofdhgkgklppaaGreatJB1
import Derived.Test.YtaofdhgkgklppaaGreatJB2
import Derived.Test.YtaofdhgkgklppaaGreatJB3
import Derived.Test.YtaofdhgkgklppaaGreatJB4
import Derived.Test.YtaofdhgkgklppaaGreatJB5
import Derived.Test.YtaofdhgkgklppaaGreatJB6
import Derived.Test.YtaofdhgkgklppaaGreatJB7
import Derived.Test.YtaofdhgkgklppaaGreatJB8
import Derived.Test.YtaofdhgkgklppaaGreatJB9
import Derived.Test.YtaofdhgkgklppaaGreatJB10
import Derived.Test.YtaofdhgkgklppaaGreatJB11
import Derived.Test.YtaofdhgkgklppaaGreatJB12
import Derived.Test.YtaofdhgkgklppaaGreatJB13
import Derived.Test.YtaofdhgkgklppaaGreatJBTopAll
namespace Go.Proofs.YtaofdhgkgklppaaGreat.VM
open Go
set_option linter.unusedVariables false
set_option linter.unusedSimpArgs false
attribute [local irreducible] wq wqL wqD wqE wqO Th Bk EndR
set_option maxHeartbeats 8000000
theorem rd_shape {K : Heap} {D : Type} {v : V} {d : DataW D} (h : RdV T K 23 v d) : ∃ i j, v = .agg [.int .i64 i, .int .i64 j] := by
 obtain ⟨vs, rfl, hr⟩ := h.agg T23 rfl
 obtain ⟨hl, hf⟩ := hr.field T23 rfl
 replace hl : vs.length = 2 := hl
 obtain ⟨x0, h0⟩ := hf 0 _ _ rfl T3
 obtain ⟨x1, h1⟩ := hf 1 _ _ rfl T3
 obtain ⟨n0, e0, _⟩ := h0.isInt T3 rfl
 obtain ⟨n1, e1, _⟩ := h1.isInt T3 rfl
 match vs, hl, e0, e1 with
 | [a, b], _, e0, e1 =>
  simp at e0 e1
  subst e0; subst e1
  exact ⟨n0, n1, rfl⟩
theorem dotP_ (H : Heap) (u v : V) (xs ys : List Int) (hx : Sl 1 intC H u xs) (hy : Sl 1 intC H v ys) (hl : xs.length = ys.length) (mx : vecMay xs = true) (my : vecMay ys = true) :
  Call Tryz.prog 51 [u, v] H (.tup [.int .i64 (dot xs ys), .int .i64 0]) H := by
 have lx := vecMay_len mx
 have ly := vecMay_len my
 refine call_pure fit mixed Tryz.func51 rfl rfl rfl (by kernel_rfl) rfl fun hM => ?_
 have s1 := hx.cells
 have s2 := hy.cells
 refine goM ?_
 refine l_sliceM oneC [u, v] [u, v] T238 rfl T27 rfl (one_cells [u, v]) (by decide) fun w H1 hM => ?_
 have c1 := alike_ H1 w [u, v] [xs, ys] xs.length (hM.sl .here) rfl (by simp) (fun k u xs hu hx2 => by
  match k, hu, hx2 with
  | 0, hu, hx2 => simp at hu hx2; subst hu; subst hx2; exact ⟨hx.mono hM.pre, by omega⟩
  | 1, hu, hx2 => simp at hu hx2; subst hu; subst hx2; exact ⟨hy.mono hM.pre, by omega⟩
  | k + 2, hu, hx2 => simp at hu) (fun xs hx => by simp at hx; rw [hx])
 have e1 : alike xs.length [xs, ys] = true := by
  unfold alike
  simp only [List.all_cons, List.all_nil, mx, my, hl, decide_true, Bool.and_self]
 rw [e1] at c1
 have c2 := vecSum_ H1 u v xs ys (hx.mono hM.pre) (hy.mono hM.pre) (by omega) (by omega)
 clear e1 mx my lx ly hl hx hy
 refine goM ?_
 refine l_callG c1 ?_
 refine goM ?_
 refine l_callG c2 ?_
 refine goM ?_
 exact end_2 (by first | exact .inl rfl | exact .inr rfl) ⟨rfl, hM.pre⟩
theorem addP_ (H : Heap) (a b : Int) (ha : fixMay a = true) (hb : fixMay b = true) : Call Tryz.prog 52 [.int .i64 a, .int .i64 b] H (.tup [.int .i64 (plus a b), .int .i64 0]) H := by
 refine call_pure fit mixed Tryz.func52 rfl rfl rfl (by kernel_rfl) rfl fun hM => ?_
 have c1 := fixMay_ H a
 have c2 := fixMay_ H b
 have c3 := fixAnd_ H a b
 rw [ha] at c1
 rw [hb] at c2
 clear ha hb
 refine goM ?_
 refine l_callG c1 ?_
 refine goM ?_
 refine l_callG c2 ?_
 refine goM ?_
 refine l_callG c3 ?_
 refine goM ?_
 exact end_2 (by first | exact .inl rfl | exact .inr rfl) ⟨rfl, hM.pre⟩
theorem actP_ (H : Heap) (x : Int) (hx : fixMay x = true) : Call Tryz.prog 53 [.int .i64 x] H (.tup [.int .i64 (hard x), .int .i64 0]) H := by
 refine call_pure fit mixed Tryz.func53 rfl rfl rfl (by kernel_rfl) rfl fun hM => ?_
 have c1 := fixMay_ H x
 have c2 := actHard_ H x
 rw [hx] at c1
 clear hx
 refine goM ?_
 refine l_callG c1 ?_
 refine goM ?_
 refine l_callG c2 ?_
 refine goM ?_
 exact end_2 (by first | exact .inl rfl | exact .inr rfl) ⟨rfl, hM.pre⟩
theorem sizeP_ (H : Heap) (i h : Nat) (hs : shapeMay (i : Int) (h : Int) = true) (hi : i ≤ 3) (hh : h ≤ 3) : Call Tryz.prog 50 [.agg [.int .i64 (i : Int), .int .i64 (h : Int)]] H (.tup [.int .i64 (netSize i h : Nat), .int .i64 0]) H := by
 refine call_pure fit mixed Tryz.func50 rfl rfl rfl (by kernel_rfl) rfl fun hM => ?_
 refine wq_seq (wq_line ?_)
 refine l_boxM T23 fun b1 H1 hM => ?_
 have c1 := shapeMay_ H1 (i : Int) (h : Int)
 have c2 := shapeMany_ H1 i h hi hh
 rw [hs] at c1
 clear hs hi hh
 refine goM ?_
 refine l_callG c1 ?_
 refine goM ?_
 refine l_callG c2 ?_
 refine goM ?_
 exact end_2 (by first | exact .inl rfl | exact .inr rfl) ⟨rfl, hM.pre⟩
theorem sizeP_bad (H : Heap) (i h : Int) (hs : shapeMay i h = false) : Call Tryz.prog 50 [.agg [.int .i64 i, .int .i64 h]] H (.tup [.int .i64 0, .int .i64 500]) H := by
 refine call_pure fit mixed Tryz.func50 rfl rfl rfl (by kernel_rfl) rfl fun hM => ?_
 refine wq_seq (wq_line ?_)
 refine l_boxM T23 fun b1 H1 hM => ?_
 have c1 := shapeMay_ H1 i h
 rw [hs] at c1
 clear hs
 refine goM ?_
 refine l_callG c1 ?_
 refine goM ?_
 exact end_2 (by first | exact .inl rfl | exact .inr rfl) ⟨rfl, hM.pre⟩
theorem sizeP_any (H : Heap) (i h : Int) : ∃ k g, Call Tryz.prog 50 [.agg [.int .i64 i, .int .i64 h]] H (.tup [.int .i64 k, .int .i64 g]) H := by
 cases hs : shapeMay i h with
 | false => exact ⟨_, _, sizeP_bad H i h hs⟩
 | true =>
  obtain ⟨i', h', rfl, rfl, _, hi, _, hh⟩ := shape_nat hs
  exact ⟨_, _, sizeP_ H i' h' hs hi hh⟩
theorem outP_bad (H : Heap) (i h : Int) (w x : V) (ws xs : List Int) (hw : Sl 1 intC H w ws) (hx : Sl 1 intC H x xs) (lw : ws.length ≤ 2 ^ 47) (lx : xs.length ≤ 2 ^ 47) (hbad : (fits i h ws && feeds i xs) = false) :
  Call Tryz.prog 48 [.agg [.int .i64 i, .int .i64 h], w, x] H (.tup [.int .i64 0, .int .i64 600]) H := by
 refine call_pure fit mixed Tryz.func48 rfl rfl rfl (by kernel_rfl) rfl fun hM => ?_
 refine wq_seq (wq_line ?_)
 refine l_boxM T23 fun b1 H1 hM => ?_
 obtain ⟨b, H2, c1, p2, _⟩ := new_ H1 i h w x ws xs (hw.mono hM.pre) (hx.mono hM.pre) lw lx
 rw [hbad] at c1
 clear hbad hw hx lw lx
 refine goM ?_
 refine l_callG c1 ?_
 replace hM := hM.grow p2
 refine goM ?_
 exact end_2 (by first | exact .inl rfl | exact .inr rfl) ⟨rfl, hM.pre⟩
theorem hiddenP_bad (H : Heap) (i h : Int) (w x : V) (ws xs : List Int) (hw : Sl 1 intC H w ws) (hx : Sl 1 intC H x xs) (lw : ws.length ≤ 2 ^ 47) (lx : xs.length ≤ 2 ^ 47) (hbad : (fits i h ws && feeds i xs) = false) :
  Call Tryz.prog 49 [.agg [.int .i64 i, .int .i64 h], w, x] H (.tup [.nils, .int .i64 600]) H := by
 refine call_pure fit mixed Tryz.func49 rfl rfl rfl (by kernel_rfl) rfl fun hM => ?_
 refine wq_seq (wq_line ?_)
 refine l_boxM T23 fun b1 H1 hM => ?_
 obtain ⟨b, H2, c1, p2, _⟩ := new_ H1 i h w x ws xs (hw.mono hM.pre) (hx.mono hM.pre) lw lx
 rw [hbad] at c1
 clear hbad hw hx lw lx
 refine goM ?_
 refine l_callG c1 ?_
 replace hM := hM.grow p2
 refine goM ?_
 exact end_2 (by first | exact .inl rfl | exact .inr rfl) ⟨rfl, hM.pre⟩
theorem dot_may (xs ys : List Int) : fixMay (dot xs ys) = true := by
 have gen : ∀ (xs ys : List Int) (s : Int), fixMay s = true → fixMay (dotFrom s xs ys) = true := by
  intro xs
  induction xs with
  | nil => intro ys s hs; unfold dotFrom; exact hs
  | cons x xs ih =>
   intro ys s hs
   cases ys with
   | nil => unfold dotFrom; exact hs
   | cons y ys => exact ih ys _ (plus_may _ _)
 exact gen xs ys 0 (by decide)
theorem units_mem {H H' : Heap} {u : V} {xs : List Int} (h : Mine 1 intC H H' u xs) : Mem H H' [.own 1 intC u xs] := h.mem
theorem outP_ (H : Heap) (i h : Nat) (w x : V) (ws xs : List Int) (hw : Sl 1 intC H w ws) (hx : Sl 1 intC H x xs) (hs : ws.length = netSize i h) (hi : i ≤ 3) (hh : h ≤ 3) (hxs : xs.length = i) (hf : fits (i : Int) (h : Int) ws = true) (hfeed : feeds (i : Int) xs = true) :
  Call Tryz.prog 48 [.agg [.int .i64 (i : Int), .int .i64 (h : Int)], w, x] H (.tup [.int .i64 (outOf i h ws xs), .int .i64 0]) H := by
 have hsm := small_size hi hh
 have hns : netSize i h = h * (i + 1) + h + 1 := rfl
 refine call_pure fit mixed Tryz.func48 rfl rfl rfl (by kernel_rfl) rfl fun hM => ?_
 refine wq_seq (wq_line ?_)
 refine l_boxM T23 fun b1 H1 hM => ?_
 obtain ⟨b, H2, c1, p2, hn⟩ := new_ H1 i h w x ws xs (hw.mono hM.pre) (hx.mono hM.pre) (by omega) (by omega)
 rw [hf, hfeed] at c1
 have q2 := hM.pre.trans p2
 obtain ⟨u, H3, c2, m3⟩ := units_ H2 b i h w x ws xs hn (hw.mono q2) (hx.mono q2) hs hi hh hxs
 have c3 := tells_ H3 b i h w u ws (units i h ws xs) (hn.mono m3.1) (hw.mono (q2.trans m3.1)) m3.sl hs hi hh (by simp [units])
 have p3 := m3.1
 have e : tells i h ws (units i h ws xs) = outOf i h ws xs := rfl
 rw [e] at c3
 clear e m3 hn q2 hw hx hs hi hh hxs hf hfeed hsm hns
 refine goM ?_
 refine l_callG c1 ?_
 replace hM := hM.grow p2
 refine goM ?_
 refine l_callG c2 ?_
 replace hM := hM.grow p3
 refine goM ?_
 refine l_callG c3 ?_
 refine goM ?_
 exact end_2 (by first | exact .inl rfl | exact .inr rfl) ⟨rfl, hM.pre⟩
theorem hiddenP_ (H : Heap) (i h : Nat) (w x : V) (ws xs : List Int) (hw : Sl 1 intC H w ws) (hx : Sl 1 intC H x xs) (hs : ws.length = netSize i h) (hi : i ≤ 3) (hh : h ≤ 3) (hxs : xs.length = i) (hf : fits (i : Int) (h : Int) ws = true) (hfeed : feeds (i : Int) xs = true) :
  ∃ v H', Call Tryz.prog 49 [.agg [.int .i64 (i : Int), .int .i64 (h : Int)], w, x] H v H' ∧ ∃ u, v = .tup [u, .int .i64 0] ∧ Mem H H' [.own 1 intC u (units i h ws xs)] := by
 have hsm := small_size hi hh
 have hns : netSize i h = h * (i + 1) + h + 1 := rfl
 refine call_mem fit mixed Tryz.func49 rfl rfl rfl (by kernel_rfl) fun hM => ?_
 refine wq_seq (wq_line ?_)
 refine l_boxM T23 fun b1 H1 hM => ?_
 obtain ⟨b, H2, c1, p2, hn⟩ := new_ H1 i h w x ws xs (hw.mono hM.pre) (hx.mono hM.pre) (by omega) (by omega)
 rw [hf, hfeed] at c1
 have q2 := hM.pre.trans p2
 obtain ⟨u, H3, c2, m3⟩ := units_ H2 b i h w x ws xs hn (hw.mono q2) (hx.mono q2) hs hi hh hxs
 have m4 := units_mem m3
 clear m3 hn q2 hw hx hs hi hh hxs hf hfeed hsm hns
 refine goM ?_
 refine l_callG c1 ?_
 replace hM := hM.grow p2
 refine goM ?_
 refine l_callG c2 ?_
 replace hM := hM.call1 m4
 clear m4
 refine goM ?_
 exact end_2 (by first | exact .inl rfl | exact .inr rfl) ⟨u, rfl, hM.subG⟩
theorem law_topNet {D : Type} (K : Heap) (vs : List V) (ds : List (DataW D)) (ro : Ro K) (h : RdAll T K [23, 27, 27] vs ds) : ∃ K', Call Tryz.prog 15 vs K (.bool true) K' := by
 obtain ⟨s, vs, d1, ds, rfl, rfl, hs, h⟩ := rdAll_cons h
 obtain ⟨w, vs, d2, ds, rfl, rfl, hw, h⟩ := rdAll_cons h
 obtain ⟨x, vs, d3, ds, rfl, rfl, hr, h⟩ := rdAll_cons h
 obtain ⟨rfl, rfl⟩ := rdAll_nil h
 obtain ⟨i, j, rfl⟩ := rd_shape hs
 obtain ⟨ws, hws, lw⟩ := rd_ints hw
 obtain ⟨xs, hxs, lx⟩ := rd_ints hr
 replace lw : ws.length * 8 ≤ 140737488351232 := lw
 replace lx : xs.length * 8 ≤ 140737488351232 := lx
 clear hs hw hr h
 refine ⟨K, ?_⟩
 refine call_pure fit mixed Tryz.func15 rfl rfl rfl (by kernel_rfl) rfl fun hM => ?_
 refine wq_seq (wq_line ?_)
 refine l_boxM T23 fun b1 H1 hM => ?_
 refine goM ?_
 refine l_callG (awakeT_ _) ?_
 cases hok : (fits i j ws && feeds i xs) with
 | false =>
  have c1 := outP_bad H1 i j w x ws xs (hws.mono hM.pre) (hxs.mono hM.pre) (by omega) (by omega) hok
  have c2 := hiddenP_bad H1 i j w x ws xs (hws.mono hM.pre) (hxs.mono hM.pre) (by omega) (by omega) hok
  obtain ⟨k, g, c3⟩ := sizeP_any H1 i j
  clear hok lw lx hws hxs
  refine goM ?_
  refine l_callG c1 ?_
  refine goM ?_
  refine l_callG c2 ?_
  refine goM ?_
  refine l_callG c3 ?_
  refine goM ?_
  refine l_callG (num_ _ _) ?_
  refine goM ?_
  refine l_callG (num_ _ _) ?_
  refine goM ?_
  refine l_callG (num_ _ _) ?_
  refine goM ?_
  refine l_callG (num_ _ _) ?_
  refine goM ?_
  exact end_1 (by first | exact .inl rfl | exact .inr rfl) ⟨rfl, hM.pre⟩
 | true =>
  rw [Bool.and_eq_true] at hok
  obtain ⟨hfit, hfeed⟩ := hok
  obtain ⟨hsm, hvw, i', j', rfl, rfl, hi1, hi2, hj1, hj2, hsz⟩ := fits_split hfit
  obtain ⟨hxl, hvx⟩ := feeds_split hfeed
  have hxl' : xs.length = i' := by omega
  have hns : netSize i' j' = j' * (i' + 1) + j' + 1 := rfl
  have hsml := small_size hi2 hj2
  have hwl := hws.len T27 rfl
  rw [hsz] at hwl
  have c1 := outP_ H1 i' j' w x ws xs (hws.mono hM.pre) (hxs.mono hM.pre) hsz hi2 hj2 hxl' hfit hfeed
  obtain ⟨_, H2, c2, u, rfl, m2⟩ := hiddenP_ H1 i' j' w x ws xs (hws.mono hM.pre) (hxs.mono hM.pre) hsz hi2 hj2 hxl' hfit hfeed
  have c3 := sizeP_ H2 i' j' hsm hi2 hj2
  have hul : (units i' j' ws xs).length = j' := by simp [units]
  have huk : ∀ k, k < j' → (units i' j' ws xs)[k]? = some (unit i' ws xs k) := fun k hk => by simp [units, hk]
  have hum : ∀ y ∈ units i' j' ws xs, fixMay y = true := fun y hy => by
   unfold units at hy
   obtain ⟨k, _, rfl⟩ := List.mem_map.1 hy
   exact plus_may _ _
  have hue := (m2.sl .here).len T27 rfl
  rw [hul] at hue
  have hout : outOf i' j' ws xs = plus (ws.getD (j' * (i' + 1) + j') 0) (dot ((ws.drop (j' * (i' + 1))).take j') (acts (units i' j' ws xs))) := rfl
  obtain ⟨us, hus⟩ : ∃ us, units i' j' ws xs = us := ⟨_, rfl⟩
  obtain ⟨y, hy⟩ : ∃ y, outOf i' j' ws xs = y := ⟨_, rfl⟩
  rw [hus] at m2 hul huk hum hout
  rw [hy] at c1 hout
  have d1 : decide ((i' : Int) < 1) = false := decide_eq_false (by omega)
  have d2 : decide ((i' : Int) > 3) = false := decide_eq_false (by omega)
  have d3 : decide ((j' : Int) < 1) = false := decide_eq_false (by omega)
  have d4 : decide ((j' : Int) > 3) = false := decide_eq_false (by omega)
  have wi2 : IntKind.i64.wrap ((i' : Int) + 2) = ((i' + 2 : Nat) : Int) := by rw [wrap_i64 (by omega) (by omega)]; omega
  have wi1 : IntKind.i64.wrap ((i' : Int) + 1) = ((i' + 1 : Nat) : Int) := wrap_succ (by omega)
  have hm2 : j' * (i' + 2) = j' * (i' + 1) + j' := by rw [Nat.mul_add, Nat.mul_add]; omega
  have wj2 : IntKind.i64.wrap ((j' : Int) * ((i' + 2 : Nat) : Int)) = ((j' * (i' + 2) : Nat) : Int) := by rw [← Int.natCast_mul]; exact wrap_nat (by omega)
  have wj3 : IntKind.i64.wrap (((j' * (i' + 2) : Nat) : Int) + 1) = ((netSize i' j' : Nat) : Int) := by rw [hm2, hns]; exact wrap_succ (n := j' * (i' + 1) + j') (by omega)
  have hnn : (((netSize i' j' : Nat) : Int) != ((netSize i' j' : Nat) : Int)) = false := by simp
  have hjj : ((j' : Int) != (j' : Int)) = false := by simp
  obtain ⟨nz, hnz⟩ : ∃ nz, netSize i' j' = nz := ⟨_, rfl⟩
  rw [hnz] at hwl c3 wj3 hnn
  clear hus hy hm2 hfit hfeed hsm
  refine goM ?_
  refine l_callG c1 ?_
  refine goM ?_
  refine l_callG c2 ?_
  replace hM := hM.call1 m2
  clear c1 c2 m2
  refine goM ?_
  refine l_callG c3 ?_
  clear c3
  refine goM ?_
  refine l_callG (num_ _ _) ?_
  refine goM ?_
  refine l_callG (num_ _ _) ?_
  refine goM ?_
  refine l_callG (num_ _ _) ?_
  refine goM ?_
  replace hM := hM.nil 1 intC
  refine wq_loop (fun cc ρ h => ∃ (k : Nat) (v : V), k ≤ j' ∧ cc = j' - k ∧ Mem K h [.own 1 intC v ((acts us).take k), .own 1 intC u us, .box b1 [.int .i64 (i' : Int), .int .i64 (j' : Int)]] ∧ ρ 1 = w ∧ ρ 2 = x ∧ ρ 3 = .ptr b1 0 ∧ ρ 7 = .int .i64 y ∧ ρ 9 = u ∧ ρ 13 = v ∧ ρ 14 = .int .i64 (k : Int)) ⟨0, .nils, Nat.zero_le _, rfl, hM, by simp [put_app, put_none, rho0_app, *]⟩ ?_
  repeat clear hM
  rintro _ ρ h ⟨k, v, hk, rfl, hM, g1, g2, g3, g7, g9, g13, g14⟩
  by_cases hk' : k < j'
  ·have dk : decide ((k : Int) < (j' : Int)) = true := decide_eq_true (by omega)
   have hw1 := wrap_succ (n := k) (by omega)
   have hue2 := unit_end (i := i') hk'
   obtain ⟨a, ha⟩ : ∃ a, k * (i' + 1) = a := ⟨_, rfl⟩
   rw [ha] at hue2
   have wk : IntKind.i64.wrap ((k : Int) * ((i' + 1 : Nat) : Int)) = (a : Int) := by rw [← Int.natCast_mul, ha]; exact wrap_nat (by omega)
   have wa : IntKind.i64.wrap ((a : Int) + (i' : Int)) = ((a + i' : Nat) : Int) := by rw [← Int.natCast_add]; exact wrap_nat (by omega)
   have hwh := hws.mono hM.pre
   obtain ⟨z, hz, hzs⟩ := hwh.part (l := a) (k := a + i') (by omega) (by omega)
   rw [List.drop_take, Nat.add_sub_cancel_left] at hzs
   have hget := getD_some (xs := ws) (k := a + i') (by omega)
   obtain ⟨b2, o2, _, hi2', rfl, _, hlo2, _⟩ := hwh.get T27 rfl T3 rfl hget
   have ho2 := loadV_one T3 rfl hlo2
   have hvp := vecMay_part hvw a i'
   have c1 := dotP_ h z x _ xs hzs (hxs.mono hM.pre) (by rw [List.length_take, List.length_drop]; omega) hvp hvx
   have hbm : fixMay (ws.getD (a + i') 0) = true := by
    have hall := hvw
    unfold vecMay at hall
    rw [Bool.and_eq_true, List.all_eq_true] at hall
    exact hall.2 _ (List.mem_of_getElem? hget)
   have hdm : fixMay (dot ((ws.drop a).take i') xs) = true := dot_may _ _
   have c2 := addP_ h _ _ hbm hdm
   have huu := huk k hk'
   have hun : unit i' ws xs k = plus (ws.getD (a + i') 0) (dot ((ws.drop a).take i') xs) := by unfold unit; rw [ha]
   rw [← hun] at c2
   obtain ⟨b3, o3, _, hi3, rfl, _, hlo3, _⟩ := (hM.sl (v := u) (xs := us) (by (repeat (first | exact Has.here | apply Has.there)))).get T27 rfl T3 rfl huu
   have ho3 := loadV_one T3 rfl hlo3
   have c3 := actP_ h (unit i' ws xs k) (hum _ (List.mem_of_getElem? huu))
   have hac : (acts us)[k]? = some (hard (unit i' ws xs k)) := by unfold acts; rw [List.getElem?_map, huu]; rfl
   have htk : (acts us).take k ++ [hard (unit i' ws xs k)] = (acts us).take (k + 1) := by rw [List.take_add_one, hac]; rfl
   have hal : ((acts us).take k).length ≤ 3 := by rw [List.length_take]; omega
   generalize unit i' ws xs k = q at *
   generalize dot ((ws.drop a).take i') xs = r at *
   generalize ws.getD (a + i') 0 = bs at *
   have hqq : (q != q) = false := by simp
   clear hun hbm hdm hvp hzs hget hlo2 hlo3 huu hac ha hwh hue2
   refine goM ?_
   refine l_callG c1 ?_
   refine goM ?_
   refine l_callG c2 ?_
   refine goM ?_
   refine l_callG c3 ?_
   refine goM ?_
   refine l_callG (num_ _ _) ?_
   refine goM ?_
   refine l_callG (num_ _ _) ?_
   refine goM ?_
   refine l_callG (num_ _ _) ?_
   refine goM ?_
   refine l_sliceM intC [hard q] [.int .i64 (hard q)] T27 rfl T3 rfl (cells_ints [hard q]) (by decide) fun e1 H5 hM => ?_
   refine goM ?_
   refine l_appM (hM.sl .here) (xs := (acts us).take k) (hh := .there .here) (hb := by simp only [List.length_cons, List.length_nil]; omega) fun v2 H6 hM => ?_
   rw [htk] at hM
   replace hM := hM.drop
   clear htk
   refine goM ?_
   exact ⟨j' - (k + 1), by omega, k + 1, v2, hk', rfl, hM, by simp [put_app, put_none, *]⟩
  ·have dk : decide ((k : Int) < (j' : Int)) = false := decide_eq_false (by omega)
   obtain rfl : k = j' := by omega
   have htk : (acts us).take k = acts us := List.take_of_length_le (by simp [acts]; omega)
   rw [htk] at hM
   obtain ⟨a, ha⟩ : ∃ a, k * (i' + 1) = a := ⟨_, rfl⟩
   rw [ha] at hout hns hsml
   have wk : IntKind.i64.wrap ((k : Int) * ((i' + 1 : Nat) : Int)) = (a : Int) := by rw [← Int.natCast_mul, ha]; exact wrap_nat (by omega)
   have wa : IntKind.i64.wrap ((a : Int) + (k : Int)) = ((a + k : Nat) : Int) := by rw [← Int.natCast_add]; exact wrap_nat (by omega)
   have hwh := hws.mono hM.pre
   obtain ⟨z, hz, hzs⟩ := hwh.part (l := a) (k := a + k) (by omega) (by omega)
   rw [List.drop_take, Nat.add_sub_cancel_left] at hzs
   have hget := getD_some (xs := ws) (k := a + k) (by omega)
   obtain ⟨b2, o2, _, hi2', rfl, _, hlo2, _⟩ := hwh.get T27 rfl T3 rfl hget
   have ho2 := loadV_one T3 rfl hlo2
   have hvp := vecMay_part hvw a k
   have hal : (acts us).length = k := by unfold acts; rw [List.length_map]; exact hul
   have hva : vecMay (acts us) = true := vecMay_acts (by omega)
   have c1 := dotP_ h z v _ (acts us) hzs (hM.sl .here) (by rw [List.length_take, List.length_drop]; omega) hvp hva
   have hbm : fixMay (ws.getD (a + k) 0) = true := by
    have hall := hvw
    unfold vecMay at hall
    rw [Bool.and_eq_true, List.all_eq_true] at hall
    exact hall.2 _ (List.mem_of_getElem? hget)
   have hdm : fixMay (dot ((ws.drop a).take k) (acts us)) = true := dot_may _ _
   have c2 := addP_ h _ _ hbm hdm
   rw [← hout] at c2
   generalize dot ((ws.drop a).take k) (acts us) = r at *
   generalize ws.getD (a + k) 0 = bs at *
   have hqq : (y == y) = true := by simp
   clear hout hbm hdm hvp hzs hget hlo2 ha hwh hva hal htk
   refine goM ?_
   refine l_callG c1 ?_
   refine goM ?_
   refine l_callG c2 ?_
   refine goM ?_
   refine l_callG (num_ _ _) ?_
   refine goM ?_
   refine l_callG (num_ _ _) ?_
   refine goM ?_
   exact end_1 (by first | exact .inl rfl | exact .inr rfl) ⟨rfl, hM.pre⟩
end Go.Proofs.YtaofdhgkgklppaaGreat.VM
