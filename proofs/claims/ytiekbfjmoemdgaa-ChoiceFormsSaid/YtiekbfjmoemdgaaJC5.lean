/- Joined texts: ChoiceC. -/
import Derived.Test.YtiekbfjmoemdgaaJC4
/- Chapter 13: what every program answers; the statements Choices, ChoiceForms, ChoiceBest. -/
namespace Go.Proofs.Ytiekbfjmoemdgaa.VM
open Go
set_option linter.unusedVariables false
set_option linter.unusedSimpArgs false
attribute [local irreducible] wq wqL wqD wqE wqO Th Bk EndR
set_option maxHeartbeats 8000000

theorem awake13_ (K : Heap) : Call Try.prog 22 [] K (.bool true) K := by
  have e1 : donorR [5, -3, 5, 0] 2 2 32768 = (3, true, 0) := by decide +kernel
  have e2 : donorR [5, -3, 5, 0] 0 1 0 = (0, false, 0) := by decide +kernel
  have e3 : donorR [5, -3, 5, 0] 4 1 0 = (0, false, 1300) := by decide +kernel
  have e4 : donorR [5, -3, 5, 0] 0 3 0 = (0, false, 1300) := by decide +kernel
  refine call_pure fit mixed Try.func22 rfl rfl rfl (by kernel_rfl) rfl fun hM => ?_
  refine goM ?_
  refine l_sliceM intC [5, -3, 5, 0] [.int .i64 5, .int .i64 (-3), .int .i64 5, .int .i64 0] T22 rfl T3 rfl (ints_cells [5, -3, 5, 0]) (by decide) fun v1 H1 hM => ?_
  have c1 := donor_ H1 v1 [5, -3, 5, 0] 2 2 32768 (hM.sl .here) (by decide)
  have c2 := donor_ H1 v1 [5, -3, 5, 0] 0 1 0 (hM.sl .here) (by decide)
  have c3 := donor_ H1 v1 [5, -3, 5, 0] 4 1 0 (hM.sl .here) (by decide)
  have c4 := donor_ H1 v1 [5, -3, 5, 0] 0 3 0 (hM.sl .here) (by decide)
  rw [e1] at c1
  rw [e2] at c2
  rw [e3] at c3
  rw [e4] at c4
  clear e1 e2 e3 e4
  refine goM ?_
  refine l_callG c1 ?_
  refine goM ?_
  refine l_callG c2 ?_
  refine goM ?_
  refine l_callG c3 ?_
  refine goM ?_
  refine l_callG c4 ?_
  refine goM ?_
  refine l_callG (num_ _ _) ?_
  refine goM ?_
  refine l_callG (num_ _ _) ?_
  refine goM ?_
  refine l_callG (num_ _ _) ?_
  refine goM ?_
  refine l_callG (num_ _ _) ?_
  refine goM ?_
  exact end_1 (by first | exact .inl rfl | exact .inr rfl) ⟨rfl, hM.pre⟩

theorem law_choices {D : Type} (K : Heap) (vs : List V) (ds : List (DataW D)) (ro : Ro K) (h : RdAll T K [22, 3, 3, 3] vs ds) : ∃ K', Call Try.prog 7 vs K (.bool true) K' := by
  obtain ⟨v1, vs, d1, ds, rfl, rfl, hv1, h⟩ := rdAll_cons h
  obtain ⟨v2, vs, d2, ds, rfl, rfl, hv2, h⟩ := rdAll_cons h
  obtain ⟨v3, vs, d3, ds, rfl, rfl, hv3, h⟩ := rdAll_cons h
  obtain ⟨v4, vs, d4, ds, rfl, rfl, hv4, h⟩ := rdAll_cons h
  obtain ⟨rfl, rfl⟩ := rdAll_nil h
  obtain ⟨ss, hs, lw⟩ := rd_ints hv1
  replace lw : ss.length * 8 ≤ 140737488351232 := lw
  obtain ⟨m, rfl, _⟩ := hv2.int T3 rfl
  obtain ⟨cut, rfl, _⟩ := hv3.int T3 rfl
  obtain ⟨x, rfl, _⟩ := hv4.int T3 rfl
  clear hv1 hv2 hv3 hv4 h
  refine ⟨K, ?_⟩
  have s1 := hs.cells
  refine call_pure fit mixed Try.func7 rfl rfl rfl (by kernel_rfl) rfl fun hM => ?_
  obtain ⟨us, H1, c1, p1, hlent⟩ := lendInts_ K v1 ss hs (by omega)
  refine goM ?_
  refine l_callG c1 ?_
  clear c1
  have s2 := hlent.sl.cells
  have c1 := donor_ H1 us ss m cut x hlent.sl (by omega)
  have c2 := refDonor_ H1 v1 ss m cut x (hs.mono p1) (by omega)
  have c3 := keptInts_ H1 us v1 ss ss hlent (hs.mono p1) (by omega)
  rw [decide_eq_true rfl] at c3
  generalize donorR ss m cut x = o at *
  refine goM ?_
  refine l_callG c1 ?_
  refine goM ?_
  refine l_callG c2 ?_
  refine goM ?_
  refine l_callG (num_ _ _) ?_
  refine goM ?_
  refine l_callG c3 ?_
  refine goM ?_
  refine l_callG (awake13_ _) ?_
  refine goM ?_
  exact end_1 (by first | exact .inl rfl | exact .inr rfl) ⟨rfl, p1⟩

theorem donor_no {ss : List Int} {m cut x : Int} (h : donorOk ss m cut x = false) : donorR ss m cut x = (0, false, 1300) := by unfold donorR; rw [h]; rfl
theorem donorOk_may {ss : List Int} {m cut x : Int} (h : rankMay ss = false) : donorOk ss m cut x = false := by unfold donorOk; rw [h]; rfl
theorem may_over {d : Int} (h : 1 ≤ d) : rankMay [0, 1073741824 + d] = false := by
  have : vecMay [0, 1073741824 + d] = false := by
    unfold vecMay
    rw [Bool.and_eq_false_iff]; right
    rw [List.all_eq_false]
    exact ⟨1073741824 + d, by simp, by simp [within]; omega⟩
  unfold rankMay; rw [this, Bool.and_false]
def cells2 (cs : List V) (v : V) : Prop := cs = [v]
theorem cells2_of (xs : List V) : Cells 1 cells2 (xs.flatMap fun x => [x]) xs := cells_of (R := cells2) (fun x => [x]) (fun x => ⟨rfl, rfl⟩) xs

theorem law_choiceForms {D : Type} (K : Heap) (vs : List V) (ds : List (DataW D)) (ro : Ro K) (h : RdAll T K [3, 3] vs ds) : ∃ K', Call Try.prog 8 vs K (.bool true) K' := by
  obtain ⟨v1, vs, d1, ds, rfl, rfl, hv1, h⟩ := rdAll_cons h
  obtain ⟨v2, vs, d2, ds, rfl, rfl, hv2, h⟩ := rdAll_cons h
  obtain ⟨rfl, rfl⟩ := rdAll_nil h
  obtain ⟨n, rfl, _⟩ := hv1.int T3 rfl
  obtain ⟨x, rfl, _⟩ := hv2.int T3 rfl
  clear hv1 hv2 h
  obtain ⟨y, hy, hy0, hy1⟩ := and_mask x 1023 (by decide) (by decide)
  replace hy : IntKind.i64.wrap ((BitVec.ofInt IntKind.i64.bits x &&& BitVec.ofInt IntKind.i64.bits 1023).toNat : Int) = y := hy
  obtain ⟨z, hz, hz0, hz1⟩ := and_mask n 1 (by decide) (by decide)
  replace hz : IntKind.i64.wrap ((BitVec.ofInt IntKind.i64.bits n &&& BitVec.ofInt IntKind.i64.bits 1).toNat : Int) = z := hz
  obtain ⟨d, hd⟩ : ∃ d, 1 + y = d := ⟨_, rfl⟩
  have hd1 : IntKind.i64.wrap (1 + y) = d := by rw [hd]; exact wrap_i64 (by omega) (by omega)
  have w1 : IntKind.i64.wrap (1073741824 + d) = 1073741824 + d := wrap_i64 (by omega) (by omega)
  have w2 : IntKind.i64.wrap (0 - d) = 0 - d := wrap_i64 (by omega) (by omega)
  have w3 : IntKind.i64.wrap (3 + d) = 3 + d := wrap_i64 (by omega) (by omega)
  have w4 : IntKind.i64.wrap (1 - d) = 1 - d := wrap_i64 (by omega) (by omega)
  have w5 : IntKind.i64.wrap (2 + d) = 2 + d := wrap_i64 (by omega) (by omega)
  have w6 : IntKind.i64.wrap (65535 + d) = 65535 + d := wrap_i64 (by omega) (by omega)
  have hz2 : z = 0 ∨ z = 1 := by omega
  have hm4 : rankMay [5, 3, 9, 1] = true := by decide +kernel
  have f0 : donorR [] 0 1 0 = (0, false, 1300) := donor_no (donorOk_may rfl)
  have f1 : donorR [0, 1073741824 + d] 0 1 0 = (0, false, 1300) := donor_no (donorOk_may (may_over (by omega)))
  have no : ∀ m cut x : Int, (m < 0 ∨ m > 3 ∨ cut < 1 ∨ cut > 2 ∨ x < 0 ∨ x > 65535) → donorR [5, 3, 9, 1] m cut x = (0, false, 1300) := fun m cut x h => donor_no (by
    rw [donorOk_eq hm4, Bool.eq_false_iff]
    intro e
    simp only [Bool.and_eq_true, within_iff] at e
    have e1 : (([5, 3, 9, 1] : List Int).length : Int) = 4 := rfl
    have e2 : (((([5, 3, 9, 1] : List Int).length / 2 : Nat)) : Int) = 2 := rfl
    rw [e1, e2] at e
    omega)
  have g0 := no (0 - d) 1 0 (by omega)
  have g1 := no (3 + d) 1 0 (by omega)
  have k0 := no 0 (1 - d) 0 (by omega)
  have k1 := no 0 (2 + d) 0 (by omega)
  have q0 := no 0 1 (0 - d) (by omega)
  have q1 := no 0 1 (65535 + d) (by omega)
  have f7 : donorR [7] 0 1 0 = (0, false, 1300) := by decide +kernel
  clear hd hy0 hy1 hz0 hz1 no hm4
  refine ⟨K, ?_⟩
  refine call_pure fit mixed Try.func8 rfl rfl rfl (by kernel_rfl) rfl fun hM => ?_
  refine goM ?_
  refine l_callG (awake13_ _) ?_
  refine goM ?_
  refine l_sliceM intC [5, 3, 9, 1] [.int .i64 5, .int .i64 3, .int .i64 9, .int .i64 1] T22 rfl T3 rfl (ints_cells [5, 3, 9, 1]) (by decide) fun a1 H1 hM => ?_
  have s1 := (hM.sl .here).cells
  refine goM ?_
  refine l_sliceM intC [0, 1073741824 + d] [.int .i64 0, .int .i64 (1073741824 + d)] T22 rfl T3 rfl (ints_cells [0, 1073741824 + d]) (by decide) fun a2 H2 hM => ?_
  have s2 := (hM.sl .here).cells
  refine goM ?_
  refine l_sliceM cells2 [.nils, a2] [.nils, a2] T34 rfl T22 rfl (cells2_of [.nils, a2]) (by decide) fun a3 H3 hM => ?_
  rcases hz2 with rfl | rfl
  · obtain ⟨b2, o2, _, hi, rfl, _, hlo, _⟩ := (hM.sl .here).get T34 rfl T22 rfl (k := 0) (x := .nils) rfl
    replace hi : idxV T 34 a3 0 = some (.ptr b2 o2) := hi
    have ho := loadV_one T22 rfl hlo
    have c1 := donor_ H3 .nils ([] : List Int) 0 1 0 (.inl ⟨rfl, rfl⟩) (by simp)
    rw [f0] at c1
    clear hlo
    refine goM ?_
    refine l_callG c1 ?_
    clear ho hi c1
    refine goM ?_
    refine l_sliceM intC [0 - d, 3 + d] [.int .i64 (0 - d), .int .i64 (3 + d)] T22 rfl T3 rfl (ints_cells [0 - d, 3 + d]) (by decide) fun a4 H4 hM => ?_
    obtain ⟨b2, o2, _, hi, rfl, _, hlo, _⟩ := (hM.sl .here).get T22 rfl T3 rfl (k := 0) (x := 0 - d) rfl
    replace hi : idxV T 22 a4 0 = some (.ptr b2 o2) := hi
    have ho := loadV_one T3 rfl hlo
    have c1 := donor_ H4 a1 [5, 3, 9, 1] (0 - d) 1 0 (hM.slG) (by decide)
    rw [g0] at c1
    clear hlo
    refine goM ?_
    refine l_callG c1 ?_
    clear ho hi c1
    refine goM ?_
    refine l_sliceM intC [1 - d, 2 + d] [.int .i64 (1 - d), .int .i64 (2 + d)] T22 rfl T3 rfl (ints_cells [1 - d, 2 + d]) (by decide) fun a4 H4 hM => ?_
    obtain ⟨b2, o2, _, hi, rfl, _, hlo, _⟩ := (hM.sl .here).get T22 rfl T3 rfl (k := 0) (x := 1 - d) rfl
    replace hi : idxV T 22 a4 0 = some (.ptr b2 o2) := hi
    have ho := loadV_one T3 rfl hlo
    have c1 := donor_ H4 a1 [5, 3, 9, 1] 0 (1 - d) 0 (hM.slG) (by decide)
    rw [k0] at c1
    clear hlo
    refine goM ?_
    refine l_callG c1 ?_
    clear ho hi c1
    refine goM ?_
    refine l_sliceM intC [0 - d, 65535 + d] [.int .i64 (0 - d), .int .i64 (65535 + d)] T22 rfl T3 rfl (ints_cells [0 - d, 65535 + d]) (by decide) fun a4 H4 hM => ?_
    obtain ⟨b2, o2, _, hi, rfl, _, hlo, _⟩ := (hM.sl .here).get T22 rfl T3 rfl (k := 0) (x := 0 - d) rfl
    replace hi : idxV T 22 a4 0 = some (.ptr b2 o2) := hi
    have ho := loadV_one T3 rfl hlo
    have c1 := donor_ H4 a1 [5, 3, 9, 1] 0 1 (0 - d) (hM.slG) (by decide)
    rw [q0] at c1
    clear hlo
    refine goM ?_
    refine l_callG c1 ?_
    clear ho hi c1
    refine goM ?_
    refine l_sliceM intC [7] [.int .i64 7] T22 rfl T3 rfl (ints_cells [7]) (by decide) fun a5 H5 hM => ?_
    have c1 := donor_ H5 a5 [7] 0 1 0 (hM.sl .here) (by decide)
    rw [f7] at c1
    refine goM ?_
    refine l_callG c1 ?_
    clear c1
    refine goM ?_
    refine l_callG (num_ _ _) ?_
    refine goM ?_
    refine l_callG (num_ _ _) ?_
    refine goM ?_
    refine l_callG (num_ _ _) ?_
    refine goM ?_
    refine l_callG (num_ _ _) ?_
    refine goM ?_
    refine l_callG (num_ _ _) ?_
    refine goM ?_
    exact end_1 (by first | exact .inl rfl | exact .inr rfl) ⟨rfl, hM.pre⟩
  · obtain ⟨b2, o2, _, hi, rfl, _, hlo, _⟩ := (hM.sl .here).get T34 rfl T22 rfl (k := 1) (x := a2) rfl
    replace hi : idxV T 34 a3 1 = some (.ptr b2 o2) := hi
    have ho := loadV_one T22 rfl hlo
    have c1 := donor_ H3 a2 [0, 1073741824 + d] 0 1 0 (hM.sl (sz := 1) (R := intC) (v := a2) (xs := [0, 1073741824 + d]) (by (repeat (first | exact Has.here | apply Has.there)))) (by simp)
    rw [f1] at c1
    clear hlo
    refine goM ?_
    refine l_callG c1 ?_
    clear ho hi c1
    refine goM ?_
    refine l_sliceM intC [0 - d, 3 + d] [.int .i64 (0 - d), .int .i64 (3 + d)] T22 rfl T3 rfl (ints_cells [0 - d, 3 + d]) (by decide) fun a4 H4 hM => ?_
    obtain ⟨b2, o2, _, hi, rfl, _, hlo, _⟩ := (hM.sl .here).get T22 rfl T3 rfl (k := 1) (x := 3 + d) rfl
    replace hi : idxV T 22 a4 1 = some (.ptr b2 o2) := hi
    have ho := loadV_one T3 rfl hlo
    have c1 := donor_ H4 a1 [5, 3, 9, 1] (3 + d) 1 0 (hM.slG) (by decide)
    rw [g1] at c1
    clear hlo
    refine goM ?_
    refine l_callG c1 ?_
    clear ho hi c1
    refine goM ?_
    refine l_sliceM intC [1 - d, 2 + d] [.int .i64 (1 - d), .int .i64 (2 + d)] T22 rfl T3 rfl (ints_cells [1 - d, 2 + d]) (by decide) fun a4 H4 hM => ?_
    obtain ⟨b2, o2, _, hi, rfl, _, hlo, _⟩ := (hM.sl .here).get T22 rfl T3 rfl (k := 1) (x := 2 + d) rfl
    replace hi : idxV T 22 a4 1 = some (.ptr b2 o2) := hi
    have ho := loadV_one T3 rfl hlo
    have c1 := donor_ H4 a1 [5, 3, 9, 1] 0 (2 + d) 0 (hM.slG) (by decide)
    rw [k1] at c1
    clear hlo
    refine goM ?_
    refine l_callG c1 ?_
    clear ho hi c1
    refine goM ?_
    refine l_sliceM intC [0 - d, 65535 + d] [.int .i64 (0 - d), .int .i64 (65535 + d)] T22 rfl T3 rfl (ints_cells [0 - d, 65535 + d]) (by decide) fun a4 H4 hM => ?_
    obtain ⟨b2, o2, _, hi, rfl, _, hlo, _⟩ := (hM.sl .here).get T22 rfl T3 rfl (k := 1) (x := 65535 + d) rfl
    replace hi : idxV T 22 a4 1 = some (.ptr b2 o2) := hi
    have ho := loadV_one T3 rfl hlo
    have c1 := donor_ H4 a1 [5, 3, 9, 1] 0 1 (65535 + d) (hM.slG) (by decide)
    rw [q1] at c1
    clear hlo
    refine goM ?_
    refine l_callG c1 ?_
    clear ho hi c1
    refine goM ?_
    refine l_sliceM intC [7] [.int .i64 7] T22 rfl T3 rfl (ints_cells [7]) (by decide) fun a5 H5 hM => ?_
    have c1 := donor_ H5 a5 [7] 0 1 0 (hM.sl .here) (by decide)
    rw [f7] at c1
    refine goM ?_
    refine l_callG c1 ?_
    clear c1
    refine goM ?_
    refine l_callG (num_ _ _) ?_
    refine goM ?_
    refine l_callG (num_ _ _) ?_
    refine goM ?_
    refine l_callG (num_ _ _) ?_
    refine goM ?_
    refine l_callG (num_ _ _) ?_
    refine goM ?_
    refine l_callG (num_ _ _) ?_
    refine goM ?_
    exact end_1 (by first | exact .inl rfl | exact .inr rfl) ⟨rfl, hM.pre⟩
end Go.Proofs.Ytiekbfjmoemdgaa.VM
