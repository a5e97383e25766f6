/- Joined texts: ChoiceC, ChoiceD, ChoiceE, ChoiceF. -/
import Derived.Test.YtiekbfjmoemdgaaJC4
/- Chapter 13: what every program answers; the statements Choices, ChoiceForms, ChoiceBest. -/
namespace Go.Proofs.Ytiekbfjmoemdgaa.VM
open Go
set_option linter.unusedVariables false
set_option linter.unusedSimpArgs false
attribute [local irreducible] wq wqL wqD wqE wqO Th Bk EndR
set_option maxHeartbeats 8000000

theorem awake13_ (K : Heap) : Call Try.prog 22 [] K (.bool true) K := by
  have e1 : donorR [5, -3, 5, 0] 2 2 32768 = (3, true, 0) := by decide +kernel
  have e2 : donorR [5, -3, 5, 0] 0 1 0 = (0, false, 0) := by decide +kernel
  have e3 : donorR [5, -3, 5, 0] 4 1 0 = (0, false, 1300) := by decide +kernel
  have e4 : donorR [5, -3, 5, 0] 0 3 0 = (0, false, 1300) := by decide +kernel
  refine call_pure fit mixed Try.func22 rfl rfl rfl (by kernel_rfl) rfl fun hM => ?_
  refine goM ?_
  refine l_sliceM intC [5, -3, 5, 0] [.int .i64 5, .int .i64 (-3), .int .i64 5, .int .i64 0] T22 rfl T3 rfl (ints_cells [5, -3, 5, 0]) (by decide) fun v1 H1 hM => ?_
  have c1 := donor_ H1 v1 [5, -3, 5, 0] 2 2 32768 (hM.sl .here) (by decide)
  have c2 := donor_ H1 v1 [5, -3, 5, 0] 0 1 0 (hM.sl .here) (by decide)
  have c3 := donor_ H1 v1 [5, -3, 5, 0] 4 1 0 (hM.sl .here) (by decide)
  have c4 := donor_ H1 v1 [5, -3, 5, 0] 0 3 0 (hM.sl .here) (by decide)
  rw [e1] at c1
  rw [e2] at c2
  rw [e3] at c3
  rw [e4] at c4
  clear e1 e2 e3 e4
  refine goM ?_
  refine l_callG c1 ?_
  refine goM ?_
  refine l_callG c2 ?_
  refine goM ?_
  refine l_callG c3 ?_
  refine goM ?_
  refine l_callG c4 ?_
  refine goM ?_
  refine l_callG (num_ _ _) ?_
  refine goM ?_
  refine l_callG (num_ _ _) ?_
  refine goM ?_
  refine l_callG (num_ _ _) ?_
  refine goM ?_
  refine l_callG (num_ _ _) ?_
  refine goM ?_
  exact end_1 (by first | exact .inl rfl | exact .inr rfl) ⟨rfl, hM.pre⟩

theorem law_choices {D : Type} (K : Heap) (vs : List V) (ds : List (DataW D)) (ro : Ro K) (h : RdAll T K [22, 3, 3, 3] vs ds) : ∃ K', Call Try.prog 7 vs K (.bool true) K' := by
  obtain ⟨v1, vs, d1, ds, rfl, rfl, hv1, h⟩ := rdAll_cons h
  obtain ⟨v2, vs, d2, ds, rfl, rfl, hv2, h⟩ := rdAll_cons h
  obtain ⟨v3, vs, d3, ds, rfl, rfl, hv3, h⟩ := rdAll_cons h
  obtain ⟨v4, vs, d4, ds, rfl, rfl, hv4, h⟩ := rdAll_cons h
  obtain ⟨rfl, rfl⟩ := rdAll_nil h
  obtain ⟨ss, hs, lw⟩ := rd_ints hv1
  replace lw : ss.length * 8 ≤ 140737488351232 := lw
  obtain ⟨m, rfl, _⟩ := hv2.int T3 rfl
  obtain ⟨cut, rfl, _⟩ := hv3.int T3 rfl
  obtain ⟨x, rfl, _⟩ := hv4.int T3 rfl
  clear hv1 hv2 hv3 hv4 h
  refine ⟨K, ?_⟩
  have s1 := hs.cells
  refine call_pure fit mixed Try.func7 rfl rfl rfl (by kernel_rfl) rfl fun hM => ?_
  obtain ⟨us, H1, c1, p1, hlent⟩ := lendInts_ K v1 ss hs (by omega)
  refine goM ?_
  refine l_callG c1 ?_
  clear c1
  have s2 := hlent.sl.cells
  have c1 := donor_ H1 us ss m cut x hlent.sl (by omega)
  have c2 := refDonor_ H1 v1 ss m cut x (hs.mono p1) (by omega)
  have c3 := keptInts_ H1 us v1 ss ss hlent (hs.mono p1) (by omega)
  rw [decide_eq_true rfl] at c3
  generalize donorR ss m cut x = o at *
  refine goM ?_
  refine l_callG c1 ?_
  refine goM ?_
  refine l_callG c2 ?_
  refine goM ?_
  refine l_callG (num_ _ _) ?_
  refine goM ?_
  refine l_callG c3 ?_
  refine goM ?_
  refine l_callG (awake13_ _) ?_
  refine goM ?_
  exact end_1 (by first | exact .inl rfl | exact .inr rfl) ⟨rfl, p1⟩

theorem donor_no {ss : List Int} {m cut x : Int} (h : donorOk ss m cut x = false) : donorR ss m cut x = (0, false, 1300) := by unfold donorR; rw [h]; rfl
theorem donorOk_may {ss : List Int} {m cut x : Int} (h : rankMay ss = false) : donorOk ss m cut x = false := by unfold donorOk; rw [h]; rfl
theorem may_over {d : Int} (h : 1 ≤ d) : rankMay [0, 1073741824 + d] = false := by
  have : vecMay [0, 1073741824 + d] = false := by
    unfold vecMay
    rw [Bool.and_eq_false_iff]; right
    rw [List.all_eq_false]
    exact ⟨1073741824 + d, by simp, by simp [within]; omega⟩
  unfold rankMay; rw [this, Bool.and_false]
def cells2 (cs : List V) (v : V) : Prop := cs = [v]
theorem cells2_of (xs : List V) : Cells 1 cells2 (xs.flatMap fun x => [x]) xs := cells_of (R := cells2) (fun x => [x]) (fun x => ⟨rfl, rfl⟩) xs

theorem law_choiceForms {D : Type} (K : Heap) (vs : List V) (ds : List (DataW D)) (ro : Ro K) (h : RdAll T K [3, 3] vs ds) : ∃ K', Call Try.prog 8 vs K (.bool true) K' := by
  obtain ⟨v1, vs, d1, ds, rfl, rfl, hv1, h⟩ := rdAll_cons h
  obtain ⟨v2, vs, d2, ds, rfl, rfl, hv2, h⟩ := rdAll_cons h
  obtain ⟨rfl, rfl⟩ := rdAll_nil h
  obtain ⟨n, rfl, _⟩ := hv1.int T3 rfl
  obtain ⟨x, rfl, _⟩ := hv2.int T3 rfl
  clear hv1 hv2 h
  obtain ⟨y, hy, hy0, hy1⟩ := and_mask x 1023 (by decide) (by decide)
  replace hy : IntKind.i64.wrap ((BitVec.ofInt IntKind.i64.bits x &&& BitVec.ofInt IntKind.i64.bits 1023).toNat : Int) = y := hy
  obtain ⟨z, hz, hz0, hz1⟩ := and_mask n 1 (by decide) (by decide)
  replace hz : IntKind.i64.wrap ((BitVec.ofInt IntKind.i64.bits n &&& BitVec.ofInt IntKind.i64.bits 1).toNat : Int) = z := hz
  obtain ⟨d, hd⟩ : ∃ d, 1 + y = d := ⟨_, rfl⟩
  have hd1 : IntKind.i64.wrap (1 + y) = d := by rw [hd]; exact wrap_i64 (by omega) (by omega)
  have w1 : IntKind.i64.wrap (1073741824 + d) = 1073741824 + d := wrap_i64 (by omega) (by omega)
  have w2 : IntKind.i64.wrap (0 - d) = 0 - d := wrap_i64 (by omega) (by omega)
  have w3 : IntKind.i64.wrap (3 + d) = 3 + d := wrap_i64 (by omega) (by omega)
  have w4 : IntKind.i64.wrap (1 - d) = 1 - d := wrap_i64 (by omega) (by omega)
  have w5 : IntKind.i64.wrap (2 + d) = 2 + d := wrap_i64 (by omega) (by omega)
  have w6 : IntKind.i64.wrap (65535 + d) = 65535 + d := wrap_i64 (by omega) (by omega)
  have hz2 : z = 0 ∨ z = 1 := by omega
  have hm4 : rankMay [5, 3, 9, 1] = true := by decide +kernel
  have f0 : donorR [] 0 1 0 = (0, false, 1300) := donor_no (donorOk_may rfl)
  have f1 : donorR [0, 1073741824 + d] 0 1 0 = (0, false, 1300) := donor_no (donorOk_may (may_over (by omega)))
  have no : ∀ m cut x : Int, (m < 0 ∨ m > 3 ∨ cut < 1 ∨ cut > 2 ∨ x < 0 ∨ x > 65535) → donorR [5, 3, 9, 1] m cut x = (0, false, 1300) := fun m cut x h => donor_no (by
    rw [donorOk_eq hm4, Bool.eq_false_iff]
    intro e
    simp only [Bool.and_eq_true, within_iff] at e
    have e1 : (([5, 3, 9, 1] : List Int).length : Int) = 4 := rfl
    have e2 : (((([5, 3, 9, 1] : List Int).length / 2 : Nat)) : Int) = 2 := rfl
    rw [e1, e2] at e
    omega)
  have g0 := no (0 - d) 1 0 (by omega)
  have g1 := no (3 + d) 1 0 (by omega)
  have k0 := no 0 (1 - d) 0 (by omega)
  have k1 := no 0 (2 + d) 0 (by omega)
  have q0 := no 0 1 (0 - d) (by omega)
  have q1 := no 0 1 (65535 + d) (by omega)
  have f7 : donorR [7] 0 1 0 = (0, false, 1300) := by decide +kernel
  clear hd hy0 hy1 hz0 hz1 no hm4
  refine ⟨K, ?_⟩
  refine call_pure fit mixed Try.func8 rfl rfl rfl (by kernel_rfl) rfl fun hM => ?_
  refine goM ?_
  refine l_callG (awake13_ _) ?_
  refine goM ?_
  refine l_sliceM intC [5, 3, 9, 1] [.int .i64 5, .int .i64 3, .int .i64 9, .int .i64 1] T22 rfl T3 rfl (ints_cells [5, 3, 9, 1]) (by decide) fun a1 H1 hM => ?_
  have s1 := (hM.sl .here).cells
  refine goM ?_
  refine l_sliceM intC [0, 1073741824 + d] [.int .i64 0, .int .i64 (1073741824 + d)] T22 rfl T3 rfl (ints_cells [0, 1073741824 + d]) (by decide) fun a2 H2 hM => ?_
  have s2 := (hM.sl .here).cells
  refine goM ?_
  refine l_sliceM cells2 [.nils, a2] [.nils, a2] T34 rfl T22 rfl (cells2_of [.nils, a2]) (by decide) fun a3 H3 hM => ?_
  rcases hz2 with rfl | rfl
  · obtain ⟨b2, o2, _, hi, rfl, _, hlo, _⟩ := (hM.sl .here).get T34 rfl T22 rfl (k := 0) (x := .nils) rfl
    replace hi : idxV T 34 a3 0 = some (.ptr b2 o2) := hi
    have ho := loadV_one T22 rfl hlo
    have c1 := donor_ H3 .nils ([] : List Int) 0 1 0 (.inl ⟨rfl, rfl⟩) (by simp)
    rw [f0] at c1
    clear hlo
    refine goM ?_
    refine l_callG c1 ?_
    clear ho hi c1
    refine goM ?_
    refine l_sliceM intC [0 - d, 3 + d] [.int .i64 (0 - d), .int .i64 (3 + d)] T22 rfl T3 rfl (ints_cells [0 - d, 3 + d]) (by decide) fun a4 H4 hM => ?_
    obtain ⟨b2, o2, _, hi, rfl, _, hlo, _⟩ := (hM.sl .here).get T22 rfl T3 rfl (k := 0) (x := 0 - d) rfl
    replace hi : idxV T 22 a4 0 = some (.ptr b2 o2) := hi
    have ho := loadV_one T3 rfl hlo
    have c1 := donor_ H4 a1 [5, 3, 9, 1] (0 - d) 1 0 (hM.slG) (by decide)
    rw [g0] at c1
    clear hlo
    refine goM ?_
    refine l_callG c1 ?_
    clear ho hi c1
    refine goM ?_
    refine l_sliceM intC [1 - d, 2 + d] [.int .i64 (1 - d), .int .i64 (2 + d)] T22 rfl T3 rfl (ints_cells [1 - d, 2 + d]) (by decide) fun a4 H4 hM => ?_
    obtain ⟨b2, o2, _, hi, rfl, _, hlo, _⟩ := (hM.sl .here).get T22 rfl T3 rfl (k := 0) (x := 1 - d) rfl
    replace hi : idxV T 22 a4 0 = some (.ptr b2 o2) := hi
    have ho := loadV_one T3 rfl hlo
    have c1 := donor_ H4 a1 [5, 3, 9, 1] 0 (1 - d) 0 (hM.slG) (by decide)
    rw [k0] at c1
    clear hlo
    refine goM ?_
    refine l_callG c1 ?_
    clear ho hi c1
    refine goM ?_
    refine l_sliceM intC [0 - d, 65535 + d] [.int .i64 (0 - d), .int .i64 (65535 + d)] T22 rfl T3 rfl (ints_cells [0 - d, 65535 + d]) (by decide) fun a4 H4 hM => ?_
    obtain ⟨b2, o2, _, hi, rfl, _, hlo, _⟩ := (hM.sl .here).get T22 rfl T3 rfl (k := 0) (x := 0 - d) rfl
    replace hi : idxV T 22 a4 0 = some (.ptr b2 o2) := hi
    have ho := loadV_one T3 rfl hlo
    have c1 := donor_ H4 a1 [5, 3, 9, 1] 0 1 (0 - d) (hM.slG) (by decide)
    rw [q0] at c1
    clear hlo
    refine goM ?_
    refine l_callG c1 ?_
    clear ho hi c1
    refine goM ?_
    refine l_sliceM intC [7] [.int .i64 7] T22 rfl T3 rfl (ints_cells [7]) (by decide) fun a5 H5 hM => ?_
    have c1 := donor_ H5 a5 [7] 0 1 0 (hM.sl .here) (by decide)
    rw [f7] at c1
    refine goM ?_
    refine l_callG c1 ?_
    clear c1
    refine goM ?_
    refine l_callG (num_ _ _) ?_
    refine goM ?_
    refine l_callG (num_ _ _) ?_
    refine goM ?_
    refine l_callG (num_ _ _) ?_
    refine goM ?_
    refine l_callG (num_ _ _) ?_
    refine goM ?_
    refine l_callG (num_ _ _) ?_
    refine goM ?_
    exact end_1 (by first | exact .inl rfl | exact .inr rfl) ⟨rfl, hM.pre⟩
  · obtain ⟨b2, o2, _, hi, rfl, _, hlo, _⟩ := (hM.sl .here).get T34 rfl T22 rfl (k := 1) (x := a2) rfl
    replace hi : idxV T 34 a3 1 = some (.ptr b2 o2) := hi
    have ho := loadV_one T22 rfl hlo
    have c1 := donor_ H3 a2 [0, 1073741824 + d] 0 1 0 (hM.sl (sz := 1) (R := intC) (v := a2) (xs := [0, 1073741824 + d]) (by (repeat (first | exact Has.here | apply Has.there)))) (by simp)
    rw [f1] at c1
    clear hlo
    refine goM ?_
    refine l_callG c1 ?_
    clear ho hi c1
    refine goM ?_
    refine l_sliceM intC [0 - d, 3 + d] [.int .i64 (0 - d), .int .i64 (3 + d)] T22 rfl T3 rfl (ints_cells [0 - d, 3 + d]) (by decide) fun a4 H4 hM => ?_
    obtain ⟨b2, o2, _, hi, rfl, _, hlo, _⟩ := (hM.sl .here).get T22 rfl T3 rfl (k := 1) (x := 3 + d) rfl
    replace hi : idxV T 22 a4 1 = some (.ptr b2 o2) := hi
    have ho := loadV_one T3 rfl hlo
    have c1 := donor_ H4 a1 [5, 3, 9, 1] (3 + d) 1 0 (hM.slG) (by decide)
    rw [g1] at c1
    clear hlo
    refine goM ?_
    refine l_callG c1 ?_
    clear ho hi c1
    refine goM ?_
    refine l_sliceM intC [1 - d, 2 + d] [.int .i64 (1 - d), .int .i64 (2 + d)] T22 rfl T3 rfl (ints_cells [1 - d, 2 + d]) (by decide) fun a4 H4 hM => ?_
    obtain ⟨b2, o2, _, hi, rfl, _, hlo, _⟩ := (hM.sl .here).get T22 rfl T3 rfl (k := 1) (x := 2 + d) rfl
    replace hi : idxV T 22 a4 1 = some (.ptr b2 o2) := hi
    have ho := loadV_one T3 rfl hlo
    have c1 := donor_ H4 a1 [5, 3, 9, 1] 0 (2 + d) 0 (hM.slG) (by decide)
    rw [k1] at c1
    clear hlo
    refine goM ?_
    refine l_callG c1 ?_
    clear ho hi c1
    refine goM ?_
    refine l_sliceM intC [0 - d, 65535 + d] [.int .i64 (0 - d), .int .i64 (65535 + d)] T22 rfl T3 rfl (ints_cells [0 - d, 65535 + d]) (by decide) fun a4 H4 hM => ?_
    obtain ⟨b2, o2, _, hi, rfl, _, hlo, _⟩ := (hM.sl .here).get T22 rfl T3 rfl (k := 1) (x := 65535 + d) rfl
    replace hi : idxV T 22 a4 1 = some (.ptr b2 o2) := hi
    have ho := loadV_one T3 rfl hlo
    have c1 := donor_ H4 a1 [5, 3, 9, 1] 0 1 (65535 + d) (hM.slG) (by decide)
    rw [q1] at c1
    clear hlo
    refine goM ?_
    refine l_callG c1 ?_
    clear ho hi c1
    refine goM ?_
    refine l_sliceM intC [7] [.int .i64 7] T22 rfl T3 rfl (ints_cells [7]) (by decide) fun a5 H5 hM => ?_
    have c1 := donor_ H5 a5 [7] 0 1 0 (hM.sl .here) (by decide)
    rw [f7] at c1
    refine goM ?_
    refine l_callG c1 ?_
    clear c1
    refine goM ?_
    refine l_callG (num_ _ _) ?_
    refine goM ?_
    refine l_callG (num_ _ _) ?_
    refine goM ?_
    refine l_callG (num_ _ _) ?_
    refine goM ?_
    refine l_callG (num_ _ _) ?_
    refine goM ?_
    refine l_callG (num_ _ _) ?_
    refine goM ?_
    exact end_1 (by first | exact .inl rfl | exact .inr rfl) ⟨rfl, hM.pre⟩
end Go.Proofs.Ytiekbfjmoemdgaa.VM

/- Chapter 13: the statement ChoiceBest. -/
namespace Go.Proofs.Ytiekbfjmoemdgaa.VM
open Go
set_option linter.unusedVariables false
set_option linter.unusedSimpArgs false
attribute [local irreducible] wq wqL wqD wqE wqO Th Bk EndR
set_option maxHeartbeats 8000000

theorem may_row {ss : List Int} (h : rankMay ss = true) : rankE ss = 0 ∧ rankL ss = rankN (scoreAt ss) ss.length ∧ 1 ≤ ss.length ∧ ss.length ≤ 8 := by
  obtain ⟨_, h1, h8⟩ := rankL_len h
  exact ⟨by unfold rankE; rw [h]; rfl, by unfold rankL; rw [h]; rfl, h1, h8⟩
theorem no_row {ss : List Int} (h : rankMay ss = false) : rankE ss = 1200 ∧ rankL ss = [] := by unfold rankE rankL; rw [h]; exact ⟨rfl, rfl⟩
theorem row_inj {f : Nat → Int} {n i j c : Nat} (hi : (rankN f n)[i]? = some c) (hj : (rankN f n)[j]? = some c) : i = j := by
  have key : ∀ i j, (rankN f n)[i]? = some c → (rankN f n)[j]? = some c → i < j → False := fun i j hi hj h => by
    obtain ⟨l1, e1⟩ := List.getElem?_eq_some_iff.1 hi
    obtain ⟨l2, e2⟩ := List.getElem?_eq_some_iff.1 hj
    have := List.pairwise_iff_getElem.1 (rankN_sorted f n) i j l1 l2 h
    rw [e1, e2] at this
    exact before_irr f c this
  rcases Nat.lt_trichotomy i j with h | h | h
  · exact (key i j hi hj h).elim
  · exact h
  · exact (key j i hj hi h).elim
/-- what Donor tells of the one at i -/
theorem donor_row {ss : List Int} {i m c y : Nat} (hmay : rankMay ss = true) (hi : (rankN (scoreAt ss) ss.length)[i]? = some m) (hc : 1 ≤ c ∧ c ≤ ss.length / 2) (hy : y ≤ 65535) :
    donorR ss (m : Int) (c : Int) (y : Int) = if ss.length - c ≤ i then ((((rankN (scoreAt ss) ss.length).getD (y * c / 65536) 0 : Nat) : Int), true, (0 : Int)) else ((0 : Int), false, (0 : Int)) := by
  obtain ⟨_, f2, h1, h8⟩ := may_row hmay
  have hm : m < ss.length := (rankN_mem (scoreAt ss) ss.length m).1 (List.mem_iff_getElem?.2 ⟨i, hi⟩)
  have hok : donorOk ss (m : Int) (c : Int) (y : Int) = true := by
    rw [donorOk_eq hmay]
    simp only [Bool.and_eq_true, within_iff]
    omega
  have hiff : (m : Int) ∈ lastOnes ss (c : Int) ↔ ss.length - c ≤ i := by
    rw [lastOnes_mem, f2]
    simp only [Int.toNat_natCast]
    constructor
    · rintro ⟨t, e, h1, h2, h3⟩
      have : e = m := by omega
      subst this
      rw [row_inj hi h2]; exact h1
    · intro h
      exact ⟨i, m, h, hi, rfl⟩
  unfold donorR
  rw [if_pos hok, f2]
  simp only [Int.toNat_natCast, hiff, decide_eq_true_eq]

theorem law_choiceBest {D : Type} (K : Heap) (vs : List V) (ds : List (DataW D)) (ro : Ro K) (h : RdAll T K [22, 3] vs ds) : ∃ K', Call Try.prog 11 vs K (.bool true) K' := by
  obtain ⟨v1, vs, d1, ds, rfl, rfl, hv1, h⟩ := rdAll_cons h
  obtain ⟨v2, vs, d2, ds, rfl, rfl, hv2, h⟩ := rdAll_cons h
  obtain ⟨rfl, rfl⟩ := rdAll_nil h
  obtain ⟨ss, hs, lw⟩ := rd_ints hv1
  replace lw : ss.length * 8 ≤ 140737488351232 := lw
  obtain ⟨x, rfl, _⟩ := hv2.int T3 rfl
  clear hv1 hv2 h
  obtain ⟨y0, hy, hy0, hy1⟩ := and_mask x 65535 (by decide) (by decide)
  replace hy : IntKind.i64.wrap ((BitVec.ofInt IntKind.i64.bits x &&& BitVec.ofInt IntKind.i64.bits 65535).toNat : Int) = y0 := hy
  obtain ⟨y, hyy⟩ : ∃ y : Nat, y0 = y := ⟨y0.toNat, by omega⟩
  subst hyy
  refine ⟨K, ?_⟩
  have s1 := hs.cells
  have hl1 := hs.len T22 rfl
  refine call_pure fit mixed Try.func11 rfl rfl rfl (by kernel_rfl) rfl fun hM => ?_
  refine goM ?_
  refine l_callG (awake13_ _) ?_
  refine goM ?_
  obtain ⟨_, H1, c1, u1, rfl, m1⟩ := refRank_ K v1 ss hs (by omega)
  have hul := (m1.sl .here).len T22 rfl
  have s2 := (m1.sl .here).cells
  replace hM := hM.call1 m1
  cases hmay : rankMay ss with
  | false =>
    obtain ⟨f1, f2⟩ := no_row hmay
    rw [f1] at c1
    rw [f2] at m1 hul
    refine l_callG c1 ?_
    clear c1
    refine goM ?_
    exact end_1 (by first | exact .inl rfl | exact .inr rfl) ⟨rfl, hM.pre⟩
  | true =>
    obtain ⟨f1, f2, hn1, hn8⟩ := may_row hmay
    have hd := fun i m => donor_row (ss := ss) (i := i) (m := m) (c := 1) (y := y) hmay
    obtain ⟨n, hn⟩ : ∃ n, ss.length = n := ⟨_, rfl⟩
    rw [f1] at c1
    rw [f2, rankN_len] at hul
    refine l_callG c1 ?_
    rw [hn] at hl1 hul hn1 hn8 hd
    rw [f2, hn] at hM
    have hrl := rankN_len (scoreAt ss) n
    clear c1 m1 f1 f2
    by_cases h2 : n < 2
    · have hn' : n = 1 := by omega
      subst hn'
      refine goM ?_
      exact end_1 (by first | exact .inl rfl | exact .inr rfl) ⟨rfl, hM.pre⟩
    · have dn : decide ((n : Int) < 2) = false := decide_eq_false (by omega)
      have hw0 : IntKind.i64.wrap ((n : Int) - 1) = ((n - 1 : Nat) : Int) := by rw [wrap_i64 (by omega) (by omega)]; omega
      generalize rankN (scoreAt ss) n = row at *
      obtain ⟨a, ha⟩ : ∃ a, row[0]? = some a := ⟨row[0]'(by omega), by simp⟩
      obtain ⟨b, hb⟩ : ∃ b, row[n - 1]? = some b := ⟨row[n - 1]'(by omega), by simp⟩
      have e1 := hd (n - 1) b hb ⟨Nat.le_refl _, by omega⟩ (by omega)
      rw [if_pos (by omega), show y * 1 / 65536 = 0 by omega, List.getD_eq_getElem?_getD, ha] at e1
      have e2 := hd 0 a ha ⟨Nat.le_refl _, by omega⟩ (by omega)
      rw [if_neg (by omega)] at e2
      have c1 := donor_ H1 v1 ss (b : Int) 1 (y : Int) (hs.mono hM.pre) (by omega)
      have c2 := donor_ H1 v1 ss (a : Int) 1 (y : Int) (hs.mono hM.pre) (by omega)
      rw [show donorR ss (b : Int) 1 (y : Int) = ((a : Int), true, 0) from e1] at c1
      rw [show donorR ss (a : Int) 1 (y : Int) = (0, false, 0) from e2] at c2
      obtain ⟨b1, o1, _, hi1, rfl, _, hlo1, _⟩ := (hM.sl .here).get T22 rfl T3 rfl hb
      have ho1 := loadV_one T3 rfl hlo1
      obtain ⟨b2, o2, _, hi2, rfl, _, hlo2, _⟩ := (hM.sl .here).get T22 rfl T3 rfl ha
      replace hi2 : idxV T 22 u1 0 = some (.ptr b2 o2) := hi2
      have ho2 := loadV_one T3 rfl hlo2
      clear e1 e2 hd h2 hlo1 hlo2 ha hb hrl
      refine goM ?_
      refine l_callG c1 ?_
      refine goM ?_
      refine l_callG c2 ?_
      refine goM ?_
      refine l_callG (num_ _ _) ?_
      refine goM ?_
      refine l_callG (num_ _ _) ?_
      refine goM ?_
      exact end_1 (by first | exact .inl rfl | exact .inr rfl) ⟨rfl, hM.pre⟩
end Go.Proofs.Ytiekbfjmoemdgaa.VM

/- Chapter 13: the statement ChoiceRule. -/
namespace Go.Proofs.Ytiekbfjmoemdgaa.VM
open Go
set_option linter.unusedVariables false
set_option linter.unusedSimpArgs false
attribute [local irreducible] wq wqL wqD wqE wqO Th Bk EndR
set_option maxHeartbeats 8000000

theorem u64_in (n : Int) : 0 ≤ IntKind.u64.wrap n ∧ IntKind.u64.wrap n < 18446744073709551616 := by
  unfold IntKind.wrap
  simp only [IntKind.bits, IntKind.signed, Bool.false_and, Bool.false_eq_true, if_false, Int.reducePow]
  omega
theorem u64_nat {n : Nat} (h2 : n < 18446744073709551616) : IntKind.u64.wrap (n : Int) = n := by
  unfold IntKind.wrap
  simp only [IntKind.bits, IntKind.signed, Bool.false_and, Bool.false_eq_true, if_false, Int.reducePow]
  omega
theorem rem_nat (m : Int) {h : Nat} (h1 : 1 ≤ h) (h2 : h ≤ 8) : ∃ q : Nat, q < h ∧ (IntKind.u64.wrap m).tmod (h : Int) = (q : Int) := by
  have hu := u64_in m
  have hlt := Int.tmod_lt_of_pos (IntKind.u64.wrap m) (show (0 : Int) < (h : Int) by omega)
  have hnn := Int.tmod_nonneg (h : Int) hu.1
  exact ⟨((IntKind.u64.wrap m).tmod (h : Int)).toNat, by omega, by rw [Int.toNat_of_nonneg hnn]⟩

theorem law_choiceRule {D : Type} (K : Heap) (vs : List V) (ds : List (DataW D)) (ro : Ro K) (h : RdAll T K [22, 3, 3] vs ds) : ∃ K', Call Try.prog 9 vs K (.bool true) K' := by
  obtain ⟨v1, vs, d1, ds, rfl, rfl, hv1, h⟩ := rdAll_cons h
  obtain ⟨v2, vs, d2, ds, rfl, rfl, hv2, h⟩ := rdAll_cons h
  obtain ⟨v3, vs, d3, ds, rfl, rfl, hv3, h⟩ := rdAll_cons h
  obtain ⟨rfl, rfl⟩ := rdAll_nil h
  obtain ⟨ss, hs, lw⟩ := rd_ints hv1
  replace lw : ss.length * 8 ≤ 140737488351232 := lw
  obtain ⟨cut, rfl, _⟩ := hv2.int T3 rfl
  obtain ⟨x, rfl, _⟩ := hv3.int T3 rfl
  clear hv1 hv2 hv3 h
  obtain ⟨y0, hy, hy0, hy1⟩ := and_mask x 65535 (by decide) (by decide)
  replace hy : IntKind.i64.wrap ((BitVec.ofInt IntKind.i64.bits x &&& BitVec.ofInt IntKind.i64.bits 65535).toNat : Int) = y0 := hy
  obtain ⟨y, hyy⟩ : ∃ y : Nat, y0 = y := ⟨y0.toNat, by omega⟩
  subst hyy
  have hyl : y ≤ 65535 := by omega
  refine ⟨K, ?_⟩
  have s1 := hs.cells
  have hl1 := hs.len T22 rfl
  refine call_pure fit mixed Try.func9 rfl rfl rfl (by kernel_rfl) rfl fun hM => ?_
  refine goM ?_
  refine l_callG (awake13_ _) ?_
  refine goM ?_
  obtain ⟨_, H1, c1, u1, rfl, m1⟩ := refRank_ K v1 ss hs (by omega)
  have hul := (m1.sl .here).len T22 rfl
  have s2 := (m1.sl .here).cells
  replace hM := hM.call1 m1
  cases hmay : rankMay ss with
  | false =>
    obtain ⟨f1, f2⟩ := no_row hmay
    rw [f1] at c1
    rw [f2] at m1 hul
    refine l_callG c1 ?_
    clear c1
    refine goM ?_
    exact end_1 (by first | exact .inl rfl | exact .inr rfl) ⟨rfl, hM.pre⟩
  | true =>
    obtain ⟨f1, f2, hn1, hn8⟩ := may_row hmay
    have hd := fun i m c => donor_row (ss := ss) (i := i) (m := m) (c := c) (y := y) hmay
    obtain ⟨n, hn⟩ : ∃ n, ss.length = n := ⟨_, rfl⟩
    rw [f1] at c1
    rw [f2, rankN_len] at hul
    refine l_callG c1 ?_
    rw [hn] at hl1 hul hn1 hn8 hd
    rw [f2, hn] at hM
    have hrl := rankN_len (scoreAt ss) n
    have hrm := rankN_mem (scoreAt ss) n
    have hsort := rankN_sorted (scoreAt ss) n
    have hinj := fun i j c => row_inj (f := scoreAt ss) (n := n) (i := i) (j := j) (c := c)
    clear c1 m1 f1 f2
    by_cases h2 : n < 2
    · have hn' : n = 1 := by omega
      subst hn'
      clear hrl hrm hsort hinj hd
      refine goM ?_
      exact end_1 (by first | exact .inl rfl | exact .inr rfl) ⟨rfl, hM.pre⟩
    · have dn : decide ((n : Int) < 2) = false := decide_eq_false (by omega)
      have hq : IntKind.i64.wrap ((n : Int).tdiv 2) = ((n / 2 : Nat) : Int) := by
        rw [show (n : Int).tdiv 2 = ((n / 2 : Nat) : Int) from (Int.ofNat_tdiv n 2).symm]; exact wrap_nat (by omega)
      obtain ⟨h, hh⟩ : ∃ h, n / 2 = h := ⟨_, rfl⟩
      rw [hh] at hq
      have wh : IntKind.u64.wrap (h : Int) = (h : Int) := u64_nat (by omega)
      have hz : ((h : Int) = 0) = False := by simp; omega
      obtain ⟨r, hr, hrr⟩ := rem_nat cut (h := h) (by omega) (by omega)
      obtain ⟨k, hk⟩ : ∃ k, 1 + r = k := ⟨_, rfl⟩
      have wr : IntKind.i64.wrap (r : Int) = (r : Int) := wrap_nat (by omega)
      have wk : IntKind.i64.wrap (1 + (r : Int)) = (k : Int) := by rw [wrap_i64 (by omega) (by omega)]; omega
      have hkh : 1 ≤ k ∧ k ≤ n / 2 := by omega
      have wnk : IntKind.i64.wrap ((n : Int) - (k : Int)) = ((n - k : Nat) : Int) := by rw [wrap_i64 (by omega) (by omega)]; omega
      have hyk : y * k ≤ 65535 * k := Nat.mul_le_mul_right _ hyl
      obtain ⟨q, hqq⟩ : ∃ q, y * k / 65536 = q := ⟨_, rfl⟩
      have hqk : q < k := by omega
      generalize rankN (scoreAt ss) n = row at *
      obtain ⟨dd, hdd⟩ : ∃ d, row[q]? = some d := ⟨row[q]'(by omega), by simp⟩
      have hddn : dd < n := (hrm dd).1 (List.mem_iff_getElem?.2 ⟨q, hdd⟩)
      have hgd : row.getD q 0 = dd := by rw [List.getD_eq_getElem?_getD, hdd]; rfl
      have hkey : Held (1 ≤ k ∧ 2 * k ≤ n ∧ q < k ∧ n ≤ 8) := ⟨by omega, by omega, hqk, hn8⟩
      clear h2 hr hk hyk hkh
      refine goM ?_
      refine wq_loop (fun mm ρ hp => ∃ i : Nat, i ≤ n ∧ mm = n - i ∧ hp = H1 ∧ ρ 0 = v1 ∧ ρ 7 = u1 ∧ ρ 9 = .int .i64 (k : Int) ∧ ρ 10 = .int .i64 (y : Int) ∧ ρ 11 = .int .i64 ((i - (n - k) : Nat) : Int) ∧ ρ 12 = .int .i64 (i : Int)) ⟨0, Nat.zero_le _, rfl, rfl, rfl, rfl, rfl, rfl, by rw [Nat.zero_sub]; rfl, rfl⟩ ?_
      rintro _ ρ hp ⟨i, hi, rfl, hpe, g0, g7, g9, g10, g11, g12⟩
      subst hpe
      refine goM ?_
      refine cond_go (fun hb => ?_) (fun hb => ?_)
      · have hi' : i < n := by simpa using hb
        clear hb
        have hke := hkey
        obtain ⟨k1, k2, k3, k4⟩ : 1 ≤ k ∧ 2 * k ≤ n ∧ q < k ∧ n ≤ 8 := hke
        obtain ⟨m, hm⟩ : ∃ m, row[i]? = some m := ⟨row[i]'(by omega), by simp⟩
        have hmn : m < n := (hrm m).1 (List.mem_iff_getElem?.2 ⟨i, hm⟩)
        have e1 := hd i m k hm ⟨k1, by omega⟩ hyl
        rw [hqq, hgd] at e1
        have c1 := donor_ hp v1 ss (m : Int) (k : Int) (y : Int) (hs.mono hM.pre) (by omega)
        obtain ⟨b1, o1, _, hi1, rfl, _, hlo1, _⟩ := (hM.sl .here).get T22 rfl T3 rfl hm
        have ho1 := loadV_one T3 rfl hlo1
        have hwi := wrap_succ (n := i) (by omega)
        by_cases hge : n - k ≤ i
        · rw [if_pos hge] at e1
          rw [e1] at c1
          have dge : decide ((i : Int) ≥ ((n - k : Nat) : Int)) = true := decide_eq_true (by omega)
          have hmany : IntKind.i64.wrap (((i - (n - k) : Nat) : Int) + 1) = ((i + 1 - (n - k) : Nat) : Int) := by rw [wrap_i64 (by omega) (by omega)]; omega
          have hne : q ≠ i := by omega
          have hde : ((dd : Int) == (m : Int)) = false := by
            have : dd ≠ m := fun e => by subst e; exact hne (hinj q i dd hdd hm)
            simpa using fun e => this (by omega)
          obtain ⟨b2, o2, _, hi2, rfl, _, hlo2, _⟩ := (hs.mono hM.pre).get T22 rfl T3 rfl (getDI (xs := ss) (k := dd) (by omega))
          have ho2 := loadV_one T3 rfl hlo2
          obtain ⟨b3, o3, _, hi3, rfl, _, hlo3, _⟩ := (hs.mono hM.pre).get T22 rfl T3 rfl (getDI (xs := ss) (k := m) (by omega))
          have ho3 := loadV_one T3 rfl hlo3
          have dsc : decide (ss.getD dd 0 > ss.getD m 0) = false := decide_eq_false (by
            obtain ⟨l1, x1⟩ := List.getElem?_eq_some_iff.1 hdd
            obtain ⟨l2, x2⟩ := List.getElem?_eq_some_iff.1 hm
            have := List.pairwise_iff_getElem.1 hsort q i l1 l2 (by omega)
            rw [x1, x2] at this
            unfold before scoreAt at this; omega)
          clear e1 hlo1 hlo2 hlo3 k1 k2 k4 hne
          refine goM ?_
          refine l_callG c1 ?_
          refine goM ?_
          refine l_callG (num_ _ _) ?_
          clear c1
          refine goM ?_
          refine wq_loop (fun mm ρ hp' => ∃ j : Nat, j ≤ k ∧ mm = k - j ∧ hp' = hp ∧ ρ 0 = v1 ∧ ρ 7 = u1 ∧ ρ 9 = .int .i64 (k : Int) ∧ ρ 10 = .int .i64 (y : Int) ∧ ρ 11 = .int .i64 ((i + 1 - (n - k) : Nat) : Int) ∧ ρ 12 = .int .i64 (i : Int) ∧ ρ 13 = .int .i64 (dd : Int) ∧ ρ 16 = .bool (decide (q < j)) ∧ ρ 17 = .int .i64 (j : Int)) ⟨0, Nat.zero_le _, rfl, rfl, by simp [put_app, put_none, *], by simp [put_app, put_none, *], by simp [put_app, put_none, *], by simp [put_app, put_none, *], by simp [put_app, put_none, *], by simp [put_app, put_none, *], by simp [put_app, put_none, *], by simp [put_app, put_none], by simp [put_app, put_none]⟩ ?_
          clear g0 g7 g9 g10 g11 g12
          clear ρ
          rintro _ ρ hp' ⟨j, hj, rfl, hpe, g0, g7, g9, g10, g11, g12, g13, g16, g17⟩
          subst hpe
          refine goM ?_
          refine cond_go (fun hb => ?_) (fun hb => ?_)
          · have hj' : j < k := by simpa using hb
            clear hb
            have hjr : j < row.length := by
              obtain ⟨x1, x2, x3, x4⟩ : 1 ≤ k ∧ 2 * k ≤ n ∧ q < k ∧ n ≤ 8 := hkey
              omega
            have hwj := wrap_succ (n := j) (by omega)
            obtain ⟨e, he⟩ : ∃ e, row[j]? = some e := ⟨row[j], by simp⟩
            clear hjr
            obtain ⟨b4, o4, _, hi4, rfl, _, hlo4, _⟩ := (hM.sl .here).get T22 rfl T3 rfl he
            have ho4 := loadV_one T3 rfl hlo4
            have heq : ((e : Int) == (dd : Int)) = decide (q < j + 1) ∨ q < j := by
              by_cases hqj : q < j
              · exact .inr hqj
              · left
                by_cases hjq : j = q
                · subst hjq
                  rw [hdd] at he; cases he
                  simp
                · have : e ≠ dd := fun x => by subst x; exact hjq (hinj j q e he hdd)
                  have h1 : decide (q < j + 1) = false := decide_eq_false (by omega)
                  rw [h1]
                  simpa using fun x => this (by omega)
            clear hlo4
            cases hqj : decide (q < j) with
            | true =>
              have hnext : decide (q < j + 1) = true := decide_eq_true (by have := of_decide_eq_true hqj; omega)
              rw [hqj] at g16
              clear heq
              refine goM ?_
              exact ⟨k - (j + 1), by omega, j + 1, hj', rfl, rfl, by simp [put_app, put_none, *]⟩
            | false =>
              have hnq := of_decide_eq_false hqj
              have hnext : ((e : Int) == (dd : Int)) = decide (q < j + 1) := heq.elim id fun h => absurd h hnq
              rw [hqj] at g16
              clear heq hnq
              refine goM ?_
              exact ⟨k - (j + 1), by omega, j + 1, hj', rfl, rfl, by simp [put_app, put_none, *]⟩
          · have hj' : j = k := by have : ¬ j < k := by simpa using hb
                                   omega
            subst hj'
            clear hb
            rw [decide_eq_true k3] at g16
            refine goM ?_
            exact ⟨n - (i + 1), by omega, i + 1, hi', rfl, rfl, by simp [put_app, put_none, *]⟩
        · rw [if_neg hge] at e1
          rw [e1] at c1
          have dge : decide ((i : Int) ≥ ((n - k : Nat) : Int)) = false := decide_eq_false (by omega)
          have hmany : ((i - (n - k) : Nat) : Int) = ((i + 1 - (n - k) : Nat) : Int) := by omega
          rw [hmany] at g11
          clear e1 hlo1 k1 k2 k3 k4 hmany
          refine goM ?_
          refine l_callG c1 ?_
          refine goM ?_
          refine l_callG (num_ _ _) ?_
          refine goM ?_
          exact ⟨n - (i + 1), by omega, i + 1, hi', rfl, rfl, by simp [put_app, put_none, *]⟩
      · have hi' : i = n := by have : ¬ i < n := by simpa using hb
                               omega
        subst hi'
        clear hb
        have hlast : i - (i - k) = k := by
          obtain ⟨k1, k2, k3, k4⟩ : 1 ≤ k ∧ 2 * k ≤ i ∧ q < k ∧ i ≤ 8 := hkey
          omega
        rw [hlast] at g11
        clear hlast
        refine goM ?_
        exact end_1 (by first | exact .inl rfl | exact .inr rfl) ⟨rfl, hM.pre⟩
end Go.Proofs.Ytiekbfjmoemdgaa.VM

/- Chapter 13: the statement ChoiceDraws. -/
namespace Go.Proofs.Ytiekbfjmoemdgaa.VM
open Go
set_option linter.unusedVariables false
set_option linter.unusedSimpArgs false
attribute [local irreducible] wq wqL wqD wqE wqO Th Bk EndR
set_option maxHeartbeats 8000000

def idsL (m : Nat) : List Int := (List.range m).map fun (i : Nat) => (i : Int)
theorem ids_at {m j : Nat} (h : j < m) : scoreAt (idsL m) j = j := by
  unfold scoreAt idsL
  rw [List.getD_eq_getElem?_getD, List.getElem?_map, List.getElem?_range h]; rfl
theorem rank_ids {f : Nat → Int} : ∀ (n : Nat), (∀ j, j < n → f j = j) → rankN f n = List.range n
  | 0, _ => rfl
  | n + 1, h => by
    unfold rankN insR
    rw [rank_ids n fun j hj => h j (by omega)]
    have hs : insPos f n (List.range n) (List.range n).length = (List.range n).length := insPos_stop (by
      rw [List.length_range]
      by_cases hn : n = 0
      · exact .inl hn
      · right
        have hg : (List.range n).getD (n - 1) 0 = n - 1 := by rw [List.getD_eq_getElem?_getD, List.getElem?_range (by omega)]; rfl
        rw [hg, h (n - 1) (by omega), h n (by omega)]; omega)
    rw [hs, mid_end, List.range_succ]
theorem ids_may {m : Nat} (h1 : 1 ≤ m) (h8 : m ≤ 8) : rankMay (idsL m) = true := by
  unfold rankMay
  have hl : (idsL m).length = m := by simp [idsL]
  rw [hl, decide_eq_true h1, decide_eq_true h8]
  simp only [vecMay, Bool.and_eq_true, decide_eq_true_eq, List.all_eq_true]
  refine ⟨by simp, by omega, fun b hb => ?_⟩
  obtain ⟨j, hj, rfl⟩ := List.mem_map.1 hb
  have := List.mem_range.1 hj
  rw [within_iff]; omega
def cntD (k i d : Nat) : Nat := ((List.range i).filter fun j => j * k / 64 == d).length
theorem cnt_next (k i d : Nat) : cntD k (i + 1) d = cntD k i d + if i * k / 64 = d then 1 else 0 := by
  unfold cntD
  rw [List.range_succ, List.filter_append, List.length_append]
  by_cases h : i * k / 64 = d
  · rw [if_pos h]; simp [h]
  · rw [if_neg h]; simp [h]
def seenL (k i : Nat) : List V := (List.range 8).map fun d => .int .i64 (cntD k i d : Nat)
theorem seen_zero (k : Nat) : List.replicate 8 (V.int .i64 0) = seenL k 0 := rfl
theorem seen_get {k i d : Nat} (h : d < 8) : (seenL k i)[d]? = some (.int .i64 (cntD k i d : Nat)) := by
  unfold seenL
  rw [List.getElem?_map, List.getElem?_range h]; rfl
theorem seen_next {k i d : Nat} (hd : i * k / 64 = d) (h : d < 8) : (seenL k i).set d (.int .i64 ((cntD k i d + 1 : Nat) : Int)) = seenL k (i + 1) := by
  apply List.ext_getElem?
  intro j
  by_cases hj : j < 8
  · rw [seen_get hj, List.getElem?_set, cnt_next]
    by_cases hdj : d = j
    · subst hdj
      rw [if_pos rfl, if_pos (by simp [seenL]; omega), if_pos hd]
    · rw [if_neg hdj, seen_get hj, if_neg (by omega)]; rfl
  · rw [List.getElem?_eq_none (by simp [seenL]; omega), List.getElem?_eq_none (by simp [seenL]; omega)]
theorem cnt_le (k i d : Nat) : cntD k i d ≤ i := by
  unfold cntD
  exact Nat.le_trans (List.length_filter_le _ _) (by rw [List.length_range]; exact Nat.le_refl _)
theorem cnt_fin : ∀ k, k < 5 → 1 ≤ k → ∀ i, i < k → 64 / k ≤ cntD k 64 i ∧ cntD k 64 i ≤ 64 / k + 1 := by decide +kernel
theorem ids_next (i : Nat) : idsL i ++ [(i : Int)] = idsL (i + 1) := by unfold idsL; rw [List.range_succ, List.map_append]; rfl

theorem law_choiceDraws {D : Type} (K : Heap) (vs : List V) (ds : List (DataW D)) (ro : Ro K) (h : RdAll T K [3, 3] vs ds) : ∃ K', Call Try.prog 10 vs K (.bool true) K' := by
  obtain ⟨v1, vs, d1, ds, rfl, rfl, hv1, h⟩ := rdAll_cons h
  obtain ⟨v2, vs, d2, ds, rfl, rfl, hv2, h⟩ := rdAll_cons h
  obtain ⟨rfl, rfl⟩ := rdAll_nil h
  obtain ⟨many, rfl, _⟩ := hv1.int T3 rfl
  obtain ⟨cut, rfl, _⟩ := hv2.int T3 rfl
  clear hv1 hv2 h
  obtain ⟨z, hz, hz0, hz1⟩ := and_mask many 7 (by decide) (by decide)
  replace hz : IntKind.i64.wrap ((BitVec.ofInt IntKind.i64.bits many &&& BitVec.ofInt IntKind.i64.bits 7).toNat : Int) = z := hz
  obtain ⟨m0, hm0⟩ : ∃ m0 : Nat, 2 + z = m0 := ⟨(2 + z).toNat, by omega⟩
  have w0 : IntKind.i64.wrap (2 + z) = (m0 : Int) := by rw [hm0]; exact wrap_nat (by omega)
  have hmb : 2 ≤ m0 ∧ m0 ≤ 9 := by omega
  have hrem := fun (h : Nat) (h1 : 1 ≤ h) (h2 : h ≤ 8) => rem_nat cut h1 h2
  clear hm0 hz0 hz1
  refine ⟨K, ?_⟩
  refine call_pure fit mixed Try.func10 rfl rfl rfl (by kernel_rfl) rfl fun hM => ?_
  refine goM ?_
  refine l_callG (awake13_ _) ?_
  refine goM ?_
  by_cases hbig : m0 ≤ 8
  · have dbig : decide ((m0 : Int) > 8) = false := decide_eq_false (by omega)
    obtain ⟨m, hm⟩ : ∃ m, m0 = m := ⟨_, rfl⟩
    subst hm
    have hm2 : 2 ≤ m0 ∧ m0 ≤ 8 := ⟨hmb.1, hbig⟩
    clear hmb hbig
    refine goM ?_
    refine wq_loop (fun mm ρ hp => ∃ (i : Nat) (p : V), i ≤ m0 ∧ mm = m0 - i ∧ Mem K hp [.own 1 intC p (idsL i)] ∧ ρ 1 = .int .i64 cut ∧ ρ 5 = .int .i64 ((m0 : Nat) : Int) ∧ ρ 6 = p ∧ ρ 7 = .int .i64 (i : Int)) ⟨0, .nils, Nat.zero_le _, rfl, hM.nil 1 intC, rfl, rfl, rfl, rfl⟩ ?_
    clear hM
    rintro _ ρ hp ⟨i, p, hi, rfl, hM, g1, g5, g6, g7⟩
    refine goM ?_
    refine cond_go (fun hb => ?_) (fun hb => ?_)
    · have hi' : i < m0 := by simpa using hb
      clear hb
      have hwi := wrap_succ (n := i) (by omega)
      have hil : (idsL i).length = i := by simp [idsL]
      have hsm : Held (i ≤ 8) := by show i ≤ 8; omega
      refine goM ?_
      refine l_sliceM intC [(i : Int)] [.int .i64 (i : Int)] T22 rfl T3 rfl (ints_cells [(i : Int)]) (by decide) fun e1 H1 hM => ?_
      refine goM ?_
      refine l_appM (hM.sl .here) (xs := idsL i) (hb := by rw [hil]; have : i ≤ 8 := hsm; simp only [List.length_cons, List.length_nil]; omega) fun p2 H2 hM => ?_
      rw [ids_next] at hM
      clear hil
      refine goM ?_
      exact ⟨m0 - (i + 1), by omega, i + 1, p2, hi', rfl, hM.subG, by simp [put_app, put_none, *]⟩
    · have hni : ¬ i < m0 := by simpa using hb
      have hi' : m0 = i := by omega
      clear hni
      subst hi'
      clear hb
      obtain ⟨h, hh⟩ : ∃ h, m0 / 2 = h := ⟨_, rfl⟩
      have hq : IntKind.i64.wrap (((m0 : Nat) : Int).tdiv 2) = (h : Int) := by
        rw [show ((m0 : Nat) : Int).tdiv 2 = ((m0 / 2 : Nat) : Int) from (Int.ofNat_tdiv m0 2).symm, hh]; exact wrap_nat (by omega)
      have wh : IntKind.u64.wrap (h : Int) = (h : Int) := u64_nat (by omega)
      have hzz : ((h : Int) = 0) = False := by simp; omega
      obtain ⟨r, hr, hrr⟩ := hrem h (by omega) (by omega)
      obtain ⟨k, hk⟩ : ∃ k, 1 + r = k := ⟨_, rfl⟩
      have wr : IntKind.i64.wrap (r : Int) = (r : Int) := wrap_nat (by omega)
      have wk : IntKind.i64.wrap (1 + (r : Int)) = (k : Int) := by rw [wrap_i64 (by omega) (by omega)]; omega
      have hkh : Held (1 ≤ k ∧ k ≤ m0 / 2 ∧ k ≤ 4) := ⟨by omega, by omega, by omega⟩
      have wm : IntKind.i64.wrap (((m0 : Nat) : Int) - 1) = ((m0 - 1 : Nat) : Int) := by rw [wrap_i64 (by omega) (by omega)]; omega
      have hmay : rankMay (idsL m0) = true := ids_may (by omega) (by omega)
      have hids : rankN (scoreAt (idsL m0)) (idsL m0).length = List.range m0 := by
        rw [show (idsL m0).length = m0 by simp [idsL]]
        exact rank_ids m0 fun j hj => ids_at hj
      clear hr hk hrem
      refine goM ?_
      refine l_newM (cs := List.replicate 8 (.int .i64 0)) T44 rfl fun b H3 hM => ?_
      rw [seen_zero k] at hM
      refine goM ?_
      refine wq_loop (fun mm ρ hp => ∃ (j : Nat), j ≤ 64 ∧ mm = 64 - j ∧ Mem K hp [.box b (seenL k j), .own 1 intC p (idsL m0)] ∧ ρ 5 = .int .i64 ((m0 : Nat) : Int) ∧ ρ 6 = p ∧ ρ 8 = .int .i64 (k : Int) ∧ ρ 9 = .ptr b 0 ∧ ρ 10 = .int .i64 (j : Int)) ⟨0, Nat.zero_le _, rfl, hM, by simp [put_app, put_none, *], by simp [put_app, put_none, *], by simp [put_app, put_none, *], by simp [put_app, put_none], by simp [put_app, put_none]⟩ ?_
      clear hM g1 g5 g6 g7
      clear ρ
      rintro _ ρ hp ⟨j, hj, rfl, hM, g5, g6, g8, g9, g10⟩
      refine goM ?_
      refine cond_go (fun hb => ?_) (fun hb => ?_)
      · have h1 : ((j : Int) < 64) := by simpa using hb
        have hj' : j < 64 := by omega
        clear h1
        clear hb
        obtain ⟨k1, k2, k3⟩ : 1 ≤ k ∧ k ≤ m0 / 2 ∧ k ≤ 4 := hkh
        have w1024 : IntKind.i64.wrap (1024 * (j : Int)) = ((1024 * j : Nat) : Int) := by rw [show 1024 * (j : Int) = ((1024 * j : Nat) : Int) by omega]; exact wrap_nat (by omega)
        have hjk : j * k ≤ 63 * k := Nat.mul_le_mul_right _ (by omega)
        have hdiv : 1024 * j * k / 65536 = j * k / 64 := by
          rw [Nat.mul_assoc, show 65536 = 1024 * 64 by rfl, Nat.mul_div_mul_left _ _ (by decide)]
        obtain ⟨d, hd⟩ : ∃ d, j * k / 64 = d := ⟨_, rfl⟩
        have hdk : d < k := by omega
        have e1 := donor_row (ss := idsL m0) (i := m0 - 1) (m := m0 - 1) (c := k) (y := 1024 * j) hmay (by rw [hids]; exact List.getElem?_range (by omega)) ⟨k1, by rw [show (idsL m0).length = m0 by simp [idsL]]; exact k2⟩ (by omega)
        rw [hids, hdiv, hd, show (idsL m0).length = m0 by simp [idsL], if_pos (by omega), show (List.range m0).getD d 0 = d by rw [List.getD_eq_getElem?_getD, List.getElem?_range (by omega)]; rfl] at e1
        have c1 := donor_ hp p (idsL m0) ((m0 - 1 : Nat) : Int) (k : Int) ((1024 * j : Nat) : Int) (hM.sl (.there .here)) (by simp [idsL] <;> omega)
        rw [e1] at c1
        have d1 : decide ((d : Int) < 0) = false := decide_eq_false (by omega)
        have d2 : decide ((d : Int) ≥ (k : Int)) = false := decide_eq_false (by omega)
        have hix : idxV T 44 (.ptr b 0) (d : Int) = some (.ptr b (0 + d)) := arr_idx T44 rfl T3 rfl (by omega)
        rw [Nat.zero_add] at hix
        have hld : loadV T 3 hp b d = some (.int .i64 (cntD k j d : Nat)) := hM.ld .here T3 rfl (seen_get (by omega))
        have hcl := cnt_le k j d
        have hwc : IntKind.i64.wrap (((cntD k j d : Nat) : Int) + 1) = ((cntD k j d + 1 : Nat) : Int) := by rw [wrap_i64 (by omega) (by omega)]; omega
        obtain ⟨H4, st1, hM1⟩ := hM.put .here T3 (off := d) (v := .int .i64 ((cntD k j d + 1 : Nat) : Int)) (ds := [.int .i64 ((cntD k j d + 1 : Nat) : Int)]) rfl rfl rfl (by simp [seenL]; omega) rfl
        replace hM1 : Mem K H4 [.box b ((seenL k j).set d (.int .i64 ((cntD k j d + 1 : Nat) : Int))), .own 1 intC p (idsL m0)] := hM1
        rw [seen_next hd (by omega)] at hM1
        have hwj := wrap_succ (n := j) (by omega)
        clear hM e1 hmay hids hcl hdk hd hdiv hjk k1 k2 k3
        refine goM ?_
        refine l_callG c1 ?_
        refine goM ?_
        refine l_callG (num_ _ _) ?_
        refine goM ?_
        refine l_stM st1 ?_
        refine goM ?_
        exact ⟨64 - (j + 1), by omega, j + 1, hj', rfl, hM1, by simp [put_app, put_none, *]⟩
      · have h1 : ¬ ((j : Int) < 64) := by simpa using hb
        have hj' : j = 64 := by omega
        clear h1
        subst hj'
        clear hb hmay hids
        refine goM ?_
        refine wq_loop (fun mm ρ hp' => ∃ (j : Nat), j ≤ k ∧ mm = k - j ∧ hp' = hp ∧ ρ 8 = .int .i64 (k : Int) ∧ ρ 9 = .ptr b 0 ∧ ρ 14 = .int .i64 (j : Int)) ⟨0, Nat.zero_le _, rfl, rfl, by simp [put_app, put_none, *], by simp [put_app, put_none, *], by simp [put_app, put_none]⟩ ?_
        clear g5 g6 g8 g9 g10
        clear ρ
        rintro _ ρ hp' ⟨j, hj, rfl, hpe, g8, g9, g14⟩
        subst hpe
        refine goM ?_
        refine cond_go (fun hb => ?_) (fun hb => ?_)
        · have hj' : j < k := by simpa using hb
          clear hb
          obtain ⟨k1, k2, k3⟩ : 1 ≤ k ∧ k ≤ m0 / 2 ∧ k ≤ 4 := hkh
          obtain ⟨f1, f2⟩ := cnt_fin k (by omega) k1 j hj'
          have hcl := cnt_le k 64 j
          have hix : idxV T 44 (.ptr b 0) (j : Int) = some (.ptr b (0 + j)) := arr_idx T44 rfl T3 rfl (by omega)
          rw [Nat.zero_add] at hix
          have hld : loadV T 3 hp' b j = some (.int .i64 (cntD k 64 j : Nat)) := hM.ld .here T3 rfl (seen_get (by omega))
          have kz : ((k : Int) = 0) = False := by simp; omega
          have hqk : IntKind.i64.wrap ((64 : Int).tdiv (k : Int)) = ((64 / k : Nat) : Int) := by
            rw [show (64 : Int).tdiv (k : Int) = ((64 / k : Nat) : Int) from (Int.ofNat_tdiv 64 k).symm]
            exact wrap_nat (Nat.le_trans (Nat.div_le_self _ _) (by decide))
          have hq1 : IntKind.i64.wrap (((64 / k : Nat) : Int) + 1) = ((64 / k + 1 : Nat) : Int) := by
            have := Nat.div_le_self 64 k
            rw [wrap_i64 (by omega) (by omega)]; omega
          generalize 64 / k = w at *
          generalize cntD k 64 j = c at *
          have d1 : decide ((c : Int) < (w : Int)) = false := decide_eq_false (by omega)
          have d2 : decide ((c : Int) > ((w + 1 : Nat) : Int)) = false := decide_eq_false (by omega)
          have hwj := wrap_succ (n := j) (by omega)
          clear f1 f2 hcl k1 k2 k3
          refine goM ?_
          exact ⟨k - (j + 1), by omega, j + 1, hj', rfl, rfl, by simp [put_app, put_none, *]⟩
        · clear hb
          refine goM ?_
          exact end_1 (by first | exact .inl rfl | exact .inr rfl) ⟨rfl, hM.pre⟩
  · have dbig : decide ((m0 : Int) > 8) = true := decide_eq_true (by omega)
    have hm2 : 2 ≤ 8 ∧ 8 ≤ 8 := by omega
    clear hmb hbig
    refine goM ?_
    refine wq_loop (fun mm ρ hp => ∃ (i : Nat) (p : V), i ≤ 8 ∧ mm = 8 - i ∧ Mem K hp [.own 1 intC p (idsL i)] ∧ ρ 1 = .int .i64 cut ∧ ρ 5 = .int .i64 ((8 : Nat) : Int) ∧ ρ 6 = p ∧ ρ 7 = .int .i64 (i : Int)) ⟨0, .nils, Nat.zero_le _, rfl, hM.nil 1 intC, rfl, rfl, rfl, rfl⟩ ?_
    clear hM
    rintro _ ρ hp ⟨i, p, hi, rfl, hM, g1, g5, g6, g7⟩
    refine goM ?_
    refine cond_go (fun hb => ?_) (fun hb => ?_)
    · have hi' : i < 8 := by
          have h1 : ((i : Int) < 8) := by simpa using hb
          omega
      clear hb
      have hwi := wrap_succ (n := i) (by omega)
      have hil : (idsL i).length = i := by simp [idsL]
      have hsm : Held (i ≤ 8) := by show i ≤ 8; omega
      refine goM ?_
      refine l_sliceM intC [(i : Int)] [.int .i64 (i : Int)] T22 rfl T3 rfl (ints_cells [(i : Int)]) (by decide) fun e1 H1 hM => ?_
      refine goM ?_
      refine l_appM (hM.sl .here) (xs := idsL i) (hb := by rw [hil]; have : i ≤ 8 := hsm; simp only [List.length_cons, List.length_nil]; omega) fun p2 H2 hM => ?_
      rw [ids_next] at hM
      clear hil
      refine goM ?_
      exact ⟨8 - (i + 1), by omega, i + 1, p2, hi', rfl, hM.subG, by simp [put_app, put_none, *]⟩
    · have hni : ¬ i < 8 := by
          have h1 : ¬ ((i : Int) < 8) := by simpa using hb
          omega
      have hi' : 8 = i := by omega
      clear hni
      subst hi'
      clear hb
      obtain ⟨h, hh⟩ : ∃ h, 8 / 2 = h := ⟨_, rfl⟩
      have hq : IntKind.i64.wrap (((8 : Nat) : Int).tdiv 2) = (h : Int) := by
        rw [show ((8 : Nat) : Int).tdiv 2 = ((8 / 2 : Nat) : Int) from (Int.ofNat_tdiv 8 2).symm, hh]; exact wrap_nat (by omega)
      have wh : IntKind.u64.wrap (h : Int) = (h : Int) := u64_nat (by omega)
      have hzz : ((h : Int) = 0) = False := by simp; omega
      obtain ⟨r, hr, hrr⟩ := hrem h (by omega) (by omega)
      obtain ⟨k, hk⟩ : ∃ k, 1 + r = k := ⟨_, rfl⟩
      have wr : IntKind.i64.wrap (r : Int) = (r : Int) := wrap_nat (by omega)
      have wk : IntKind.i64.wrap (1 + (r : Int)) = (k : Int) := by rw [wrap_i64 (by omega) (by omega)]; omega
      have hkh : Held (1 ≤ k ∧ k ≤ 8 / 2 ∧ k ≤ 4) := ⟨by omega, by omega, by omega⟩
      have wm : IntKind.i64.wrap (((8 : Nat) : Int) - 1) = ((8 - 1 : Nat) : Int) := by rw [wrap_i64 (by omega) (by omega)]; omega
      have hmay : rankMay (idsL 8) = true := ids_may (by omega) (by omega)
      have hids : rankN (scoreAt (idsL 8)) (idsL 8).length = List.range 8 := by
        rw [show (idsL 8).length = 8 by simp [idsL]]
        exact rank_ids 8 fun j hj => ids_at hj
      clear hr hk hrem
      refine goM ?_
      refine l_newM (cs := List.replicate 8 (.int .i64 0)) T44 rfl fun b H3 hM => ?_
      rw [seen_zero k] at hM
      refine goM ?_
      refine wq_loop (fun mm ρ hp => ∃ (j : Nat), j ≤ 64 ∧ mm = 64 - j ∧ Mem K hp [.box b (seenL k j), .own 1 intC p (idsL 8)] ∧ ρ 5 = .int .i64 ((8 : Nat) : Int) ∧ ρ 6 = p ∧ ρ 8 = .int .i64 (k : Int) ∧ ρ 9 = .ptr b 0 ∧ ρ 10 = .int .i64 (j : Int)) ⟨0, Nat.zero_le _, rfl, hM, by simp [put_app, put_none, *], by simp [put_app, put_none, *], by simp [put_app, put_none, *], by simp [put_app, put_none], by simp [put_app, put_none]⟩ ?_
      clear hM g1 g5 g6 g7
      clear ρ
      rintro _ ρ hp ⟨j, hj, rfl, hM, g5, g6, g8, g9, g10⟩
      refine goM ?_
      refine cond_go (fun hb => ?_) (fun hb => ?_)
      · have h1 : ((j : Int) < 64) := by simpa using hb
        have hj' : j < 64 := by omega
        clear h1
        clear hb
        obtain ⟨k1, k2, k3⟩ : 1 ≤ k ∧ k ≤ 8 / 2 ∧ k ≤ 4 := hkh
        have w1024 : IntKind.i64.wrap (1024 * (j : Int)) = ((1024 * j : Nat) : Int) := by rw [show 1024 * (j : Int) = ((1024 * j : Nat) : Int) by omega]; exact wrap_nat (by omega)
        have hjk : j * k ≤ 63 * k := Nat.mul_le_mul_right _ (by omega)
        have hdiv : 1024 * j * k / 65536 = j * k / 64 := by
          rw [Nat.mul_assoc, show 65536 = 1024 * 64 by rfl, Nat.mul_div_mul_left _ _ (by decide)]
        obtain ⟨d, hd⟩ : ∃ d, j * k / 64 = d := ⟨_, rfl⟩
        have hdk : d < k := by omega
        have e1 := donor_row (ss := idsL 8) (i := 8 - 1) (m := 8 - 1) (c := k) (y := 1024 * j) hmay (by rw [hids]; exact List.getElem?_range (by omega)) ⟨k1, by rw [show (idsL 8).length = 8 by simp [idsL]]; exact k2⟩ (by omega)
        rw [hids, hdiv, hd, show (idsL 8).length = 8 by simp [idsL], if_pos (by omega), show (List.range 8).getD d 0 = d by rw [List.getD_eq_getElem?_getD, List.getElem?_range (by omega)]; rfl] at e1
        have c1 := donor_ hp p (idsL 8) ((8 - 1 : Nat) : Int) (k : Int) ((1024 * j : Nat) : Int) (hM.sl (.there .here)) (by simp [idsL] <;> omega)
        rw [e1] at c1
        have d1 : decide ((d : Int) < 0) = false := decide_eq_false (by omega)
        have d2 : decide ((d : Int) ≥ (k : Int)) = false := decide_eq_false (by omega)
        have hix : idxV T 44 (.ptr b 0) (d : Int) = some (.ptr b (0 + d)) := arr_idx T44 rfl T3 rfl (by omega)
        rw [Nat.zero_add] at hix
        have hld : loadV T 3 hp b d = some (.int .i64 (cntD k j d : Nat)) := hM.ld .here T3 rfl (seen_get (by omega))
        have hcl := cnt_le k j d
        have hwc : IntKind.i64.wrap (((cntD k j d : Nat) : Int) + 1) = ((cntD k j d + 1 : Nat) : Int) := by rw [wrap_i64 (by omega) (by omega)]; omega
        obtain ⟨H4, st1, hM1⟩ := hM.put .here T3 (off := d) (v := .int .i64 ((cntD k j d + 1 : Nat) : Int)) (ds := [.int .i64 ((cntD k j d + 1 : Nat) : Int)]) rfl rfl rfl (by simp [seenL]; omega) rfl
        replace hM1 : Mem K H4 [.box b ((seenL k j).set d (.int .i64 ((cntD k j d + 1 : Nat) : Int))), .own 1 intC p (idsL 8)] := hM1
        rw [seen_next hd (by omega)] at hM1
        have hwj := wrap_succ (n := j) (by omega)
        clear hM e1 hmay hids hcl hdk hd hdiv hjk k1 k2 k3
        refine goM ?_
        refine l_callG c1 ?_
        refine goM ?_
        refine l_callG (num_ _ _) ?_
        refine goM ?_
        refine l_stM st1 ?_
        refine goM ?_
        exact ⟨64 - (j + 1), by omega, j + 1, hj', rfl, hM1, by simp [put_app, put_none, *]⟩
      · have h1 : ¬ ((j : Int) < 64) := by simpa using hb
        have hj' : j = 64 := by omega
        clear h1
        subst hj'
        clear hb hmay hids
        refine goM ?_
        refine wq_loop (fun mm ρ hp' => ∃ (j : Nat), j ≤ k ∧ mm = k - j ∧ hp' = hp ∧ ρ 8 = .int .i64 (k : Int) ∧ ρ 9 = .ptr b 0 ∧ ρ 14 = .int .i64 (j : Int)) ⟨0, Nat.zero_le _, rfl, rfl, by simp [put_app, put_none, *], by simp [put_app, put_none, *], by simp [put_app, put_none]⟩ ?_
        clear g5 g6 g8 g9 g10
        clear ρ
        rintro _ ρ hp' ⟨j, hj, rfl, hpe, g8, g9, g14⟩
        subst hpe
        refine goM ?_
        refine cond_go (fun hb => ?_) (fun hb => ?_)
        · have hj' : j < k := by simpa using hb
          clear hb
          obtain ⟨k1, k2, k3⟩ : 1 ≤ k ∧ k ≤ 8 / 2 ∧ k ≤ 4 := hkh
          obtain ⟨f1, f2⟩ := cnt_fin k (by omega) k1 j hj'
          have hcl := cnt_le k 64 j
          have hix : idxV T 44 (.ptr b 0) (j : Int) = some (.ptr b (0 + j)) := arr_idx T44 rfl T3 rfl (by omega)
          rw [Nat.zero_add] at hix
          have hld : loadV T 3 hp' b j = some (.int .i64 (cntD k 64 j : Nat)) := hM.ld .here T3 rfl (seen_get (by omega))
          have kz : ((k : Int) = 0) = False := by simp; omega
          have hqk : IntKind.i64.wrap ((64 : Int).tdiv (k : Int)) = ((64 / k : Nat) : Int) := by
            rw [show (64 : Int).tdiv (k : Int) = ((64 / k : Nat) : Int) from (Int.ofNat_tdiv 64 k).symm]
            exact wrap_nat (Nat.le_trans (Nat.div_le_self _ _) (by decide))
          have hq1 : IntKind.i64.wrap (((64 / k : Nat) : Int) + 1) = ((64 / k + 1 : Nat) : Int) := by
            have := Nat.div_le_self 64 k
            rw [wrap_i64 (by omega) (by omega)]; omega
          generalize 64 / k = w at *
          generalize cntD k 64 j = c at *
          have d1 : decide ((c : Int) < (w : Int)) = false := decide_eq_false (by omega)
          have d2 : decide ((c : Int) > ((w + 1 : Nat) : Int)) = false := decide_eq_false (by omega)
          have hwj := wrap_succ (n := j) (by omega)
          clear f1 f2 hcl k1 k2 k3
          refine goM ?_
          exact ⟨k - (j + 1), by omega, j + 1, hj', rfl, rfl, by simp [put_app, put_none, *]⟩
        · clear hb
          refine goM ?_
          exact end_1 (by first | exact .inl rfl | exact .inr rfl) ⟨rfl, hM.pre⟩
end Go.Proofs.Ytiekbfjmoemdgaa.VM
