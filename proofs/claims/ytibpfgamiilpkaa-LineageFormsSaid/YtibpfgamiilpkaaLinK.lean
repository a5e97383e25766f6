/- Chapter 18: the statement LineageForms. -/
import Derived.Test.YtibpfgamiilpkaaLinI
namespace Go.Proofs.Ytibpfgamiilpkaa.VM
open Go
set_option linter.unusedVariables false
set_option linter.unusedSimpArgs false
attribute [local irreducible] wq wqL wqD wqE wqO Th Bk EndR
set_option maxHeartbeats 8000000

theorem bad0 (d : Int) (h : 1 ≤ d ∧ d ≤ 1024) : eventsMay [⟨0, -d, 0, 0, 0, 0⟩, ⟨0, 0, 0, 0, 0, 0⟩, ⟨1, 0, 1, 1, 0, 0⟩, ⟨2, 0, 0, 0, 64, 1⟩, ⟨0, 1, 0, 0, 0, 0⟩] 2 = false := eventsMay_no (k := 0) rfl (by simp [evMay, within, manyOf, explored, hyperMay]; omega)
theorem bad1 (d : Int) (h : 1 ≤ d ∧ d ≤ 1024) : eventsMay [⟨0, 1 + d, 0, 0, 0, 0⟩, ⟨0, 0, 0, 0, 0, 0⟩, ⟨1, 0, 1, 1, 0, 0⟩, ⟨2, 0, 0, 0, 64, 1⟩, ⟨0, 1, 0, 0, 0, 0⟩] 2 = false := eventsMay_no (k := 0) rfl (by simp [evMay, within, manyOf, explored, hyperMay]; omega)
theorem bad2 (d : Int) (h : 1 ≤ d ∧ d ≤ 1024) : eventsMay [⟨-d, 1, 0, 0, 0, 0⟩, ⟨0, 0, 0, 0, 0, 0⟩, ⟨1, 0, 1, 1, 0, 0⟩, ⟨2, 0, 0, 0, 64, 1⟩, ⟨0, 1, 0, 0, 0, 0⟩] 2 = false := eventsMay_no (k := 0) rfl (by simp [evMay, within, manyOf, explored, hyperMay]; omega)
theorem bad3 (d : Int) (h : 1 ≤ d ∧ d ≤ 1024) : eventsMay [⟨2 + d, 1, 0, 0, 0, 0⟩, ⟨0, 0, 0, 0, 0, 0⟩, ⟨1, 0, 1, 1, 0, 0⟩, ⟨2, 0, 0, 0, 64, 1⟩, ⟨0, 1, 0, 0, 0, 0⟩] 2 = false := eventsMay_no (k := 0) rfl (by simp [evMay, within, manyOf, explored, hyperMay]; omega)
theorem bad4 (d : Int) (h : 1 ≤ d ∧ d ≤ 1024) : eventsMay [⟨0, 1, d, 0, 0, 0⟩, ⟨0, 0, 0, 0, 0, 0⟩, ⟨1, 0, 1, 1, 0, 0⟩, ⟨2, 0, 0, 0, 64, 1⟩, ⟨0, 1, 0, 0, 0, 0⟩] 2 = false := eventsMay_no (k := 0) rfl (by simp [evMay, within, manyOf, explored, hyperMay]; omega)
theorem bad5 (d : Int) (h : 1 ≤ d ∧ d ≤ 1024) : eventsMay [⟨0, 1, 0, d, 0, 0⟩, ⟨0, 0, 0, 0, 0, 0⟩, ⟨1, 0, 1, 1, 0, 0⟩, ⟨2, 0, 0, 0, 64, 1⟩, ⟨0, 1, 0, 0, 0, 0⟩] 2 = false := eventsMay_no (k := 0) rfl (by simp [evMay, within, manyOf, explored, hyperMay]; omega)
theorem bad6 (d : Int) (h : 1 ≤ d ∧ d ≤ 1024) : eventsMay [⟨0, 1, 0, 0, d, 0⟩, ⟨0, 0, 0, 0, 0, 0⟩, ⟨1, 0, 1, 1, 0, 0⟩, ⟨2, 0, 0, 0, 64, 1⟩, ⟨0, 1, 0, 0, 0, 0⟩] 2 = false := eventsMay_no (k := 0) rfl (by simp [evMay, within, manyOf, explored, hyperMay]; omega)
theorem bad7 (d : Int) (h : 1 ≤ d ∧ d ≤ 1024) : eventsMay [⟨0, 1, 0, 0, 0, 0⟩, ⟨0, 0, 0, 0, 0, 0⟩, ⟨1, 0, 0, 1, 0, 0⟩, ⟨2, 0, 0, 0, 64, 1⟩, ⟨0, 1, 0, 0, 0, 0⟩] 2 = false := eventsMay_no (k := 2) rfl (by simp [evMay, within, manyOf, explored, hyperMay])
theorem bad8 (d : Int) (h : 1 ≤ d ∧ d ≤ 1024) : eventsMay [⟨0, 1, 0, 0, 0, 0⟩, ⟨0, 0, 0, 0, 0, 0⟩, ⟨1, 0, 1 + d, 1, 0, 0⟩, ⟨2, 0, 0, 0, 64, 1⟩, ⟨0, 1, 0, 0, 0, 0⟩] 2 = false := eventsMay_no (k := 2) rfl (by simp [evMay, within, manyOf, explored, hyperMay]; omega)
theorem bad9 (d : Int) (h : 1 ≤ d ∧ d ≤ 1024) : eventsMay [⟨0, 1, 0, 0, 0, 0⟩, ⟨0, 0, 0, 0, 0, 0⟩, ⟨1, 0, 1, 1 + d, 0, 0⟩, ⟨2, 0, 0, 0, 64, 1⟩, ⟨0, 1, 0, 0, 0, 0⟩] 2 = false := eventsMay_no (k := 2) rfl (by simp [evMay, within, manyOf, explored, hyperMay]; omega)
theorem bad10 (d : Int) (h : 1 ≤ d ∧ d ≤ 1024) : eventsMay [⟨0, 1, 0, 0, 0, 0⟩, ⟨0, 0, 0, 0, 0, 0⟩, ⟨1, 0, 1, 1, 0, d⟩, ⟨2, 0, 0, 0, 64, 1⟩, ⟨0, 1, 0, 0, 0, 0⟩] 2 = false := eventsMay_no (k := 2) rfl (by simp [evMay, within, manyOf, explored, hyperMay]; omega)
theorem bad11 (d : Int) (h : 1 ≤ d ∧ d ≤ 1024) : eventsMay [⟨0, 1, 0, 0, 0, 0⟩, ⟨0, 0, 0, 0, 0, 0⟩, ⟨1, 0, 1, 1, 0, 0⟩, ⟨2, 0, 0, 0, 16384 + d, 1⟩, ⟨0, 1, 0, 0, 0, 0⟩] 2 = false := eventsMay_no (k := 3) rfl (by simp [evMay, within, manyOf, explored, hyperMay]; omega)
theorem bad12 (d : Int) (h : 1 ≤ d ∧ d ≤ 1024) : eventsMay [⟨0, 1, 0, 0, 0, 0⟩, ⟨0, 0, 0, 0, 0, 0⟩, ⟨1, 0, 1, 1, 0, 0⟩, ⟨2, 0, 0, d, 64, 1⟩, ⟨0, 1, 0, 0, 0, 0⟩] 2 = false := eventsMay_no (k := 3) rfl (by simp [evMay, within, manyOf, explored, hyperMay]; omega)
theorem bad13 (d : Int) (h : 1 ≤ d ∧ d ≤ 1024) : eventsMay [⟨0, 1, 0, 0, 0, 0⟩, ⟨0, 0, 0, 0, 0, 0⟩, ⟨0, 0, 0, 0, 0, 0⟩, ⟨2, 0, 0, 0, 64, 1⟩, ⟨0, 1, 0, 0, 0, 0⟩] 2 = false := eventsMay_no (k := 3) rfl (by simp [evMay, within, manyOf, explored, hyperMay])

theorem bad_n (es : List Ev) (n : Int) (h : n < 1 ∨ 8 < n) : eventsMay es n = false := by
  cases hc : eventsMay es n with
  | false => rfl
  | true =>
    have := (eventsMay_all hc).1
    simp [within] at this
    omega
theorem bad_l (es : List Ev) (n : Int) (h : 1024 < es.length) : eventsMay es n = false := by
  cases hc : eventsMay es n with
  | false => rfl
  | true => have := (eventsMay_all hc).2.1; omega

theorem may_some (B : Heap) : Call Try.prog 9 [.slc B.length 0 5 5 true 6, .int .i64 2] (B ++ [.row (someC 1 0) true]) (.bool true) (B ++ [.row (someC 1 0) true]) := by
  have := lineageMay _ _ _ 2 (sl_some B 1 0) (by decide)
  rw [show eventsMay (someB 1 0) 2 = true from by decide] at this
  exact this
theorem may_nil (B : Heap) : Call Try.prog 10 [.nils, .int .i64 1] B (.bool true) B := by
  have := eventsMayRef B .nils [] 1 (.inl ⟨rfl, rfl⟩) (by decide)
  rw [show eventsMay [] 1 = true from by decide] at this
  exact this
theorem may_bad (H : Heap) (es : List Ev) (n : Int) (hl : es.length = 5) (hb : eventsMay es n = false) : Call Try.prog 9 [.slc H.length 0 5 5 true 6, .int .i64 n] (H ++ [.row (es.flatMap Ev.cells) true] ++ [.row (someC 1 0) true]) (.bool false) (H ++ [.row (es.flatMap Ev.cells) true] ++ [.row (someC 1 0) true]) := by
  have h := (own_make (t := true) H (cells_evs es)).sl.mono (List.prefix_append _ [.row (someC 1 0) true])
  rw [hl] at h
  have := lineageMay _ _ _ n h (by rw [hl]; decide)
  rw [hb] at this
  exact this

theorem zeros_cells : ∀ (n : Nat), Cells 6 evC (zeros (List.replicate 6 (.int .i64 0)) n) (List.replicate n ⟨0, 0, 0, 0, 0, 0⟩)
  | 0 => Cells.nil
  | n + 1 => by
    have := Cells.cons (R := evC) (cs := List.replicate 6 (.int .i64 0)) (x := ⟨0, 0, 0, 0, 0, 0⟩) rfl rfl (zeros_cells n)
    unfold zeros at this ⊢
    rw [List.replicate_succ, List.replicate_succ, List.flatten_cons]
    exact this

theorem and_1023 (x : Int) : ∃ y : Int, IntKind.i64.wrap ((BitVec.ofInt IntKind.i64.bits x &&& BitVec.ofInt IntKind.i64.bits 1023).toNat : Int) = y ∧ 0 ≤ y ∧ y ≤ 1023 := by
  have h : (BitVec.ofInt IntKind.i64.bits x &&& BitVec.ofInt IntKind.i64.bits 1023).toNat ≤ 1023 := by
    rw [BitVec.toNat_and]
    exact Nat.le_trans Nat.and_le_right (by decide)
  exact ⟨((BitVec.ofInt IntKind.i64.bits x &&& BitVec.ofInt IntKind.i64.bits 1023).toNat : Int), wrap_nat (by omega), by omega, by omega⟩

theorem law_lineageForms {D : Type} (K : Heap) (vs : List V) (ds : List (DataW D)) (ro : Ro K) (h : RdAll T K [3, 3] vs ds) : ∃ K', Call Try.prog 4 vs K (.bool true) K' := by
  obtain ⟨v, vs, d1, ds, rfl, rfl, hv, h⟩ := rdAll_cons h
  obtain ⟨u, vs, d2, ds, rfl, rfl, hu, h⟩ := rdAll_cons h
  obtain ⟨rfl, rfl⟩ := rdAll_nil h
  obtain ⟨n, rfl, hn⟩ := hv.int T3 rfl
  obtain ⟨m, rfl, hm⟩ := hu.int T3 rfl
  clear hu hv hm hn h
  refine ⟨K, ?_⟩
  refine call_plain fit mixed Try.func4 rfl rfl rfl (by kernel_rfl) rfl ?_
  obtain ⟨y, hy, hy0, hy1⟩ := and_1023 m
  obtain ⟨d, hd⟩ : ∃ d, d = 1 + y := ⟨_, rfl⟩
  have hdd : 1 ≤ d ∧ d ≤ 1024 := by omega
  have hd1 : IntKind.i64.wrap (1 + y) = d := by rw [hd]; exact wrap_i64 (by omega) (by omega)
  have w0 : IntKind.i64.wrap (0 - d) = -d := by rw [Int.zero_sub]; exact wrap_i64 (by omega) (by omega)
  have w1 : IntKind.i64.wrap (1 + d) = 1 + d := wrap_i64 (by omega) (by omega)
  have w2 : IntKind.i64.wrap (2 + d) = 2 + d := wrap_i64 (by omega) (by omega)
  have w3 : IntKind.i64.wrap (16384 + d) = 16384 + d := wrap_i64 (by omega) (by omega)
  have w4 : IntKind.i64.wrap (1 - d) = 1 - d := wrap_i64 (by omega) (by omega)
  have w5 : IntKind.i64.wrap (8 + d) = 8 + d := wrap_i64 (by omega) (by omega)
  have w6 : IntKind.i64.wrap (1024 + d) = 1024 + d := wrap_i64 (by omega) (by omega)
  have p : ∀ (B : Heap), K <+: K ++ B := fun B => List.prefix_append _ _
  have c : ∀ es : List Ev, es.length = 5 → ∀ n, eventsMay es n = false → Call Try.prog 9 [.slc K.length 0 5 5 true 6, .int .i64 n] (K ++ [.row (es.flatMap Ev.cells) true] ++ [.row (someC 1 0) true]) (.bool false) (K ++ [.row (es.flatMap Ev.cells) true] ++ [.row (someC 1 0) true]) := fun es hl n hb => may_bad K es n hl hb
  have b14 := bad_n (someB 1 0) (1 - d) (by omega)
  have b15 := bad_n (someB 1 0) (8 + d) (by omega)
  obtain ⟨j, hj⟩ : ∃ j : Nat, 1024 + d = (j : Int) := ⟨(1024 + d).toNat, by omega⟩
  have hj2 : 1024 < j := by omega
  have hj3 : j ≤ 2048 := by omega
  have c16 : Call Try.prog 9 [.slc (K ++ [Blk.row (someC 1 0) true]).length 0 j j true 6, .int .i64 2] (K ++ [Blk.row (someC 1 0) true] ++ [Blk.row (zeros (List.replicate 6 (.int .i64 0)) j) true] ++ [Blk.row (someC 1 0) true]) (.bool false) (K ++ [Blk.row (someC 1 0) true] ++ [Blk.row (zeros (List.replicate 6 (.int .i64 0)) j) true] ++ [Blk.row (someC 1 0) true]) := by
    have h := (own_make (t := true) (K ++ [Blk.row (someC 1 0) true]) (zeros_cells j)).sl.mono (List.prefix_append _ [Blk.row (someC 1 0) true])
    rw [List.length_replicate] at h
    have := lineageMay _ _ _ 2 h (by rw [List.length_replicate]; omega)
    rw [bad_l _ _ (by rw [List.length_replicate]; exact hj2)] at this
    exact this
  have l0 := awake_ K
  clear hd hy0 hy1
  repeat (first | refine l_go ?_ | refine d_go ?_ | refine l_onG ?_ | refine l_offG ?_ | refine d_onG ?_ | refine d_offG ?_ | refine wq_seq ?_ | refine wq_line ?_ | refine wq_draw (by decide +kernel) ?_ | refine wq_block ?_ | refine l_nil ?_ | refine d_nil ?_ | refine wq_skip ?_ | refine wq_ret ?_ | refine wq_exit ?_ | refine th_normal ?_ | refine th_ret ?_ | refine th_exit ?_ | refine bk_normal ?_ | refine bk_ret ?_ | refine bk_exit ?_ | refine bk_other rfl ?_)
  refine l_callG l0 ?_
  repeat (first | refine l_go ?_ | refine d_go ?_ | refine l_onG ?_ | refine l_offG ?_ | refine d_onG ?_ | refine d_offG ?_ | refine wq_seq ?_ | refine wq_line ?_ | refine wq_draw (by decide +kernel) ?_ | refine wq_block ?_ | refine l_nil ?_ | refine d_nil ?_ | refine wq_skip ?_ | refine wq_ret ?_ | refine wq_exit ?_ | refine th_normal ?_ | refine th_ret ?_ | refine th_exit ?_ | refine bk_normal ?_ | refine bk_ret ?_ | refine bk_exit ?_ | refine bk_other rfl ?_)
  refine cond_go (fun hb => ?_) (fun hb => ?_)
  · cases hb
  · clear hb
    repeat (first | refine l_go ?_ | refine d_go ?_ | refine l_onG ?_ | refine l_offG ?_ | refine d_onG ?_ | refine d_offG ?_ | refine wq_seq ?_ | refine wq_line ?_ | refine wq_draw (by decide +kernel) ?_ | refine wq_block ?_ | refine l_nil ?_ | refine d_nil ?_ | refine wq_skip ?_ | refine wq_ret ?_ | refine wq_exit ?_ | refine th_normal ?_ | refine th_ret ?_ | refine th_exit ?_ | refine bk_normal ?_ | refine bk_ret ?_ | refine bk_exit ?_ | refine bk_other rfl ?_)
    refine l_callG (some_ K) ?_
    repeat (first | refine l_go ?_ | refine d_go ?_ | refine l_onG ?_ | refine l_offG ?_ | refine d_onG ?_ | refine d_offG ?_ | refine wq_seq ?_ | refine wq_line ?_ | refine wq_draw (by decide +kernel) ?_ | refine wq_block ?_ | refine l_nil ?_ | refine d_nil ?_ | refine wq_skip ?_ | refine wq_ret ?_ | refine wq_exit ?_ | refine th_normal ?_ | refine th_ret ?_ | refine th_exit ?_ | refine bk_normal ?_ | refine bk_ret ?_ | refine bk_exit ?_ | refine bk_other rfl ?_)
    refine cond_go (fun hb => ?_) (fun hb => ?_)
    · clear hb
      repeat (first | refine l_go ?_ | refine d_go ?_ | refine l_onG ?_ | refine l_offG ?_ | refine d_onG ?_ | refine d_offG ?_ | refine wq_seq ?_ | refine wq_line ?_ | refine wq_draw (by decide +kernel) ?_ | refine wq_block ?_ | refine l_nil ?_ | refine d_nil ?_ | refine wq_skip ?_ | refine wq_ret ?_ | refine wq_exit ?_ | refine th_normal ?_ | refine th_ret ?_ | refine th_exit ?_ | refine bk_normal ?_ | refine bk_ret ?_ | refine bk_exit ?_ | refine bk_other rfl ?_)
      refine l_heap (h' := K ++ [.row (List.flatMap Ev.cells [⟨0, -d, 0, 0, 0, 0⟩, ⟨0, 0, 0, 0, 0, 0⟩, ⟨1, 0, 1, 1, 0, 0⟩, ⟨2, 0, 0, 0, 64, 1⟩, ⟨0, 1, 0, 0, 0, 0⟩]) true]) rfl ?_
      refine l_callG (some_ _) ?_
      repeat (first | refine l_go ?_ | refine d_go ?_ | refine l_onG ?_ | refine l_offG ?_ | refine d_onG ?_ | refine d_offG ?_ | refine wq_seq ?_ | refine wq_line ?_ | refine wq_draw (by decide +kernel) ?_ | refine wq_block ?_ | refine l_nil ?_ | refine d_nil ?_ | refine wq_skip ?_ | refine wq_ret ?_ | refine wq_exit ?_ | refine th_normal ?_ | refine th_ret ?_ | refine th_exit ?_ | refine bk_normal ?_ | refine bk_ret ?_ | refine bk_exit ?_ | refine bk_other rfl ?_)
      refine l_callG (may_some _) ?_
      repeat (first | refine l_go ?_ | refine d_go ?_ | refine l_onG ?_ | refine l_offG ?_ | refine d_onG ?_ | refine d_offG ?_ | refine wq_seq ?_ | refine wq_line ?_ | refine wq_draw (by decide +kernel) ?_ | refine wq_block ?_ | refine l_nil ?_ | refine d_nil ?_ | refine wq_skip ?_ | refine wq_ret ?_ | refine wq_exit ?_ | refine th_normal ?_ | refine th_ret ?_ | refine th_exit ?_ | refine bk_normal ?_ | refine bk_ret ?_ | refine bk_exit ?_ | refine bk_other rfl ?_)
      refine l_callG (c [⟨0, -d, 0, 0, 0, 0⟩, ⟨0, 0, 0, 0, 0, 0⟩, ⟨1, 0, 1, 1, 0, 0⟩, ⟨2, 0, 0, 0, 64, 1⟩, ⟨0, 1, 0, 0, 0, 0⟩] rfl 2 (bad0 d hdd)) ?_
      repeat (first | refine l_go ?_ | refine d_go ?_ | refine l_onG ?_ | refine l_offG ?_ | refine d_onG ?_ | refine d_offG ?_ | refine wq_seq ?_ | refine wq_line ?_ | refine wq_draw (by decide +kernel) ?_ | refine wq_block ?_ | refine l_nil ?_ | refine d_nil ?_ | refine wq_skip ?_ | refine wq_ret ?_ | refine wq_exit ?_ | refine th_normal ?_ | refine th_ret ?_ | refine th_exit ?_ | refine bk_normal ?_ | refine bk_ret ?_ | refine bk_exit ?_ | refine bk_other rfl ?_)
      refine l_callG (num0 _ 0) ?_
      repeat (first | refine l_go ?_ | refine d_go ?_ | refine l_onG ?_ | refine l_offG ?_ | refine d_onG ?_ | refine d_offG ?_ | refine wq_seq ?_ | refine wq_line ?_ | refine wq_draw (by decide +kernel) ?_ | refine wq_block ?_ | refine l_nil ?_ | refine d_nil ?_ | refine wq_skip ?_ | refine wq_ret ?_ | refine wq_exit ?_ | refine th_normal ?_ | refine th_ret ?_ | refine th_exit ?_ | refine bk_normal ?_ | refine bk_ret ?_ | refine bk_exit ?_ | refine bk_other rfl ?_)
      refine l_callG (may_nil _) ?_
      repeat (first | refine l_go ?_ | refine d_go ?_ | refine l_onG ?_ | refine l_offG ?_ | refine d_onG ?_ | refine d_offG ?_ | refine wq_seq ?_ | refine wq_line ?_ | refine wq_draw (by decide +kernel) ?_ | refine wq_block ?_ | refine l_nil ?_ | refine d_nil ?_ | refine wq_skip ?_ | refine wq_ret ?_ | refine wq_exit ?_ | refine th_normal ?_ | refine th_ret ?_ | refine th_exit ?_ | refine bk_normal ?_ | refine bk_ret ?_ | refine bk_exit ?_ | refine bk_other rfl ?_)
      refine end_ret (by simp only [resRf, resRs, resR]; first | done | rfl) ⟨?_, by simp only [List.append_assoc]; exact p _⟩
      simp [put_app, put_none]
    · clear hb
      refine wq_cut (fun ρ => ρ 5 = .int .i64 d ∧ ρ 6 = .slc K.length 0 5 5 true 6 ∧ ρ 7 = .int .i64 2 ∧ ρ 16 = .int .u64 ((IntKind.u64.wrap n).tmod 17)) ⟨rfl, rfl, rfl, rfl⟩ ?_
      rintro ρ ⟨h5, h6, h7, h16⟩
      repeat (first | refine l_go ?_ | refine d_go ?_ | refine l_onG ?_ | refine l_offG ?_ | refine d_onG ?_ | refine d_offG ?_ | refine wq_seq ?_ | refine wq_line ?_ | refine wq_draw (by decide +kernel) ?_ | refine wq_block ?_ | refine l_nil ?_ | refine d_nil ?_ | refine wq_skip ?_ | refine wq_ret ?_ | refine wq_exit ?_ | refine th_normal ?_ | refine th_ret ?_ | refine th_exit ?_ | refine bk_normal ?_ | refine bk_ret ?_ | refine bk_exit ?_ | refine bk_other rfl ?_)
      refine cond_go (fun hb => ?_) (fun hb => ?_)
      · clear hb
        repeat (first | refine l_go ?_ | refine d_go ?_ | refine l_onG ?_ | refine l_offG ?_ | refine d_onG ?_ | refine d_offG ?_ | refine wq_seq ?_ | refine wq_line ?_ | refine wq_draw (by decide +kernel) ?_ | refine wq_block ?_ | refine l_nil ?_ | refine d_nil ?_ | refine wq_skip ?_ | refine wq_ret ?_ | refine wq_exit ?_ | refine th_normal ?_ | refine th_ret ?_ | refine th_exit ?_ | refine bk_normal ?_ | refine bk_ret ?_ | refine bk_exit ?_ | refine bk_other rfl ?_)
        refine l_heap (h' := K ++ [.row (List.flatMap Ev.cells [⟨0, 1 + d, 0, 0, 0, 0⟩, ⟨0, 0, 0, 0, 0, 0⟩, ⟨1, 0, 1, 1, 0, 0⟩, ⟨2, 0, 0, 0, 64, 1⟩, ⟨0, 1, 0, 0, 0, 0⟩]) true]) rfl ?_
        refine l_callG (some_ _) ?_
        repeat (first | refine l_go ?_ | refine d_go ?_ | refine l_onG ?_ | refine l_offG ?_ | refine d_onG ?_ | refine d_offG ?_ | refine wq_seq ?_ | refine wq_line ?_ | refine wq_draw (by decide +kernel) ?_ | refine wq_block ?_ | refine l_nil ?_ | refine d_nil ?_ | refine wq_skip ?_ | refine wq_ret ?_ | refine wq_exit ?_ | refine th_normal ?_ | refine th_ret ?_ | refine th_exit ?_ | refine bk_normal ?_ | refine bk_ret ?_ | refine bk_exit ?_ | refine bk_other rfl ?_)
        refine l_callG (may_some _) ?_
        repeat (first | refine l_go ?_ | refine d_go ?_ | refine l_onG ?_ | refine l_offG ?_ | refine d_onG ?_ | refine d_offG ?_ | refine wq_seq ?_ | refine wq_line ?_ | refine wq_draw (by decide +kernel) ?_ | refine wq_block ?_ | refine l_nil ?_ | refine d_nil ?_ | refine wq_skip ?_ | refine wq_ret ?_ | refine wq_exit ?_ | refine th_normal ?_ | refine th_ret ?_ | refine th_exit ?_ | refine bk_normal ?_ | refine bk_ret ?_ | refine bk_exit ?_ | refine bk_other rfl ?_)
        refine l_callG (c [⟨0, 1 + d, 0, 0, 0, 0⟩, ⟨0, 0, 0, 0, 0, 0⟩, ⟨1, 0, 1, 1, 0, 0⟩, ⟨2, 0, 0, 0, 64, 1⟩, ⟨0, 1, 0, 0, 0, 0⟩] rfl 2 (bad1 d hdd)) ?_
        repeat (first | refine l_go ?_ | refine d_go ?_ | refine l_onG ?_ | refine l_offG ?_ | refine d_onG ?_ | refine d_offG ?_ | refine wq_seq ?_ | refine wq_line ?_ | refine wq_draw (by decide +kernel) ?_ | refine wq_block ?_ | refine l_nil ?_ | refine d_nil ?_ | refine wq_skip ?_ | refine wq_ret ?_ | refine wq_exit ?_ | refine th_normal ?_ | refine th_ret ?_ | refine th_exit ?_ | refine bk_normal ?_ | refine bk_ret ?_ | refine bk_exit ?_ | refine bk_other rfl ?_)
        refine l_callG (num0 _ 0) ?_
        repeat (first | refine l_go ?_ | refine d_go ?_ | refine l_onG ?_ | refine l_offG ?_ | refine d_onG ?_ | refine d_offG ?_ | refine wq_seq ?_ | refine wq_line ?_ | refine wq_draw (by decide +kernel) ?_ | refine wq_block ?_ | refine l_nil ?_ | refine d_nil ?_ | refine wq_skip ?_ | refine wq_ret ?_ | refine wq_exit ?_ | refine th_normal ?_ | refine th_ret ?_ | refine th_exit ?_ | refine bk_normal ?_ | refine bk_ret ?_ | refine bk_exit ?_ | refine bk_other rfl ?_)
        refine l_callG (may_nil _) ?_
        repeat (first | refine l_go ?_ | refine d_go ?_ | refine l_onG ?_ | refine l_offG ?_ | refine d_onG ?_ | refine d_offG ?_ | refine wq_seq ?_ | refine wq_line ?_ | refine wq_draw (by decide +kernel) ?_ | refine wq_block ?_ | refine l_nil ?_ | refine d_nil ?_ | refine wq_skip ?_ | refine wq_ret ?_ | refine wq_exit ?_ | refine th_normal ?_ | refine th_ret ?_ | refine th_exit ?_ | refine bk_normal ?_ | refine bk_ret ?_ | refine bk_exit ?_ | refine bk_other rfl ?_)
        refine end_ret (by simp only [resRf, resRs, resR]; first | done | rfl) ⟨?_, by simp only [List.append_assoc]; exact p _⟩
        simp [put_app, put_none]
      · clear hb
        repeat (first | refine l_go ?_ | refine d_go ?_ | refine l_onG ?_ | refine l_offG ?_ | refine d_onG ?_ | refine d_offG ?_ | refine wq_seq ?_ | refine wq_line ?_ | refine wq_draw (by decide +kernel) ?_ | refine wq_block ?_ | refine l_nil ?_ | refine d_nil ?_ | refine wq_skip ?_ | refine wq_ret ?_ | refine wq_exit ?_ | refine th_normal ?_ | refine th_ret ?_ | refine th_exit ?_ | refine bk_normal ?_ | refine bk_ret ?_ | refine bk_exit ?_ | refine bk_other rfl ?_)
        refine cond_go (fun hb => ?_) (fun hb => ?_)
        · clear hb
          repeat (first | refine l_go ?_ | refine d_go ?_ | refine l_onG ?_ | refine l_offG ?_ | refine d_onG ?_ | refine d_offG ?_ | refine wq_seq ?_ | refine wq_line ?_ | refine wq_draw (by decide +kernel) ?_ | refine wq_block ?_ | refine l_nil ?_ | refine d_nil ?_ | refine wq_skip ?_ | refine wq_ret ?_ | refine wq_exit ?_ | refine th_normal ?_ | refine th_ret ?_ | refine th_exit ?_ | refine bk_normal ?_ | refine bk_ret ?_ | refine bk_exit ?_ | refine bk_other rfl ?_)
          refine l_heap (h' := K ++ [.row (List.flatMap Ev.cells [⟨-d, 1, 0, 0, 0, 0⟩, ⟨0, 0, 0, 0, 0, 0⟩, ⟨1, 0, 1, 1, 0, 0⟩, ⟨2, 0, 0, 0, 64, 1⟩, ⟨0, 1, 0, 0, 0, 0⟩]) true]) rfl ?_
          refine l_callG (some_ _) ?_
          repeat (first | refine l_go ?_ | refine d_go ?_ | refine l_onG ?_ | refine l_offG ?_ | refine d_onG ?_ | refine d_offG ?_ | refine wq_seq ?_ | refine wq_line ?_ | refine wq_draw (by decide +kernel) ?_ | refine wq_block ?_ | refine l_nil ?_ | refine d_nil ?_ | refine wq_skip ?_ | refine wq_ret ?_ | refine wq_exit ?_ | refine th_normal ?_ | refine th_ret ?_ | refine th_exit ?_ | refine bk_normal ?_ | refine bk_ret ?_ | refine bk_exit ?_ | refine bk_other rfl ?_)
          refine l_callG (may_some _) ?_
          repeat (first | refine l_go ?_ | refine d_go ?_ | refine l_onG ?_ | refine l_offG ?_ | refine d_onG ?_ | refine d_offG ?_ | refine wq_seq ?_ | refine wq_line ?_ | refine wq_draw (by decide +kernel) ?_ | refine wq_block ?_ | refine l_nil ?_ | refine d_nil ?_ | refine wq_skip ?_ | refine wq_ret ?_ | refine wq_exit ?_ | refine th_normal ?_ | refine th_ret ?_ | refine th_exit ?_ | refine bk_normal ?_ | refine bk_ret ?_ | refine bk_exit ?_ | refine bk_other rfl ?_)
          refine l_callG (c [⟨-d, 1, 0, 0, 0, 0⟩, ⟨0, 0, 0, 0, 0, 0⟩, ⟨1, 0, 1, 1, 0, 0⟩, ⟨2, 0, 0, 0, 64, 1⟩, ⟨0, 1, 0, 0, 0, 0⟩] rfl 2 (bad2 d hdd)) ?_
          repeat (first | refine l_go ?_ | refine d_go ?_ | refine l_onG ?_ | refine l_offG ?_ | refine d_onG ?_ | refine d_offG ?_ | refine wq_seq ?_ | refine wq_line ?_ | refine wq_draw (by decide +kernel) ?_ | refine wq_block ?_ | refine l_nil ?_ | refine d_nil ?_ | refine wq_skip ?_ | refine wq_ret ?_ | refine wq_exit ?_ | refine th_normal ?_ | refine th_ret ?_ | refine th_exit ?_ | refine bk_normal ?_ | refine bk_ret ?_ | refine bk_exit ?_ | refine bk_other rfl ?_)
          refine l_callG (num0 _ 0) ?_
          repeat (first | refine l_go ?_ | refine d_go ?_ | refine l_onG ?_ | refine l_offG ?_ | refine d_onG ?_ | refine d_offG ?_ | refine wq_seq ?_ | refine wq_line ?_ | refine wq_draw (by decide +kernel) ?_ | refine wq_block ?_ | refine l_nil ?_ | refine d_nil ?_ | refine wq_skip ?_ | refine wq_ret ?_ | refine wq_exit ?_ | refine th_normal ?_ | refine th_ret ?_ | refine th_exit ?_ | refine bk_normal ?_ | refine bk_ret ?_ | refine bk_exit ?_ | refine bk_other rfl ?_)
          refine l_callG (may_nil _) ?_
          repeat (first | refine l_go ?_ | refine d_go ?_ | refine l_onG ?_ | refine l_offG ?_ | refine d_onG ?_ | refine d_offG ?_ | refine wq_seq ?_ | refine wq_line ?_ | refine wq_draw (by decide +kernel) ?_ | refine wq_block ?_ | refine l_nil ?_ | refine d_nil ?_ | refine wq_skip ?_ | refine wq_ret ?_ | refine wq_exit ?_ | refine th_normal ?_ | refine th_ret ?_ | refine th_exit ?_ | refine bk_normal ?_ | refine bk_ret ?_ | refine bk_exit ?_ | refine bk_other rfl ?_)
          refine end_ret (by simp only [resRf, resRs, resR]; first | done | rfl) ⟨?_, by simp only [List.append_assoc]; exact p _⟩
          simp [put_app, put_none]
        · clear hb
          repeat (first | refine l_go ?_ | refine d_go ?_ | refine l_onG ?_ | refine l_offG ?_ | refine d_onG ?_ | refine d_offG ?_ | refine wq_seq ?_ | refine wq_line ?_ | refine wq_draw (by decide +kernel) ?_ | refine wq_block ?_ | refine l_nil ?_ | refine d_nil ?_ | refine wq_skip ?_ | refine wq_ret ?_ | refine wq_exit ?_ | refine th_normal ?_ | refine th_ret ?_ | refine th_exit ?_ | refine bk_normal ?_ | refine bk_ret ?_ | refine bk_exit ?_ | refine bk_other rfl ?_)
          refine cond_go (fun hb => ?_) (fun hb => ?_)
          · clear hb
            repeat (first | refine l_go ?_ | refine d_go ?_ | refine l_onG ?_ | refine l_offG ?_ | refine d_onG ?_ | refine d_offG ?_ | refine wq_seq ?_ | refine wq_line ?_ | refine wq_draw (by decide +kernel) ?_ | refine wq_block ?_ | refine l_nil ?_ | refine d_nil ?_ | refine wq_skip ?_ | refine wq_ret ?_ | refine wq_exit ?_ | refine th_normal ?_ | refine th_ret ?_ | refine th_exit ?_ | refine bk_normal ?_ | refine bk_ret ?_ | refine bk_exit ?_ | refine bk_other rfl ?_)
            refine l_heap (h' := K ++ [.row (List.flatMap Ev.cells [⟨2 + d, 1, 0, 0, 0, 0⟩, ⟨0, 0, 0, 0, 0, 0⟩, ⟨1, 0, 1, 1, 0, 0⟩, ⟨2, 0, 0, 0, 64, 1⟩, ⟨0, 1, 0, 0, 0, 0⟩]) true]) rfl ?_
            refine l_callG (some_ _) ?_
            repeat (first | refine l_go ?_ | refine d_go ?_ | refine l_onG ?_ | refine l_offG ?_ | refine d_onG ?_ | refine d_offG ?_ | refine wq_seq ?_ | refine wq_line ?_ | refine wq_draw (by decide +kernel) ?_ | refine wq_block ?_ | refine l_nil ?_ | refine d_nil ?_ | refine wq_skip ?_ | refine wq_ret ?_ | refine wq_exit ?_ | refine th_normal ?_ | refine th_ret ?_ | refine th_exit ?_ | refine bk_normal ?_ | refine bk_ret ?_ | refine bk_exit ?_ | refine bk_other rfl ?_)
            refine l_callG (may_some _) ?_
            repeat (first | refine l_go ?_ | refine d_go ?_ | refine l_onG ?_ | refine l_offG ?_ | refine d_onG ?_ | refine d_offG ?_ | refine wq_seq ?_ | refine wq_line ?_ | refine wq_draw (by decide +kernel) ?_ | refine wq_block ?_ | refine l_nil ?_ | refine d_nil ?_ | refine wq_skip ?_ | refine wq_ret ?_ | refine wq_exit ?_ | refine th_normal ?_ | refine th_ret ?_ | refine th_exit ?_ | refine bk_normal ?_ | refine bk_ret ?_ | refine bk_exit ?_ | refine bk_other rfl ?_)
            refine l_callG (c [⟨2 + d, 1, 0, 0, 0, 0⟩, ⟨0, 0, 0, 0, 0, 0⟩, ⟨1, 0, 1, 1, 0, 0⟩, ⟨2, 0, 0, 0, 64, 1⟩, ⟨0, 1, 0, 0, 0, 0⟩] rfl 2 (bad3 d hdd)) ?_
            repeat (first | refine l_go ?_ | refine d_go ?_ | refine l_onG ?_ | refine l_offG ?_ | refine d_onG ?_ | refine d_offG ?_ | refine wq_seq ?_ | refine wq_line ?_ | refine wq_draw (by decide +kernel) ?_ | refine wq_block ?_ | refine l_nil ?_ | refine d_nil ?_ | refine wq_skip ?_ | refine wq_ret ?_ | refine wq_exit ?_ | refine th_normal ?_ | refine th_ret ?_ | refine th_exit ?_ | refine bk_normal ?_ | refine bk_ret ?_ | refine bk_exit ?_ | refine bk_other rfl ?_)
            refine l_callG (num0 _ 0) ?_
            repeat (first | refine l_go ?_ | refine d_go ?_ | refine l_onG ?_ | refine l_offG ?_ | refine d_onG ?_ | refine d_offG ?_ | refine wq_seq ?_ | refine wq_line ?_ | refine wq_draw (by decide +kernel) ?_ | refine wq_block ?_ | refine l_nil ?_ | refine d_nil ?_ | refine wq_skip ?_ | refine wq_ret ?_ | refine wq_exit ?_ | refine th_normal ?_ | refine th_ret ?_ | refine th_exit ?_ | refine bk_normal ?_ | refine bk_ret ?_ | refine bk_exit ?_ | refine bk_other rfl ?_)
            refine l_callG (may_nil _) ?_
            repeat (first | refine l_go ?_ | refine d_go ?_ | refine l_onG ?_ | refine l_offG ?_ | refine d_onG ?_ | refine d_offG ?_ | refine wq_seq ?_ | refine wq_line ?_ | refine wq_draw (by decide +kernel) ?_ | refine wq_block ?_ | refine l_nil ?_ | refine d_nil ?_ | refine wq_skip ?_ | refine wq_ret ?_ | refine wq_exit ?_ | refine th_normal ?_ | refine th_ret ?_ | refine th_exit ?_ | refine bk_normal ?_ | refine bk_ret ?_ | refine bk_exit ?_ | refine bk_other rfl ?_)
            refine end_ret (by simp only [resRf, resRs, resR]; first | done | rfl) ⟨?_, by simp only [List.append_assoc]; exact p _⟩
            simp [put_app, put_none]
          · clear hb
            repeat (first | refine l_go ?_ | refine d_go ?_ | refine l_onG ?_ | refine l_offG ?_ | refine d_onG ?_ | refine d_offG ?_ | refine wq_seq ?_ | refine wq_line ?_ | refine wq_draw (by decide +kernel) ?_ | refine wq_block ?_ | refine l_nil ?_ | refine d_nil ?_ | refine wq_skip ?_ | refine wq_ret ?_ | refine wq_exit ?_ | refine th_normal ?_ | refine th_ret ?_ | refine th_exit ?_ | refine bk_normal ?_ | refine bk_ret ?_ | refine bk_exit ?_ | refine bk_other rfl ?_)
            refine cond_go (fun hb => ?_) (fun hb => ?_)
            · clear hb
              repeat (first | refine l_go ?_ | refine d_go ?_ | refine l_onG ?_ | refine l_offG ?_ | refine d_onG ?_ | refine d_offG ?_ | refine wq_seq ?_ | refine wq_line ?_ | refine wq_draw (by decide +kernel) ?_ | refine wq_block ?_ | refine l_nil ?_ | refine d_nil ?_ | refine wq_skip ?_ | refine wq_ret ?_ | refine wq_exit ?_ | refine th_normal ?_ | refine th_ret ?_ | refine th_exit ?_ | refine bk_normal ?_ | refine bk_ret ?_ | refine bk_exit ?_ | refine bk_other rfl ?_)
              refine l_heap (h' := K ++ [.row (List.flatMap Ev.cells [⟨0, 1, d, 0, 0, 0⟩, ⟨0, 0, 0, 0, 0, 0⟩, ⟨1, 0, 1, 1, 0, 0⟩, ⟨2, 0, 0, 0, 64, 1⟩, ⟨0, 1, 0, 0, 0, 0⟩]) true]) rfl ?_
              refine l_callG (some_ _) ?_
              repeat (first | refine l_go ?_ | refine d_go ?_ | refine l_onG ?_ | refine l_offG ?_ | refine d_onG ?_ | refine d_offG ?_ | refine wq_seq ?_ | refine wq_line ?_ | refine wq_draw (by decide +kernel) ?_ | refine wq_block ?_ | refine l_nil ?_ | refine d_nil ?_ | refine wq_skip ?_ | refine wq_ret ?_ | refine wq_exit ?_ | refine th_normal ?_ | refine th_ret ?_ | refine th_exit ?_ | refine bk_normal ?_ | refine bk_ret ?_ | refine bk_exit ?_ | refine bk_other rfl ?_)
              refine l_callG (may_some _) ?_
              repeat (first | refine l_go ?_ | refine d_go ?_ | refine l_onG ?_ | refine l_offG ?_ | refine d_onG ?_ | refine d_offG ?_ | refine wq_seq ?_ | refine wq_line ?_ | refine wq_draw (by decide +kernel) ?_ | refine wq_block ?_ | refine l_nil ?_ | refine d_nil ?_ | refine wq_skip ?_ | refine wq_ret ?_ | refine wq_exit ?_ | refine th_normal ?_ | refine th_ret ?_ | refine th_exit ?_ | refine bk_normal ?_ | refine bk_ret ?_ | refine bk_exit ?_ | refine bk_other rfl ?_)
              refine l_callG (c [⟨0, 1, d, 0, 0, 0⟩, ⟨0, 0, 0, 0, 0, 0⟩, ⟨1, 0, 1, 1, 0, 0⟩, ⟨2, 0, 0, 0, 64, 1⟩, ⟨0, 1, 0, 0, 0, 0⟩] rfl 2 (bad4 d hdd)) ?_
              repeat (first | refine l_go ?_ | refine d_go ?_ | refine l_onG ?_ | refine l_offG ?_ | refine d_onG ?_ | refine d_offG ?_ | refine wq_seq ?_ | refine wq_line ?_ | refine wq_draw (by decide +kernel) ?_ | refine wq_block ?_ | refine l_nil ?_ | refine d_nil ?_ | refine wq_skip ?_ | refine wq_ret ?_ | refine wq_exit ?_ | refine th_normal ?_ | refine th_ret ?_ | refine th_exit ?_ | refine bk_normal ?_ | refine bk_ret ?_ | refine bk_exit ?_ | refine bk_other rfl ?_)
              refine l_callG (num0 _ 0) ?_
              repeat (first | refine l_go ?_ | refine d_go ?_ | refine l_onG ?_ | refine l_offG ?_ | refine d_onG ?_ | refine d_offG ?_ | refine wq_seq ?_ | refine wq_line ?_ | refine wq_draw (by decide +kernel) ?_ | refine wq_block ?_ | refine l_nil ?_ | refine d_nil ?_ | refine wq_skip ?_ | refine wq_ret ?_ | refine wq_exit ?_ | refine th_normal ?_ | refine th_ret ?_ | refine th_exit ?_ | refine bk_normal ?_ | refine bk_ret ?_ | refine bk_exit ?_ | refine bk_other rfl ?_)
              refine l_callG (may_nil _) ?_
              repeat (first | refine l_go ?_ | refine d_go ?_ | refine l_onG ?_ | refine l_offG ?_ | refine d_onG ?_ | refine d_offG ?_ | refine wq_seq ?_ | refine wq_line ?_ | refine wq_draw (by decide +kernel) ?_ | refine wq_block ?_ | refine l_nil ?_ | refine d_nil ?_ | refine wq_skip ?_ | refine wq_ret ?_ | refine wq_exit ?_ | refine th_normal ?_ | refine th_ret ?_ | refine th_exit ?_ | refine bk_normal ?_ | refine bk_ret ?_ | refine bk_exit ?_ | refine bk_other rfl ?_)
              refine end_ret (by simp only [resRf, resRs, resR]; first | done | rfl) ⟨?_, by simp only [List.append_assoc]; exact p _⟩
              simp [put_app, put_none]
            · clear hb
              refine wq_cut (fun ρ => ρ 5 = .int .i64 d ∧ ρ 6 = .slc K.length 0 5 5 true 6 ∧ ρ 7 = .int .i64 2 ∧ ρ 16 = .int .u64 ((IntKind.u64.wrap n).tmod 17)) ⟨h5, h6, h7, h16⟩ ?_
              clear h5 h6 h7 h16
              clear ρ
              rintro ρ ⟨h5, h6, h7, h16⟩
              repeat (first | refine l_go ?_ | refine d_go ?_ | refine l_onG ?_ | refine l_offG ?_ | refine d_onG ?_ | refine d_offG ?_ | refine wq_seq ?_ | refine wq_line ?_ | refine wq_draw (by decide +kernel) ?_ | refine wq_block ?_ | refine l_nil ?_ | refine d_nil ?_ | refine wq_skip ?_ | refine wq_ret ?_ | refine wq_exit ?_ | refine th_normal ?_ | refine th_ret ?_ | refine th_exit ?_ | refine bk_normal ?_ | refine bk_ret ?_ | refine bk_exit ?_ | refine bk_other rfl ?_)
              refine cond_go (fun hb => ?_) (fun hb => ?_)
              · clear hb
                repeat (first | refine l_go ?_ | refine d_go ?_ | refine l_onG ?_ | refine l_offG ?_ | refine d_onG ?_ | refine d_offG ?_ | refine wq_seq ?_ | refine wq_line ?_ | refine wq_draw (by decide +kernel) ?_ | refine wq_block ?_ | refine l_nil ?_ | refine d_nil ?_ | refine wq_skip ?_ | refine wq_ret ?_ | refine wq_exit ?_ | refine th_normal ?_ | refine th_ret ?_ | refine th_exit ?_ | refine bk_normal ?_ | refine bk_ret ?_ | refine bk_exit ?_ | refine bk_other rfl ?_)
                refine l_heap (h' := K ++ [.row (List.flatMap Ev.cells [⟨0, 1, 0, d, 0, 0⟩, ⟨0, 0, 0, 0, 0, 0⟩, ⟨1, 0, 1, 1, 0, 0⟩, ⟨2, 0, 0, 0, 64, 1⟩, ⟨0, 1, 0, 0, 0, 0⟩]) true]) rfl ?_
                refine l_callG (some_ _) ?_
                repeat (first | refine l_go ?_ | refine d_go ?_ | refine l_onG ?_ | refine l_offG ?_ | refine d_onG ?_ | refine d_offG ?_ | refine wq_seq ?_ | refine wq_line ?_ | refine wq_draw (by decide +kernel) ?_ | refine wq_block ?_ | refine l_nil ?_ | refine d_nil ?_ | refine wq_skip ?_ | refine wq_ret ?_ | refine wq_exit ?_ | refine th_normal ?_ | refine th_ret ?_ | refine th_exit ?_ | refine bk_normal ?_ | refine bk_ret ?_ | refine bk_exit ?_ | refine bk_other rfl ?_)
                refine l_callG (may_some _) ?_
                repeat (first | refine l_go ?_ | refine d_go ?_ | refine l_onG ?_ | refine l_offG ?_ | refine d_onG ?_ | refine d_offG ?_ | refine wq_seq ?_ | refine wq_line ?_ | refine wq_draw (by decide +kernel) ?_ | refine wq_block ?_ | refine l_nil ?_ | refine d_nil ?_ | refine wq_skip ?_ | refine wq_ret ?_ | refine wq_exit ?_ | refine th_normal ?_ | refine th_ret ?_ | refine th_exit ?_ | refine bk_normal ?_ | refine bk_ret ?_ | refine bk_exit ?_ | refine bk_other rfl ?_)
                refine l_callG (c [⟨0, 1, 0, d, 0, 0⟩, ⟨0, 0, 0, 0, 0, 0⟩, ⟨1, 0, 1, 1, 0, 0⟩, ⟨2, 0, 0, 0, 64, 1⟩, ⟨0, 1, 0, 0, 0, 0⟩] rfl 2 (bad5 d hdd)) ?_
                repeat (first | refine l_go ?_ | refine d_go ?_ | refine l_onG ?_ | refine l_offG ?_ | refine d_onG ?_ | refine d_offG ?_ | refine wq_seq ?_ | refine wq_line ?_ | refine wq_draw (by decide +kernel) ?_ | refine wq_block ?_ | refine l_nil ?_ | refine d_nil ?_ | refine wq_skip ?_ | refine wq_ret ?_ | refine wq_exit ?_ | refine th_normal ?_ | refine th_ret ?_ | refine th_exit ?_ | refine bk_normal ?_ | refine bk_ret ?_ | refine bk_exit ?_ | refine bk_other rfl ?_)
                refine l_callG (num0 _ 0) ?_
                repeat (first | refine l_go ?_ | refine d_go ?_ | refine l_onG ?_ | refine l_offG ?_ | refine d_onG ?_ | refine d_offG ?_ | refine wq_seq ?_ | refine wq_line ?_ | refine wq_draw (by decide +kernel) ?_ | refine wq_block ?_ | refine l_nil ?_ | refine d_nil ?_ | refine wq_skip ?_ | refine wq_ret ?_ | refine wq_exit ?_ | refine th_normal ?_ | refine th_ret ?_ | refine th_exit ?_ | refine bk_normal ?_ | refine bk_ret ?_ | refine bk_exit ?_ | refine bk_other rfl ?_)
                refine l_callG (may_nil _) ?_
                repeat (first | refine l_go ?_ | refine d_go ?_ | refine l_onG ?_ | refine l_offG ?_ | refine d_onG ?_ | refine d_offG ?_ | refine wq_seq ?_ | refine wq_line ?_ | refine wq_draw (by decide +kernel) ?_ | refine wq_block ?_ | refine l_nil ?_ | refine d_nil ?_ | refine wq_skip ?_ | refine wq_ret ?_ | refine wq_exit ?_ | refine th_normal ?_ | refine th_ret ?_ | refine th_exit ?_ | refine bk_normal ?_ | refine bk_ret ?_ | refine bk_exit ?_ | refine bk_other rfl ?_)
                refine end_ret (by simp only [resRf, resRs, resR]; first | done | rfl) ⟨?_, by simp only [List.append_assoc]; exact p _⟩
                simp [put_app, put_none]
              · clear hb
                repeat (first | refine l_go ?_ | refine d_go ?_ | refine l_onG ?_ | refine l_offG ?_ | refine d_onG ?_ | refine d_offG ?_ | refine wq_seq ?_ | refine wq_line ?_ | refine wq_draw (by decide +kernel) ?_ | refine wq_block ?_ | refine l_nil ?_ | refine d_nil ?_ | refine wq_skip ?_ | refine wq_ret ?_ | refine wq_exit ?_ | refine th_normal ?_ | refine th_ret ?_ | refine th_exit ?_ | refine bk_normal ?_ | refine bk_ret ?_ | refine bk_exit ?_ | refine bk_other rfl ?_)
                refine cond_go (fun hb => ?_) (fun hb => ?_)
                · clear hb
                  repeat (first | refine l_go ?_ | refine d_go ?_ | refine l_onG ?_ | refine l_offG ?_ | refine d_onG ?_ | refine d_offG ?_ | refine wq_seq ?_ | refine wq_line ?_ | refine wq_draw (by decide +kernel) ?_ | refine wq_block ?_ | refine l_nil ?_ | refine d_nil ?_ | refine wq_skip ?_ | refine wq_ret ?_ | refine wq_exit ?_ | refine th_normal ?_ | refine th_ret ?_ | refine th_exit ?_ | refine bk_normal ?_ | refine bk_ret ?_ | refine bk_exit ?_ | refine bk_other rfl ?_)
                  refine l_heap (h' := K ++ [.row (List.flatMap Ev.cells [⟨0, 1, 0, 0, d, 0⟩, ⟨0, 0, 0, 0, 0, 0⟩, ⟨1, 0, 1, 1, 0, 0⟩, ⟨2, 0, 0, 0, 64, 1⟩, ⟨0, 1, 0, 0, 0, 0⟩]) true]) rfl ?_
                  refine l_callG (some_ _) ?_
                  repeat (first | refine l_go ?_ | refine d_go ?_ | refine l_onG ?_ | refine l_offG ?_ | refine d_onG ?_ | refine d_offG ?_ | refine wq_seq ?_ | refine wq_line ?_ | refine wq_draw (by decide +kernel) ?_ | refine wq_block ?_ | refine l_nil ?_ | refine d_nil ?_ | refine wq_skip ?_ | refine wq_ret ?_ | refine wq_exit ?_ | refine th_normal ?_ | refine th_ret ?_ | refine th_exit ?_ | refine bk_normal ?_ | refine bk_ret ?_ | refine bk_exit ?_ | refine bk_other rfl ?_)
                  refine l_callG (may_some _) ?_
                  repeat (first | refine l_go ?_ | refine d_go ?_ | refine l_onG ?_ | refine l_offG ?_ | refine d_onG ?_ | refine d_offG ?_ | refine wq_seq ?_ | refine wq_line ?_ | refine wq_draw (by decide +kernel) ?_ | refine wq_block ?_ | refine l_nil ?_ | refine d_nil ?_ | refine wq_skip ?_ | refine wq_ret ?_ | refine wq_exit ?_ | refine th_normal ?_ | refine th_ret ?_ | refine th_exit ?_ | refine bk_normal ?_ | refine bk_ret ?_ | refine bk_exit ?_ | refine bk_other rfl ?_)
                  refine l_callG (c [⟨0, 1, 0, 0, d, 0⟩, ⟨0, 0, 0, 0, 0, 0⟩, ⟨1, 0, 1, 1, 0, 0⟩, ⟨2, 0, 0, 0, 64, 1⟩, ⟨0, 1, 0, 0, 0, 0⟩] rfl 2 (bad6 d hdd)) ?_
                  repeat (first | refine l_go ?_ | refine d_go ?_ | refine l_onG ?_ | refine l_offG ?_ | refine d_onG ?_ | refine d_offG ?_ | refine wq_seq ?_ | refine wq_line ?_ | refine wq_draw (by decide +kernel) ?_ | refine wq_block ?_ | refine l_nil ?_ | refine d_nil ?_ | refine wq_skip ?_ | refine wq_ret ?_ | refine wq_exit ?_ | refine th_normal ?_ | refine th_ret ?_ | refine th_exit ?_ | refine bk_normal ?_ | refine bk_ret ?_ | refine bk_exit ?_ | refine bk_other rfl ?_)
                  refine l_callG (num0 _ 0) ?_
                  repeat (first | refine l_go ?_ | refine d_go ?_ | refine l_onG ?_ | refine l_offG ?_ | refine d_onG ?_ | refine d_offG ?_ | refine wq_seq ?_ | refine wq_line ?_ | refine wq_draw (by decide +kernel) ?_ | refine wq_block ?_ | refine l_nil ?_ | refine d_nil ?_ | refine wq_skip ?_ | refine wq_ret ?_ | refine wq_exit ?_ | refine th_normal ?_ | refine th_ret ?_ | refine th_exit ?_ | refine bk_normal ?_ | refine bk_ret ?_ | refine bk_exit ?_ | refine bk_other rfl ?_)
                  refine l_callG (may_nil _) ?_
                  repeat (first | refine l_go ?_ | refine d_go ?_ | refine l_onG ?_ | refine l_offG ?_ | refine d_onG ?_ | refine d_offG ?_ | refine wq_seq ?_ | refine wq_line ?_ | refine wq_draw (by decide +kernel) ?_ | refine wq_block ?_ | refine l_nil ?_ | refine d_nil ?_ | refine wq_skip ?_ | refine wq_ret ?_ | refine wq_exit ?_ | refine th_normal ?_ | refine th_ret ?_ | refine th_exit ?_ | refine bk_normal ?_ | refine bk_ret ?_ | refine bk_exit ?_ | refine bk_other rfl ?_)
                  refine end_ret (by simp only [resRf, resRs, resR]; first | done | rfl) ⟨?_, by simp only [List.append_assoc]; exact p _⟩
                  simp [put_app, put_none]
                · clear hb
                  repeat (first | refine l_go ?_ | refine d_go ?_ | refine l_onG ?_ | refine l_offG ?_ | refine d_onG ?_ | refine d_offG ?_ | refine wq_seq ?_ | refine wq_line ?_ | refine wq_draw (by decide +kernel) ?_ | refine wq_block ?_ | refine l_nil ?_ | refine d_nil ?_ | refine wq_skip ?_ | refine wq_ret ?_ | refine wq_exit ?_ | refine th_normal ?_ | refine th_ret ?_ | refine th_exit ?_ | refine bk_normal ?_ | refine bk_ret ?_ | refine bk_exit ?_ | refine bk_other rfl ?_)
                  refine cond_go (fun hb => ?_) (fun hb => ?_)
                  · clear hb
                    repeat (first | refine l_go ?_ | refine d_go ?_ | refine l_onG ?_ | refine l_offG ?_ | refine d_onG ?_ | refine d_offG ?_ | refine wq_seq ?_ | refine wq_line ?_ | refine wq_draw (by decide +kernel) ?_ | refine wq_block ?_ | refine l_nil ?_ | refine d_nil ?_ | refine wq_skip ?_ | refine wq_ret ?_ | refine wq_exit ?_ | refine th_normal ?_ | refine th_ret ?_ | refine th_exit ?_ | refine bk_normal ?_ | refine bk_ret ?_ | refine bk_exit ?_ | refine bk_other rfl ?_)
                    refine l_heap (h' := K ++ [.row (List.flatMap Ev.cells [⟨0, 1, 0, 0, 0, 0⟩, ⟨0, 0, 0, 0, 0, 0⟩, ⟨1, 0, 0, 1, 0, 0⟩, ⟨2, 0, 0, 0, 64, 1⟩, ⟨0, 1, 0, 0, 0, 0⟩]) true]) rfl ?_
                    refine l_callG (some_ _) ?_
                    repeat (first | refine l_go ?_ | refine d_go ?_ | refine l_onG ?_ | refine l_offG ?_ | refine d_onG ?_ | refine d_offG ?_ | refine wq_seq ?_ | refine wq_line ?_ | refine wq_draw (by decide +kernel) ?_ | refine wq_block ?_ | refine l_nil ?_ | refine d_nil ?_ | refine wq_skip ?_ | refine wq_ret ?_ | refine wq_exit ?_ | refine th_normal ?_ | refine th_ret ?_ | refine th_exit ?_ | refine bk_normal ?_ | refine bk_ret ?_ | refine bk_exit ?_ | refine bk_other rfl ?_)
                    refine l_callG (may_some _) ?_
                    repeat (first | refine l_go ?_ | refine d_go ?_ | refine l_onG ?_ | refine l_offG ?_ | refine d_onG ?_ | refine d_offG ?_ | refine wq_seq ?_ | refine wq_line ?_ | refine wq_draw (by decide +kernel) ?_ | refine wq_block ?_ | refine l_nil ?_ | refine d_nil ?_ | refine wq_skip ?_ | refine wq_ret ?_ | refine wq_exit ?_ | refine th_normal ?_ | refine th_ret ?_ | refine th_exit ?_ | refine bk_normal ?_ | refine bk_ret ?_ | refine bk_exit ?_ | refine bk_other rfl ?_)
                    refine l_callG (c [⟨0, 1, 0, 0, 0, 0⟩, ⟨0, 0, 0, 0, 0, 0⟩, ⟨1, 0, 0, 1, 0, 0⟩, ⟨2, 0, 0, 0, 64, 1⟩, ⟨0, 1, 0, 0, 0, 0⟩] rfl 2 (bad7 d hdd)) ?_
                    repeat (first | refine l_go ?_ | refine d_go ?_ | refine l_onG ?_ | refine l_offG ?_ | refine d_onG ?_ | refine d_offG ?_ | refine wq_seq ?_ | refine wq_line ?_ | refine wq_draw (by decide +kernel) ?_ | refine wq_block ?_ | refine l_nil ?_ | refine d_nil ?_ | refine wq_skip ?_ | refine wq_ret ?_ | refine wq_exit ?_ | refine th_normal ?_ | refine th_ret ?_ | refine th_exit ?_ | refine bk_normal ?_ | refine bk_ret ?_ | refine bk_exit ?_ | refine bk_other rfl ?_)
                    refine l_callG (num0 _ 0) ?_
                    repeat (first | refine l_go ?_ | refine d_go ?_ | refine l_onG ?_ | refine l_offG ?_ | refine d_onG ?_ | refine d_offG ?_ | refine wq_seq ?_ | refine wq_line ?_ | refine wq_draw (by decide +kernel) ?_ | refine wq_block ?_ | refine l_nil ?_ | refine d_nil ?_ | refine wq_skip ?_ | refine wq_ret ?_ | refine wq_exit ?_ | refine th_normal ?_ | refine th_ret ?_ | refine th_exit ?_ | refine bk_normal ?_ | refine bk_ret ?_ | refine bk_exit ?_ | refine bk_other rfl ?_)
                    refine l_callG (may_nil _) ?_
                    repeat (first | refine l_go ?_ | refine d_go ?_ | refine l_onG ?_ | refine l_offG ?_ | refine d_onG ?_ | refine d_offG ?_ | refine wq_seq ?_ | refine wq_line ?_ | refine wq_draw (by decide +kernel) ?_ | refine wq_block ?_ | refine l_nil ?_ | refine d_nil ?_ | refine wq_skip ?_ | refine wq_ret ?_ | refine wq_exit ?_ | refine th_normal ?_ | refine th_ret ?_ | refine th_exit ?_ | refine bk_normal ?_ | refine bk_ret ?_ | refine bk_exit ?_ | refine bk_other rfl ?_)
                    refine end_ret (by simp only [resRf, resRs, resR]; first | done | rfl) ⟨?_, by simp only [List.append_assoc]; exact p _⟩
                    simp [put_app, put_none]
                  · clear hb
                    repeat (first | refine l_go ?_ | refine d_go ?_ | refine l_onG ?_ | refine l_offG ?_ | refine d_onG ?_ | refine d_offG ?_ | refine wq_seq ?_ | refine wq_line ?_ | refine wq_draw (by decide +kernel) ?_ | refine wq_block ?_ | refine l_nil ?_ | refine d_nil ?_ | refine wq_skip ?_ | refine wq_ret ?_ | refine wq_exit ?_ | refine th_normal ?_ | refine th_ret ?_ | refine th_exit ?_ | refine bk_normal ?_ | refine bk_ret ?_ | refine bk_exit ?_ | refine bk_other rfl ?_)
                    refine cond_go (fun hb => ?_) (fun hb => ?_)
                    · clear hb
                      repeat (first | refine l_go ?_ | refine d_go ?_ | refine l_onG ?_ | refine l_offG ?_ | refine d_onG ?_ | refine d_offG ?_ | refine wq_seq ?_ | refine wq_line ?_ | refine wq_draw (by decide +kernel) ?_ | refine wq_block ?_ | refine l_nil ?_ | refine d_nil ?_ | refine wq_skip ?_ | refine wq_ret ?_ | refine wq_exit ?_ | refine th_normal ?_ | refine th_ret ?_ | refine th_exit ?_ | refine bk_normal ?_ | refine bk_ret ?_ | refine bk_exit ?_ | refine bk_other rfl ?_)
                      refine l_heap (h' := K ++ [.row (List.flatMap Ev.cells [⟨0, 1, 0, 0, 0, 0⟩, ⟨0, 0, 0, 0, 0, 0⟩, ⟨1, 0, 1 + d, 1, 0, 0⟩, ⟨2, 0, 0, 0, 64, 1⟩, ⟨0, 1, 0, 0, 0, 0⟩]) true]) rfl ?_
                      refine l_callG (some_ _) ?_
                      repeat (first | refine l_go ?_ | refine d_go ?_ | refine l_onG ?_ | refine l_offG ?_ | refine d_onG ?_ | refine d_offG ?_ | refine wq_seq ?_ | refine wq_line ?_ | refine wq_draw (by decide +kernel) ?_ | refine wq_block ?_ | refine l_nil ?_ | refine d_nil ?_ | refine wq_skip ?_ | refine wq_ret ?_ | refine wq_exit ?_ | refine th_normal ?_ | refine th_ret ?_ | refine th_exit ?_ | refine bk_normal ?_ | refine bk_ret ?_ | refine bk_exit ?_ | refine bk_other rfl ?_)
                      refine l_callG (may_some _) ?_
                      repeat (first | refine l_go ?_ | refine d_go ?_ | refine l_onG ?_ | refine l_offG ?_ | refine d_onG ?_ | refine d_offG ?_ | refine wq_seq ?_ | refine wq_line ?_ | refine wq_draw (by decide +kernel) ?_ | refine wq_block ?_ | refine l_nil ?_ | refine d_nil ?_ | refine wq_skip ?_ | refine wq_ret ?_ | refine wq_exit ?_ | refine th_normal ?_ | refine th_ret ?_ | refine th_exit ?_ | refine bk_normal ?_ | refine bk_ret ?_ | refine bk_exit ?_ | refine bk_other rfl ?_)
                      refine l_callG (c [⟨0, 1, 0, 0, 0, 0⟩, ⟨0, 0, 0, 0, 0, 0⟩, ⟨1, 0, 1 + d, 1, 0, 0⟩, ⟨2, 0, 0, 0, 64, 1⟩, ⟨0, 1, 0, 0, 0, 0⟩] rfl 2 (bad8 d hdd)) ?_
                      repeat (first | refine l_go ?_ | refine d_go ?_ | refine l_onG ?_ | refine l_offG ?_ | refine d_onG ?_ | refine d_offG ?_ | refine wq_seq ?_ | refine wq_line ?_ | refine wq_draw (by decide +kernel) ?_ | refine wq_block ?_ | refine l_nil ?_ | refine d_nil ?_ | refine wq_skip ?_ | refine wq_ret ?_ | refine wq_exit ?_ | refine th_normal ?_ | refine th_ret ?_ | refine th_exit ?_ | refine bk_normal ?_ | refine bk_ret ?_ | refine bk_exit ?_ | refine bk_other rfl ?_)
                      refine l_callG (num0 _ 0) ?_
                      repeat (first | refine l_go ?_ | refine d_go ?_ | refine l_onG ?_ | refine l_offG ?_ | refine d_onG ?_ | refine d_offG ?_ | refine wq_seq ?_ | refine wq_line ?_ | refine wq_draw (by decide +kernel) ?_ | refine wq_block ?_ | refine l_nil ?_ | refine d_nil ?_ | refine wq_skip ?_ | refine wq_ret ?_ | refine wq_exit ?_ | refine th_normal ?_ | refine th_ret ?_ | refine th_exit ?_ | refine bk_normal ?_ | refine bk_ret ?_ | refine bk_exit ?_ | refine bk_other rfl ?_)
                      refine l_callG (may_nil _) ?_
                      repeat (first | refine l_go ?_ | refine d_go ?_ | refine l_onG ?_ | refine l_offG ?_ | refine d_onG ?_ | refine d_offG ?_ | refine wq_seq ?_ | refine wq_line ?_ | refine wq_draw (by decide +kernel) ?_ | refine wq_block ?_ | refine l_nil ?_ | refine d_nil ?_ | refine wq_skip ?_ | refine wq_ret ?_ | refine wq_exit ?_ | refine th_normal ?_ | refine th_ret ?_ | refine th_exit ?_ | refine bk_normal ?_ | refine bk_ret ?_ | refine bk_exit ?_ | refine bk_other rfl ?_)
                      refine end_ret (by simp only [resRf, resRs, resR]; first | done | rfl) ⟨?_, by simp only [List.append_assoc]; exact p _⟩
                      simp [put_app, put_none]
                    · clear hb
                      refine wq_cut (fun ρ => ρ 5 = .int .i64 d ∧ ρ 6 = .slc K.length 0 5 5 true 6 ∧ ρ 7 = .int .i64 2 ∧ ρ 16 = .int .u64 ((IntKind.u64.wrap n).tmod 17)) ⟨h5, h6, h7, h16⟩ ?_
                      clear h5 h6 h7 h16
                      clear ρ
                      rintro ρ ⟨h5, h6, h7, h16⟩
                      repeat (first | refine l_go ?_ | refine d_go ?_ | refine l_onG ?_ | refine l_offG ?_ | refine d_onG ?_ | refine d_offG ?_ | refine wq_seq ?_ | refine wq_line ?_ | refine wq_draw (by decide +kernel) ?_ | refine wq_block ?_ | refine l_nil ?_ | refine d_nil ?_ | refine wq_skip ?_ | refine wq_ret ?_ | refine wq_exit ?_ | refine th_normal ?_ | refine th_ret ?_ | refine th_exit ?_ | refine bk_normal ?_ | refine bk_ret ?_ | refine bk_exit ?_ | refine bk_other rfl ?_)
                      refine cond_go (fun hb => ?_) (fun hb => ?_)
                      · clear hb
                        repeat (first | refine l_go ?_ | refine d_go ?_ | refine l_onG ?_ | refine l_offG ?_ | refine d_onG ?_ | refine d_offG ?_ | refine wq_seq ?_ | refine wq_line ?_ | refine wq_draw (by decide +kernel) ?_ | refine wq_block ?_ | refine l_nil ?_ | refine d_nil ?_ | refine wq_skip ?_ | refine wq_ret ?_ | refine wq_exit ?_ | refine th_normal ?_ | refine th_ret ?_ | refine th_exit ?_ | refine bk_normal ?_ | refine bk_ret ?_ | refine bk_exit ?_ | refine bk_other rfl ?_)
                        refine l_heap (h' := K ++ [.row (List.flatMap Ev.cells [⟨0, 1, 0, 0, 0, 0⟩, ⟨0, 0, 0, 0, 0, 0⟩, ⟨1, 0, 1, 1 + d, 0, 0⟩, ⟨2, 0, 0, 0, 64, 1⟩, ⟨0, 1, 0, 0, 0, 0⟩]) true]) rfl ?_
                        refine l_callG (some_ _) ?_
                        repeat (first | refine l_go ?_ | refine d_go ?_ | refine l_onG ?_ | refine l_offG ?_ | refine d_onG ?_ | refine d_offG ?_ | refine wq_seq ?_ | refine wq_line ?_ | refine wq_draw (by decide +kernel) ?_ | refine wq_block ?_ | refine l_nil ?_ | refine d_nil ?_ | refine wq_skip ?_ | refine wq_ret ?_ | refine wq_exit ?_ | refine th_normal ?_ | refine th_ret ?_ | refine th_exit ?_ | refine bk_normal ?_ | refine bk_ret ?_ | refine bk_exit ?_ | refine bk_other rfl ?_)
                        refine l_callG (may_some _) ?_
                        repeat (first | refine l_go ?_ | refine d_go ?_ | refine l_onG ?_ | refine l_offG ?_ | refine d_onG ?_ | refine d_offG ?_ | refine wq_seq ?_ | refine wq_line ?_ | refine wq_draw (by decide +kernel) ?_ | refine wq_block ?_ | refine l_nil ?_ | refine d_nil ?_ | refine wq_skip ?_ | refine wq_ret ?_ | refine wq_exit ?_ | refine th_normal ?_ | refine th_ret ?_ | refine th_exit ?_ | refine bk_normal ?_ | refine bk_ret ?_ | refine bk_exit ?_ | refine bk_other rfl ?_)
                        refine l_callG (c [⟨0, 1, 0, 0, 0, 0⟩, ⟨0, 0, 0, 0, 0, 0⟩, ⟨1, 0, 1, 1 + d, 0, 0⟩, ⟨2, 0, 0, 0, 64, 1⟩, ⟨0, 1, 0, 0, 0, 0⟩] rfl 2 (bad9 d hdd)) ?_
                        repeat (first | refine l_go ?_ | refine d_go ?_ | refine l_onG ?_ | refine l_offG ?_ | refine d_onG ?_ | refine d_offG ?_ | refine wq_seq ?_ | refine wq_line ?_ | refine wq_draw (by decide +kernel) ?_ | refine wq_block ?_ | refine l_nil ?_ | refine d_nil ?_ | refine wq_skip ?_ | refine wq_ret ?_ | refine wq_exit ?_ | refine th_normal ?_ | refine th_ret ?_ | refine th_exit ?_ | refine bk_normal ?_ | refine bk_ret ?_ | refine bk_exit ?_ | refine bk_other rfl ?_)
                        refine l_callG (num0 _ 0) ?_
                        repeat (first | refine l_go ?_ | refine d_go ?_ | refine l_onG ?_ | refine l_offG ?_ | refine d_onG ?_ | refine d_offG ?_ | refine wq_seq ?_ | refine wq_line ?_ | refine wq_draw (by decide +kernel) ?_ | refine wq_block ?_ | refine l_nil ?_ | refine d_nil ?_ | refine wq_skip ?_ | refine wq_ret ?_ | refine wq_exit ?_ | refine th_normal ?_ | refine th_ret ?_ | refine th_exit ?_ | refine bk_normal ?_ | refine bk_ret ?_ | refine bk_exit ?_ | refine bk_other rfl ?_)
                        refine l_callG (may_nil _) ?_
                        repeat (first | refine l_go ?_ | refine d_go ?_ | refine l_onG ?_ | refine l_offG ?_ | refine d_onG ?_ | refine d_offG ?_ | refine wq_seq ?_ | refine wq_line ?_ | refine wq_draw (by decide +kernel) ?_ | refine wq_block ?_ | refine l_nil ?_ | refine d_nil ?_ | refine wq_skip ?_ | refine wq_ret ?_ | refine wq_exit ?_ | refine th_normal ?_ | refine th_ret ?_ | refine th_exit ?_ | refine bk_normal ?_ | refine bk_ret ?_ | refine bk_exit ?_ | refine bk_other rfl ?_)
                        refine end_ret (by simp only [resRf, resRs, resR]; first | done | rfl) ⟨?_, by simp only [List.append_assoc]; exact p _⟩
                        simp [put_app, put_none]
                      · clear hb
                        repeat (first | refine l_go ?_ | refine d_go ?_ | refine l_onG ?_ | refine l_offG ?_ | refine d_onG ?_ | refine d_offG ?_ | refine wq_seq ?_ | refine wq_line ?_ | refine wq_draw (by decide +kernel) ?_ | refine wq_block ?_ | refine l_nil ?_ | refine d_nil ?_ | refine wq_skip ?_ | refine wq_ret ?_ | refine wq_exit ?_ | refine th_normal ?_ | refine th_ret ?_ | refine th_exit ?_ | refine bk_normal ?_ | refine bk_ret ?_ | refine bk_exit ?_ | refine bk_other rfl ?_)
                        refine cond_go (fun hb => ?_) (fun hb => ?_)
                        · clear hb
                          repeat (first | refine l_go ?_ | refine d_go ?_ | refine l_onG ?_ | refine l_offG ?_ | refine d_onG ?_ | refine d_offG ?_ | refine wq_seq ?_ | refine wq_line ?_ | refine wq_draw (by decide +kernel) ?_ | refine wq_block ?_ | refine l_nil ?_ | refine d_nil ?_ | refine wq_skip ?_ | refine wq_ret ?_ | refine wq_exit ?_ | refine th_normal ?_ | refine th_ret ?_ | refine th_exit ?_ | refine bk_normal ?_ | refine bk_ret ?_ | refine bk_exit ?_ | refine bk_other rfl ?_)
                          refine l_heap (h' := K ++ [.row (List.flatMap Ev.cells [⟨0, 1, 0, 0, 0, 0⟩, ⟨0, 0, 0, 0, 0, 0⟩, ⟨1, 0, 1, 1, 0, d⟩, ⟨2, 0, 0, 0, 64, 1⟩, ⟨0, 1, 0, 0, 0, 0⟩]) true]) rfl ?_
                          refine l_callG (some_ _) ?_
                          repeat (first | refine l_go ?_ | refine d_go ?_ | refine l_onG ?_ | refine l_offG ?_ | refine d_onG ?_ | refine d_offG ?_ | refine wq_seq ?_ | refine wq_line ?_ | refine wq_draw (by decide +kernel) ?_ | refine wq_block ?_ | refine l_nil ?_ | refine d_nil ?_ | refine wq_skip ?_ | refine wq_ret ?_ | refine wq_exit ?_ | refine th_normal ?_ | refine th_ret ?_ | refine th_exit ?_ | refine bk_normal ?_ | refine bk_ret ?_ | refine bk_exit ?_ | refine bk_other rfl ?_)
                          refine l_callG (may_some _) ?_
                          repeat (first | refine l_go ?_ | refine d_go ?_ | refine l_onG ?_ | refine l_offG ?_ | refine d_onG ?_ | refine d_offG ?_ | refine wq_seq ?_ | refine wq_line ?_ | refine wq_draw (by decide +kernel) ?_ | refine wq_block ?_ | refine l_nil ?_ | refine d_nil ?_ | refine wq_skip ?_ | refine wq_ret ?_ | refine wq_exit ?_ | refine th_normal ?_ | refine th_ret ?_ | refine th_exit ?_ | refine bk_normal ?_ | refine bk_ret ?_ | refine bk_exit ?_ | refine bk_other rfl ?_)
                          refine l_callG (c [⟨0, 1, 0, 0, 0, 0⟩, ⟨0, 0, 0, 0, 0, 0⟩, ⟨1, 0, 1, 1, 0, d⟩, ⟨2, 0, 0, 0, 64, 1⟩, ⟨0, 1, 0, 0, 0, 0⟩] rfl 2 (bad10 d hdd)) ?_
                          repeat (first | refine l_go ?_ | refine d_go ?_ | refine l_onG ?_ | refine l_offG ?_ | refine d_onG ?_ | refine d_offG ?_ | refine wq_seq ?_ | refine wq_line ?_ | refine wq_draw (by decide +kernel) ?_ | refine wq_block ?_ | refine l_nil ?_ | refine d_nil ?_ | refine wq_skip ?_ | refine wq_ret ?_ | refine wq_exit ?_ | refine th_normal ?_ | refine th_ret ?_ | refine th_exit ?_ | refine bk_normal ?_ | refine bk_ret ?_ | refine bk_exit ?_ | refine bk_other rfl ?_)
                          refine l_callG (num0 _ 0) ?_
                          repeat (first | refine l_go ?_ | refine d_go ?_ | refine l_onG ?_ | refine l_offG ?_ | refine d_onG ?_ | refine d_offG ?_ | refine wq_seq ?_ | refine wq_line ?_ | refine wq_draw (by decide +kernel) ?_ | refine wq_block ?_ | refine l_nil ?_ | refine d_nil ?_ | refine wq_skip ?_ | refine wq_ret ?_ | refine wq_exit ?_ | refine th_normal ?_ | refine th_ret ?_ | refine th_exit ?_ | refine bk_normal ?_ | refine bk_ret ?_ | refine bk_exit ?_ | refine bk_other rfl ?_)
                          refine l_callG (may_nil _) ?_
                          repeat (first | refine l_go ?_ | refine d_go ?_ | refine l_onG ?_ | refine l_offG ?_ | refine d_onG ?_ | refine d_offG ?_ | refine wq_seq ?_ | refine wq_line ?_ | refine wq_draw (by decide +kernel) ?_ | refine wq_block ?_ | refine l_nil ?_ | refine d_nil ?_ | refine wq_skip ?_ | refine wq_ret ?_ | refine wq_exit ?_ | refine th_normal ?_ | refine th_ret ?_ | refine th_exit ?_ | refine bk_normal ?_ | refine bk_ret ?_ | refine bk_exit ?_ | refine bk_other rfl ?_)
                          refine end_ret (by simp only [resRf, resRs, resR]; first | done | rfl) ⟨?_, by simp only [List.append_assoc]; exact p _⟩
                          simp [put_app, put_none]
                        · clear hb
                          repeat (first | refine l_go ?_ | refine d_go ?_ | refine l_onG ?_ | refine l_offG ?_ | refine d_onG ?_ | refine d_offG ?_ | refine wq_seq ?_ | refine wq_line ?_ | refine wq_draw (by decide +kernel) ?_ | refine wq_block ?_ | refine l_nil ?_ | refine d_nil ?_ | refine wq_skip ?_ | refine wq_ret ?_ | refine wq_exit ?_ | refine th_normal ?_ | refine th_ret ?_ | refine th_exit ?_ | refine bk_normal ?_ | refine bk_ret ?_ | refine bk_exit ?_ | refine bk_other rfl ?_)
                          refine cond_go (fun hb => ?_) (fun hb => ?_)
                          · clear hb
                            repeat (first | refine l_go ?_ | refine d_go ?_ | refine l_onG ?_ | refine l_offG ?_ | refine d_onG ?_ | refine d_offG ?_ | refine wq_seq ?_ | refine wq_line ?_ | refine wq_draw (by decide +kernel) ?_ | refine wq_block ?_ | refine l_nil ?_ | refine d_nil ?_ | refine wq_skip ?_ | refine wq_ret ?_ | refine wq_exit ?_ | refine th_normal ?_ | refine th_ret ?_ | refine th_exit ?_ | refine bk_normal ?_ | refine bk_ret ?_ | refine bk_exit ?_ | refine bk_other rfl ?_)
                            refine l_heap (h' := K ++ [.row (List.flatMap Ev.cells [⟨0, 1, 0, 0, 0, 0⟩, ⟨0, 0, 0, 0, 0, 0⟩, ⟨1, 0, 1, 1, 0, 0⟩, ⟨2, 0, 0, 0, 16384 + d, 1⟩, ⟨0, 1, 0, 0, 0, 0⟩]) true]) rfl ?_
                            refine l_callG (some_ _) ?_
                            repeat (first | refine l_go ?_ | refine d_go ?_ | refine l_onG ?_ | refine l_offG ?_ | refine d_onG ?_ | refine d_offG ?_ | refine wq_seq ?_ | refine wq_line ?_ | refine wq_draw (by decide +kernel) ?_ | refine wq_block ?_ | refine l_nil ?_ | refine d_nil ?_ | refine wq_skip ?_ | refine wq_ret ?_ | refine wq_exit ?_ | refine th_normal ?_ | refine th_ret ?_ | refine th_exit ?_ | refine bk_normal ?_ | refine bk_ret ?_ | refine bk_exit ?_ | refine bk_other rfl ?_)
                            refine l_callG (may_some _) ?_
                            repeat (first | refine l_go ?_ | refine d_go ?_ | refine l_onG ?_ | refine l_offG ?_ | refine d_onG ?_ | refine d_offG ?_ | refine wq_seq ?_ | refine wq_line ?_ | refine wq_draw (by decide +kernel) ?_ | refine wq_block ?_ | refine l_nil ?_ | refine d_nil ?_ | refine wq_skip ?_ | refine wq_ret ?_ | refine wq_exit ?_ | refine th_normal ?_ | refine th_ret ?_ | refine th_exit ?_ | refine bk_normal ?_ | refine bk_ret ?_ | refine bk_exit ?_ | refine bk_other rfl ?_)
                            refine l_callG (c [⟨0, 1, 0, 0, 0, 0⟩, ⟨0, 0, 0, 0, 0, 0⟩, ⟨1, 0, 1, 1, 0, 0⟩, ⟨2, 0, 0, 0, 16384 + d, 1⟩, ⟨0, 1, 0, 0, 0, 0⟩] rfl 2 (bad11 d hdd)) ?_
                            repeat (first | refine l_go ?_ | refine d_go ?_ | refine l_onG ?_ | refine l_offG ?_ | refine d_onG ?_ | refine d_offG ?_ | refine wq_seq ?_ | refine wq_line ?_ | refine wq_draw (by decide +kernel) ?_ | refine wq_block ?_ | refine l_nil ?_ | refine d_nil ?_ | refine wq_skip ?_ | refine wq_ret ?_ | refine wq_exit ?_ | refine th_normal ?_ | refine th_ret ?_ | refine th_exit ?_ | refine bk_normal ?_ | refine bk_ret ?_ | refine bk_exit ?_ | refine bk_other rfl ?_)
                            refine l_callG (num0 _ 0) ?_
                            repeat (first | refine l_go ?_ | refine d_go ?_ | refine l_onG ?_ | refine l_offG ?_ | refine d_onG ?_ | refine d_offG ?_ | refine wq_seq ?_ | refine wq_line ?_ | refine wq_draw (by decide +kernel) ?_ | refine wq_block ?_ | refine l_nil ?_ | refine d_nil ?_ | refine wq_skip ?_ | refine wq_ret ?_ | refine wq_exit ?_ | refine th_normal ?_ | refine th_ret ?_ | refine th_exit ?_ | refine bk_normal ?_ | refine bk_ret ?_ | refine bk_exit ?_ | refine bk_other rfl ?_)
                            refine l_callG (may_nil _) ?_
                            repeat (first | refine l_go ?_ | refine d_go ?_ | refine l_onG ?_ | refine l_offG ?_ | refine d_onG ?_ | refine d_offG ?_ | refine wq_seq ?_ | refine wq_line ?_ | refine wq_draw (by decide +kernel) ?_ | refine wq_block ?_ | refine l_nil ?_ | refine d_nil ?_ | refine wq_skip ?_ | refine wq_ret ?_ | refine wq_exit ?_ | refine th_normal ?_ | refine th_ret ?_ | refine th_exit ?_ | refine bk_normal ?_ | refine bk_ret ?_ | refine bk_exit ?_ | refine bk_other rfl ?_)
                            refine end_ret (by simp only [resRf, resRs, resR]; first | done | rfl) ⟨?_, by simp only [List.append_assoc]; exact p _⟩
                            simp [put_app, put_none]
                          · clear hb
                            repeat (first | refine l_go ?_ | refine d_go ?_ | refine l_onG ?_ | refine l_offG ?_ | refine d_onG ?_ | refine d_offG ?_ | refine wq_seq ?_ | refine wq_line ?_ | refine wq_draw (by decide +kernel) ?_ | refine wq_block ?_ | refine l_nil ?_ | refine d_nil ?_ | refine wq_skip ?_ | refine wq_ret ?_ | refine wq_exit ?_ | refine th_normal ?_ | refine th_ret ?_ | refine th_exit ?_ | refine bk_normal ?_ | refine bk_ret ?_ | refine bk_exit ?_ | refine bk_other rfl ?_)
                            refine cond_go (fun hb => ?_) (fun hb => ?_)
                            · clear hb
                              repeat (first | refine l_go ?_ | refine d_go ?_ | refine l_onG ?_ | refine l_offG ?_ | refine d_onG ?_ | refine d_offG ?_ | refine wq_seq ?_ | refine wq_line ?_ | refine wq_draw (by decide +kernel) ?_ | refine wq_block ?_ | refine l_nil ?_ | refine d_nil ?_ | refine wq_skip ?_ | refine wq_ret ?_ | refine wq_exit ?_ | refine th_normal ?_ | refine th_ret ?_ | refine th_exit ?_ | refine bk_normal ?_ | refine bk_ret ?_ | refine bk_exit ?_ | refine bk_other rfl ?_)
                              refine l_heap (h' := K ++ [.row (List.flatMap Ev.cells [⟨0, 1, 0, 0, 0, 0⟩, ⟨0, 0, 0, 0, 0, 0⟩, ⟨1, 0, 1, 1, 0, 0⟩, ⟨2, 0, 0, d, 64, 1⟩, ⟨0, 1, 0, 0, 0, 0⟩]) true]) rfl ?_
                              refine l_callG (some_ _) ?_
                              repeat (first | refine l_go ?_ | refine d_go ?_ | refine l_onG ?_ | refine l_offG ?_ | refine d_onG ?_ | refine d_offG ?_ | refine wq_seq ?_ | refine wq_line ?_ | refine wq_draw (by decide +kernel) ?_ | refine wq_block ?_ | refine l_nil ?_ | refine d_nil ?_ | refine wq_skip ?_ | refine wq_ret ?_ | refine wq_exit ?_ | refine th_normal ?_ | refine th_ret ?_ | refine th_exit ?_ | refine bk_normal ?_ | refine bk_ret ?_ | refine bk_exit ?_ | refine bk_other rfl ?_)
                              refine l_callG (may_some _) ?_
                              repeat (first | refine l_go ?_ | refine d_go ?_ | refine l_onG ?_ | refine l_offG ?_ | refine d_onG ?_ | refine d_offG ?_ | refine wq_seq ?_ | refine wq_line ?_ | refine wq_draw (by decide +kernel) ?_ | refine wq_block ?_ | refine l_nil ?_ | refine d_nil ?_ | refine wq_skip ?_ | refine wq_ret ?_ | refine wq_exit ?_ | refine th_normal ?_ | refine th_ret ?_ | refine th_exit ?_ | refine bk_normal ?_ | refine bk_ret ?_ | refine bk_exit ?_ | refine bk_other rfl ?_)
                              refine l_callG (c [⟨0, 1, 0, 0, 0, 0⟩, ⟨0, 0, 0, 0, 0, 0⟩, ⟨1, 0, 1, 1, 0, 0⟩, ⟨2, 0, 0, d, 64, 1⟩, ⟨0, 1, 0, 0, 0, 0⟩] rfl 2 (bad12 d hdd)) ?_
                              repeat (first | refine l_go ?_ | refine d_go ?_ | refine l_onG ?_ | refine l_offG ?_ | refine d_onG ?_ | refine d_offG ?_ | refine wq_seq ?_ | refine wq_line ?_ | refine wq_draw (by decide +kernel) ?_ | refine wq_block ?_ | refine l_nil ?_ | refine d_nil ?_ | refine wq_skip ?_ | refine wq_ret ?_ | refine wq_exit ?_ | refine th_normal ?_ | refine th_ret ?_ | refine th_exit ?_ | refine bk_normal ?_ | refine bk_ret ?_ | refine bk_exit ?_ | refine bk_other rfl ?_)
                              refine l_callG (num0 _ 0) ?_
                              repeat (first | refine l_go ?_ | refine d_go ?_ | refine l_onG ?_ | refine l_offG ?_ | refine d_onG ?_ | refine d_offG ?_ | refine wq_seq ?_ | refine wq_line ?_ | refine wq_draw (by decide +kernel) ?_ | refine wq_block ?_ | refine l_nil ?_ | refine d_nil ?_ | refine wq_skip ?_ | refine wq_ret ?_ | refine wq_exit ?_ | refine th_normal ?_ | refine th_ret ?_ | refine th_exit ?_ | refine bk_normal ?_ | refine bk_ret ?_ | refine bk_exit ?_ | refine bk_other rfl ?_)
                              refine l_callG (may_nil _) ?_
                              repeat (first | refine l_go ?_ | refine d_go ?_ | refine l_onG ?_ | refine l_offG ?_ | refine d_onG ?_ | refine d_offG ?_ | refine wq_seq ?_ | refine wq_line ?_ | refine wq_draw (by decide +kernel) ?_ | refine wq_block ?_ | refine l_nil ?_ | refine d_nil ?_ | refine wq_skip ?_ | refine wq_ret ?_ | refine wq_exit ?_ | refine th_normal ?_ | refine th_ret ?_ | refine th_exit ?_ | refine bk_normal ?_ | refine bk_ret ?_ | refine bk_exit ?_ | refine bk_other rfl ?_)
                              refine end_ret (by simp only [resRf, resRs, resR]; first | done | rfl) ⟨?_, by simp only [List.append_assoc]; exact p _⟩
                              simp [put_app, put_none]
                            · clear hb
                              refine wq_cut (fun ρ => ρ 5 = .int .i64 d ∧ ρ 6 = .slc K.length 0 5 5 true 6 ∧ ρ 7 = .int .i64 2 ∧ ρ 16 = .int .u64 ((IntKind.u64.wrap n).tmod 17)) ⟨h5, h6, h7, h16⟩ ?_
                              clear h5 h6 h7 h16
                              clear ρ
                              rintro ρ ⟨h5, h6, h7, h16⟩
                              repeat (first | refine l_go ?_ | refine d_go ?_ | refine l_onG ?_ | refine l_offG ?_ | refine d_onG ?_ | refine d_offG ?_ | refine wq_seq ?_ | refine wq_line ?_ | refine wq_draw (by decide +kernel) ?_ | refine wq_block ?_ | refine l_nil ?_ | refine d_nil ?_ | refine wq_skip ?_ | refine wq_ret ?_ | refine wq_exit ?_ | refine th_normal ?_ | refine th_ret ?_ | refine th_exit ?_ | refine bk_normal ?_ | refine bk_ret ?_ | refine bk_exit ?_ | refine bk_other rfl ?_)
                              refine cond_go (fun hb => ?_) (fun hb => ?_)
                              · clear hb
                                repeat (first | refine l_go ?_ | refine d_go ?_ | refine l_onG ?_ | refine l_offG ?_ | refine d_onG ?_ | refine d_offG ?_ | refine wq_seq ?_ | refine wq_line ?_ | refine wq_draw (by decide +kernel) ?_ | refine wq_block ?_ | refine l_nil ?_ | refine d_nil ?_ | refine wq_skip ?_ | refine wq_ret ?_ | refine wq_exit ?_ | refine th_normal ?_ | refine th_ret ?_ | refine th_exit ?_ | refine bk_normal ?_ | refine bk_ret ?_ | refine bk_exit ?_ | refine bk_other rfl ?_)
                                refine l_heap (h' := K ++ [.row (List.flatMap Ev.cells [⟨0, 1, 0, 0, 0, 0⟩, ⟨0, 0, 0, 0, 0, 0⟩, ⟨0, 0, 0, 0, 0, 0⟩, ⟨2, 0, 0, 0, 64, 1⟩, ⟨0, 1, 0, 0, 0, 0⟩]) true]) rfl ?_
                                refine l_callG (some_ _) ?_
                                repeat (first | refine l_go ?_ | refine d_go ?_ | refine l_onG ?_ | refine l_offG ?_ | refine d_onG ?_ | refine d_offG ?_ | refine wq_seq ?_ | refine wq_line ?_ | refine wq_draw (by decide +kernel) ?_ | refine wq_block ?_ | refine l_nil ?_ | refine d_nil ?_ | refine wq_skip ?_ | refine wq_ret ?_ | refine wq_exit ?_ | refine th_normal ?_ | refine th_ret ?_ | refine th_exit ?_ | refine bk_normal ?_ | refine bk_ret ?_ | refine bk_exit ?_ | refine bk_other rfl ?_)
                                refine l_callG (may_some _) ?_
                                repeat (first | refine l_go ?_ | refine d_go ?_ | refine l_onG ?_ | refine l_offG ?_ | refine d_onG ?_ | refine d_offG ?_ | refine wq_seq ?_ | refine wq_line ?_ | refine wq_draw (by decide +kernel) ?_ | refine wq_block ?_ | refine l_nil ?_ | refine d_nil ?_ | refine wq_skip ?_ | refine wq_ret ?_ | refine wq_exit ?_ | refine th_normal ?_ | refine th_ret ?_ | refine th_exit ?_ | refine bk_normal ?_ | refine bk_ret ?_ | refine bk_exit ?_ | refine bk_other rfl ?_)
                                refine l_callG (c [⟨0, 1, 0, 0, 0, 0⟩, ⟨0, 0, 0, 0, 0, 0⟩, ⟨0, 0, 0, 0, 0, 0⟩, ⟨2, 0, 0, 0, 64, 1⟩, ⟨0, 1, 0, 0, 0, 0⟩] rfl 2 (bad13 d hdd)) ?_
                                repeat (first | refine l_go ?_ | refine d_go ?_ | refine l_onG ?_ | refine l_offG ?_ | refine d_onG ?_ | refine d_offG ?_ | refine wq_seq ?_ | refine wq_line ?_ | refine wq_draw (by decide +kernel) ?_ | refine wq_block ?_ | refine l_nil ?_ | refine d_nil ?_ | refine wq_skip ?_ | refine wq_ret ?_ | refine wq_exit ?_ | refine th_normal ?_ | refine th_ret ?_ | refine th_exit ?_ | refine bk_normal ?_ | refine bk_ret ?_ | refine bk_exit ?_ | refine bk_other rfl ?_)
                                refine l_callG (num0 _ 0) ?_
                                repeat (first | refine l_go ?_ | refine d_go ?_ | refine l_onG ?_ | refine l_offG ?_ | refine d_onG ?_ | refine d_offG ?_ | refine wq_seq ?_ | refine wq_line ?_ | refine wq_draw (by decide +kernel) ?_ | refine wq_block ?_ | refine l_nil ?_ | refine d_nil ?_ | refine wq_skip ?_ | refine wq_ret ?_ | refine wq_exit ?_ | refine th_normal ?_ | refine th_ret ?_ | refine th_exit ?_ | refine bk_normal ?_ | refine bk_ret ?_ | refine bk_exit ?_ | refine bk_other rfl ?_)
                                refine l_callG (may_nil _) ?_
                                repeat (first | refine l_go ?_ | refine d_go ?_ | refine l_onG ?_ | refine l_offG ?_ | refine d_onG ?_ | refine d_offG ?_ | refine wq_seq ?_ | refine wq_line ?_ | refine wq_draw (by decide +kernel) ?_ | refine wq_block ?_ | refine l_nil ?_ | refine d_nil ?_ | refine wq_skip ?_ | refine wq_ret ?_ | refine wq_exit ?_ | refine th_normal ?_ | refine th_ret ?_ | refine th_exit ?_ | refine bk_normal ?_ | refine bk_ret ?_ | refine bk_exit ?_ | refine bk_other rfl ?_)
                                refine end_ret (by simp only [resRf, resRs, resR]; first | done | rfl) ⟨?_, by simp only [List.append_assoc]; exact p _⟩
                                simp [put_app, put_none]
                              · clear hb
                                repeat (first | refine l_go ?_ | refine d_go ?_ | refine l_onG ?_ | refine l_offG ?_ | refine d_onG ?_ | refine d_offG ?_ | refine wq_seq ?_ | refine wq_line ?_ | refine wq_draw (by decide +kernel) ?_ | refine wq_block ?_ | refine l_nil ?_ | refine d_nil ?_ | refine wq_skip ?_ | refine wq_ret ?_ | refine wq_exit ?_ | refine th_normal ?_ | refine th_ret ?_ | refine th_exit ?_ | refine bk_normal ?_ | refine bk_ret ?_ | refine bk_exit ?_ | refine bk_other rfl ?_)
                                refine cond_go (fun hb => ?_) (fun hb => ?_)
                                · clear hb
                                  repeat (first | refine l_go ?_ | refine d_go ?_ | refine l_onG ?_ | refine l_offG ?_ | refine d_onG ?_ | refine d_offG ?_ | refine wq_seq ?_ | refine wq_line ?_ | refine wq_draw (by decide +kernel) ?_ | refine wq_block ?_ | refine l_nil ?_ | refine d_nil ?_ | refine wq_skip ?_ | refine wq_ret ?_ | refine wq_exit ?_ | refine th_normal ?_ | refine th_ret ?_ | refine th_exit ?_ | refine bk_normal ?_ | refine bk_ret ?_ | refine bk_exit ?_ | refine bk_other rfl ?_)
                                  refine l_heap (h' := K ++ [.row (List.flatMap Ev.cells (someB 1 0)) true]) rfl ?_
                                  refine l_callG (some_ _) ?_
                                  repeat (first | refine l_go ?_ | refine d_go ?_ | refine l_onG ?_ | refine l_offG ?_ | refine d_onG ?_ | refine d_offG ?_ | refine wq_seq ?_ | refine wq_line ?_ | refine wq_draw (by decide +kernel) ?_ | refine wq_block ?_ | refine l_nil ?_ | refine d_nil ?_ | refine wq_skip ?_ | refine wq_ret ?_ | refine wq_exit ?_ | refine th_normal ?_ | refine th_ret ?_ | refine th_exit ?_ | refine bk_normal ?_ | refine bk_ret ?_ | refine bk_exit ?_ | refine bk_other rfl ?_)
                                  refine l_callG (may_some _) ?_
                                  repeat (first | refine l_go ?_ | refine d_go ?_ | refine l_onG ?_ | refine l_offG ?_ | refine d_onG ?_ | refine d_offG ?_ | refine wq_seq ?_ | refine wq_line ?_ | refine wq_draw (by decide +kernel) ?_ | refine wq_block ?_ | refine l_nil ?_ | refine d_nil ?_ | refine wq_skip ?_ | refine wq_ret ?_ | refine wq_exit ?_ | refine th_normal ?_ | refine th_ret ?_ | refine th_exit ?_ | refine bk_normal ?_ | refine bk_ret ?_ | refine bk_exit ?_ | refine bk_other rfl ?_)
                                  refine l_callG (c (someB 1 0) rfl (1 - d) b14) ?_
                                  repeat (first | refine l_go ?_ | refine d_go ?_ | refine l_onG ?_ | refine l_offG ?_ | refine d_onG ?_ | refine d_offG ?_ | refine wq_seq ?_ | refine wq_line ?_ | refine wq_draw (by decide +kernel) ?_ | refine wq_block ?_ | refine l_nil ?_ | refine d_nil ?_ | refine wq_skip ?_ | refine wq_ret ?_ | refine wq_exit ?_ | refine th_normal ?_ | refine th_ret ?_ | refine th_exit ?_ | refine bk_normal ?_ | refine bk_ret ?_ | refine bk_exit ?_ | refine bk_other rfl ?_)
                                  refine l_callG (num0 _ 0) ?_
                                  repeat (first | refine l_go ?_ | refine d_go ?_ | refine l_onG ?_ | refine l_offG ?_ | refine d_onG ?_ | refine d_offG ?_ | refine wq_seq ?_ | refine wq_line ?_ | refine wq_draw (by decide +kernel) ?_ | refine wq_block ?_ | refine l_nil ?_ | refine d_nil ?_ | refine wq_skip ?_ | refine wq_ret ?_ | refine wq_exit ?_ | refine th_normal ?_ | refine th_ret ?_ | refine th_exit ?_ | refine bk_normal ?_ | refine bk_ret ?_ | refine bk_exit ?_ | refine bk_other rfl ?_)
                                  refine l_callG (may_nil _) ?_
                                  repeat (first | refine l_go ?_ | refine d_go ?_ | refine l_onG ?_ | refine l_offG ?_ | refine d_onG ?_ | refine d_offG ?_ | refine wq_seq ?_ | refine wq_line ?_ | refine wq_draw (by decide +kernel) ?_ | refine wq_block ?_ | refine l_nil ?_ | refine d_nil ?_ | refine wq_skip ?_ | refine wq_ret ?_ | refine wq_exit ?_ | refine th_normal ?_ | refine th_ret ?_ | refine th_exit ?_ | refine bk_normal ?_ | refine bk_ret ?_ | refine bk_exit ?_ | refine bk_other rfl ?_)
                                  refine end_ret (by simp only [resRf, resRs, resR]; first | done | rfl) ⟨?_, by simp only [List.append_assoc]; exact p _⟩
                                  simp [put_app, put_none]
                                · clear hb
                                  repeat (first | refine l_go ?_ | refine d_go ?_ | refine l_onG ?_ | refine l_offG ?_ | refine d_onG ?_ | refine d_offG ?_ | refine wq_seq ?_ | refine wq_line ?_ | refine wq_draw (by decide +kernel) ?_ | refine wq_block ?_ | refine l_nil ?_ | refine d_nil ?_ | refine wq_skip ?_ | refine wq_ret ?_ | refine wq_exit ?_ | refine th_normal ?_ | refine th_ret ?_ | refine th_exit ?_ | refine bk_normal ?_ | refine bk_ret ?_ | refine bk_exit ?_ | refine bk_other rfl ?_)
                                  refine cond_go (fun hb => ?_) (fun hb => ?_)
                                  · clear hb
                                    repeat (first | refine l_go ?_ | refine d_go ?_ | refine l_onG ?_ | refine l_offG ?_ | refine d_onG ?_ | refine d_offG ?_ | refine wq_seq ?_ | refine wq_line ?_ | refine wq_draw (by decide +kernel) ?_ | refine wq_block ?_ | refine l_nil ?_ | refine d_nil ?_ | refine wq_skip ?_ | refine wq_ret ?_ | refine wq_exit ?_ | refine th_normal ?_ | refine th_ret ?_ | refine th_exit ?_ | refine bk_normal ?_ | refine bk_ret ?_ | refine bk_exit ?_ | refine bk_other rfl ?_)
                                    refine l_heap (h' := K ++ [.row (List.flatMap Ev.cells (someB 1 0)) true]) rfl ?_
                                    refine l_callG (some_ _) ?_
                                    repeat (first | refine l_go ?_ | refine d_go ?_ | refine l_onG ?_ | refine l_offG ?_ | refine d_onG ?_ | refine d_offG ?_ | refine wq_seq ?_ | refine wq_line ?_ | refine wq_draw (by decide +kernel) ?_ | refine wq_block ?_ | refine l_nil ?_ | refine d_nil ?_ | refine wq_skip ?_ | refine wq_ret ?_ | refine wq_exit ?_ | refine th_normal ?_ | refine th_ret ?_ | refine th_exit ?_ | refine bk_normal ?_ | refine bk_ret ?_ | refine bk_exit ?_ | refine bk_other rfl ?_)
                                    refine l_callG (may_some _) ?_
                                    repeat (first | refine l_go ?_ | refine d_go ?_ | refine l_onG ?_ | refine l_offG ?_ | refine d_onG ?_ | refine d_offG ?_ | refine wq_seq ?_ | refine wq_line ?_ | refine wq_draw (by decide +kernel) ?_ | refine wq_block ?_ | refine l_nil ?_ | refine d_nil ?_ | refine wq_skip ?_ | refine wq_ret ?_ | refine wq_exit ?_ | refine th_normal ?_ | refine th_ret ?_ | refine th_exit ?_ | refine bk_normal ?_ | refine bk_ret ?_ | refine bk_exit ?_ | refine bk_other rfl ?_)
                                    refine l_callG (c (someB 1 0) rfl (8 + d) b15) ?_
                                    repeat (first | refine l_go ?_ | refine d_go ?_ | refine l_onG ?_ | refine l_offG ?_ | refine d_onG ?_ | refine d_offG ?_ | refine wq_seq ?_ | refine wq_line ?_ | refine wq_draw (by decide +kernel) ?_ | refine wq_block ?_ | refine l_nil ?_ | refine d_nil ?_ | refine wq_skip ?_ | refine wq_ret ?_ | refine wq_exit ?_ | refine th_normal ?_ | refine th_ret ?_ | refine th_exit ?_ | refine bk_normal ?_ | refine bk_ret ?_ | refine bk_exit ?_ | refine bk_other rfl ?_)
                                    refine l_callG (num0 _ 0) ?_
                                    repeat (first | refine l_go ?_ | refine d_go ?_ | refine l_onG ?_ | refine l_offG ?_ | refine d_onG ?_ | refine d_offG ?_ | refine wq_seq ?_ | refine wq_line ?_ | refine wq_draw (by decide +kernel) ?_ | refine wq_block ?_ | refine l_nil ?_ | refine d_nil ?_ | refine wq_skip ?_ | refine wq_ret ?_ | refine wq_exit ?_ | refine th_normal ?_ | refine th_ret ?_ | refine th_exit ?_ | refine bk_normal ?_ | refine bk_ret ?_ | refine bk_exit ?_ | refine bk_other rfl ?_)
                                    refine l_callG (may_nil _) ?_
                                    repeat (first | refine l_go ?_ | refine d_go ?_ | refine l_onG ?_ | refine l_offG ?_ | refine d_onG ?_ | refine d_offG ?_ | refine wq_seq ?_ | refine wq_line ?_ | refine wq_draw (by decide +kernel) ?_ | refine wq_block ?_ | refine l_nil ?_ | refine d_nil ?_ | refine wq_skip ?_ | refine wq_ret ?_ | refine wq_exit ?_ | refine th_normal ?_ | refine th_ret ?_ | refine th_exit ?_ | refine bk_normal ?_ | refine bk_ret ?_ | refine bk_exit ?_ | refine bk_other rfl ?_)
                                    refine end_ret (by simp only [resRf, resRs, resR]; first | done | rfl) ⟨?_, by simp only [List.append_assoc]; exact p _⟩
                                    simp [put_app, put_none]
                                  · clear hb
                                    repeat (first | refine l_go ?_ | refine d_go ?_ | refine l_onG ?_ | refine l_offG ?_ | refine d_onG ?_ | refine d_offG ?_ | refine wq_seq ?_ | refine wq_line ?_ | refine wq_draw (by decide +kernel) ?_ | refine wq_block ?_ | refine l_nil ?_ | refine d_nil ?_ | refine wq_skip ?_ | refine wq_ret ?_ | refine wq_exit ?_ | refine th_normal ?_ | refine th_ret ?_ | refine th_exit ?_ | refine bk_normal ?_ | refine bk_ret ?_ | refine bk_exit ?_ | refine bk_other rfl ?_)
                                    rw [hj] at w6
                                    refine l_makeG T22 rfl T34 ?_
                                    repeat (first | refine l_go ?_ | refine d_go ?_ | refine l_onG ?_ | refine l_offG ?_ | refine d_onG ?_ | refine d_offG ?_ | refine wq_seq ?_ | refine wq_line ?_ | refine wq_draw (by decide +kernel) ?_ | refine wq_block ?_ | refine l_nil ?_ | refine d_nil ?_ | refine wq_skip ?_ | refine wq_ret ?_ | refine wq_exit ?_ | refine th_normal ?_ | refine th_ret ?_ | refine th_exit ?_ | refine bk_normal ?_ | refine bk_ret ?_ | refine bk_exit ?_ | refine bk_other rfl ?_)
                                    refine l_heap (h' := K ++ [.row (someC 1 0) true] ++ [.row (zeros (List.replicate 6 (.int .i64 0)) j) true]) rfl ?_
                                    refine l_callG (some_ _) ?_
                                    repeat (first | refine l_go ?_ | refine d_go ?_ | refine l_onG ?_ | refine l_offG ?_ | refine d_onG ?_ | refine d_offG ?_ | refine wq_seq ?_ | refine wq_line ?_ | refine wq_draw (by decide +kernel) ?_ | refine wq_block ?_ | refine l_nil ?_ | refine d_nil ?_ | refine wq_skip ?_ | refine wq_ret ?_ | refine wq_exit ?_ | refine th_normal ?_ | refine th_ret ?_ | refine th_exit ?_ | refine bk_normal ?_ | refine bk_ret ?_ | refine bk_exit ?_ | refine bk_other rfl ?_)
                                    refine l_callG (may_some _) ?_
                                    repeat (first | refine l_go ?_ | refine d_go ?_ | refine l_onG ?_ | refine l_offG ?_ | refine d_onG ?_ | refine d_offG ?_ | refine wq_seq ?_ | refine wq_line ?_ | refine wq_draw (by decide +kernel) ?_ | refine wq_block ?_ | refine l_nil ?_ | refine d_nil ?_ | refine wq_skip ?_ | refine wq_ret ?_ | refine wq_exit ?_ | refine th_normal ?_ | refine th_ret ?_ | refine th_exit ?_ | refine bk_normal ?_ | refine bk_ret ?_ | refine bk_exit ?_ | refine bk_other rfl ?_)
                                    refine l_callG c16 ?_
                                    repeat (first | refine l_go ?_ | refine d_go ?_ | refine l_onG ?_ | refine l_offG ?_ | refine d_onG ?_ | refine d_offG ?_ | refine wq_seq ?_ | refine wq_line ?_ | refine wq_draw (by decide +kernel) ?_ | refine wq_block ?_ | refine l_nil ?_ | refine d_nil ?_ | refine wq_skip ?_ | refine wq_ret ?_ | refine wq_exit ?_ | refine th_normal ?_ | refine th_ret ?_ | refine th_exit ?_ | refine bk_normal ?_ | refine bk_ret ?_ | refine bk_exit ?_ | refine bk_other rfl ?_)
                                    refine l_callG (num0 _ 0) ?_
                                    repeat (first | refine l_go ?_ | refine d_go ?_ | refine l_onG ?_ | refine l_offG ?_ | refine d_onG ?_ | refine d_offG ?_ | refine wq_seq ?_ | refine wq_line ?_ | refine wq_draw (by decide +kernel) ?_ | refine wq_block ?_ | refine l_nil ?_ | refine d_nil ?_ | refine wq_skip ?_ | refine wq_ret ?_ | refine wq_exit ?_ | refine th_normal ?_ | refine th_ret ?_ | refine th_exit ?_ | refine bk_normal ?_ | refine bk_ret ?_ | refine bk_exit ?_ | refine bk_other rfl ?_)
                                    refine l_callG (may_nil _) ?_
                                    repeat (first | refine l_go ?_ | refine d_go ?_ | refine l_onG ?_ | refine l_offG ?_ | refine d_onG ?_ | refine d_offG ?_ | refine wq_seq ?_ | refine wq_line ?_ | refine wq_draw (by decide +kernel) ?_ | refine wq_block ?_ | refine l_nil ?_ | refine d_nil ?_ | refine wq_skip ?_ | refine wq_ret ?_ | refine wq_exit ?_ | refine th_normal ?_ | refine th_ret ?_ | refine th_exit ?_ | refine bk_normal ?_ | refine bk_ret ?_ | refine bk_exit ?_ | refine bk_other rfl ?_)
                                    refine end_ret (by simp only [resRf, resRs, resR]; first | done | rfl) ⟨?_, by simp only [List.append_assoc]; exact p _⟩
                                    simp [put_app, put_none]
end Go.Proofs.Ytibpfgamiilpkaa.VM
