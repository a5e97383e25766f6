/- Chapter 18: the program's tally. -/
import Derived.Test.YtibpfgamiilpkaaLinB
namespace Go.Proofs.Ytibpfgamiilpkaa.VM
open Go
set_option linter.unusedVariables false
set_option linter.unusedSimpArgs false
attribute [local irreducible] wq wqL wqD wqE wqO Th Bk EndR
set_option maxHeartbeats 8000000

theorem inside (H : Heap) (b : Nat) (n x : Int) (hb : H.loadN b 0 1 = some [.int .i64 n]) : Call Try.prog 24 [.int .i64 x, .ptr b 0] H (.bool (decide (x ≥ 0) && decide (x < n))) H := by
  refine call_plain fit mixed Try.func24 rfl rfl rfl (by kernel_rfl) rfl ?_
  have hl : loadV T 3 H b 0 = some (.int .i64 n) := loadV_one T3 rfl hb
  repeat' (first | refine l_go ?_ | refine d_go ?_ | refine l_onG ?_ | refine l_offG ?_ | refine d_onG ?_ | refine d_offG ?_ | refine wq_seq ?_ | refine wq_line ?_ | refine wq_draw (by decide +kernel) ?_ | refine wq_block ?_ | refine l_nil ?_ | refine d_nil ?_ | refine wq_skip ?_ | refine wq_ret ?_ | refine wq_exit ?_ | refine th_normal ?_ | refine th_ret ?_ | refine th_exit ?_ | refine bk_normal ?_ | refine bk_ret ?_ | refine bk_exit ?_ | refine bk_other rfl ?_ | first | refine l_partG (fun hb => ?_) (fun hb => ?_) | refine d_partG (fun hb => ?_) (fun hb => ?_))
  all_goals refine end_ret (by simp only [resRf, resRs, resR]; first | done | rfl) ⟨?_, by first | exact List.prefix_refl _ | exact List.prefix_append _ _ | assumption | (refine List.IsPrefix.trans (by assumption) (List.prefix_append _ _)) | (simp only [List.append_assoc, List.cons_append, List.nil_append, List.set_cons_zero, List.set_cons_succ]; exact ⟨_, by simp only [List.append_assoc, List.cons_append, List.nil_append]; rfl⟩)⟩; simp [put_app, put_none, *]
  all_goals simp_all
  all_goals (first | done | omega)
def lastKind (es : List Ev) (m : Int) : Int :=
  match es.reverse.find? fun e => e.member == m with
  | some e => e.kind
  | none => 0

theorem lastKind_snoc (es : List Ev) (e : Ev) (m : Int) : lastKind (es ++ [e]) m = if e.member = m then e.kind else lastKind es m := by
  unfold lastKind
  simp only [List.reverse_append, List.reverse_cons, List.reverse_nil, List.nil_append, List.cons_append, List.find?_cons]
  by_cases h : e.member = m
  · simp [h]
  · rw [if_neg h]
    have : (e.member == m) = false := by simpa using h
    rw [this]
theorem manyOf_snoc (es : List Ev) (e : Ev) (m : Int) : manyOf (es ++ [e]) m = manyOf es m + if e.member = m then 1 else 0 := by
  unfold manyOf
  rw [List.filter_append, List.length_append]
  by_cases h : e.member = m <;> simp [h]
theorem explored_last (es : List Ev) (m : Int) : explored es m = (decide ((manyOf es m : Int) > 0) && lastKind es m == 1) := by
  unfold explored lastKind manyOf
  cases h : es.reverse.find? fun e => e.member == m with
  | none => simp
  | some e =>
    have h1 := List.find?_some h
    have h2 := List.mem_of_find?_eq_some h
    have : 0 < (es.filter fun e => e.member == m).length := by
      apply List.length_pos_iff_exists_mem.2
      exact ⟨e, by simp [List.mem_filter]; exact ⟨by simpa using h2, by simpa using h1⟩⟩
    simp only [this, decide_true, Bool.true_and, Int.natCast_pos, gt_iff_lt]

/-- the tally's cells behind es -/
def TallyC (cs : List V) (es : List Ev) : Prop := cs.length = 16 ∧ ∀ m : Nat, m < 8 → cs[m]? = some (.int .i64 (manyOf es (m : Int))) ∧ cs[8 + m]? = some (.int .i64 (lastKind es (m : Int)))

theorem take_ (H : Heap) (cs : List V) (es : List Ev) (e : Ev) (q : Nat) (b o : Nat) (hq : q < 8) (hm : e.member = (q : Int)) (ht : TallyC cs es) (hl : es.length ≤ 2 ^ 47) (he : ∀ l, (H ++ l).loadN b o 1 = some [.int .i64 e.kind]) (he1 : ∀ l, (H ++ l).loadN b (o + 1) 1 = some [.int .i64 e.member]) :
    ∃ cs', TallyC cs' (es ++ [e]) ∧ Call Try.prog 19 [.ptr H.length 0, .ptr b o] (H ++ [.row cs true]) (.tup []) (H ++ [.row cs' true]) := by
  obtain ⟨h1, h2⟩ := ht
  obtain ⟨c1, c2⟩ := h2 q hq
  have hle := manyOf_le es (q : Int)
  have hw := wrap_succ (n := manyOf es (q : Int)) (by omega)
  have x1 : ∀ l, loadV T 3 (H ++ l) b o = some (.int .i64 e.kind) := fun l => loadV_one T3 rfl (he l)
  have x2 : ∀ l, loadV T 3 (H ++ l) b (o + 1) = some (.int .i64 (q : Int)) := fun l => by rw [← hm]; exact loadV_one T3 rfl (he1 l)
  have i1 := arr_idx (b := H.length) (off := 0) T40 rfl T3 rfl hq
  have i2 := arr_idx (b := H.length) (off := 8) T40 rfl T3 rfl hq
  rw [Nat.zero_add] at i1
  have l1 := row_load (H := H) (w := true) T3 rfl c1
  have s1 := row_store (H := H) (v := .int .i64 ((manyOf es (q : Int) : Int) + 1)) (q := q) (cs := cs) T3 rfl rfl rfl (by omega)
  have s2 := row_store (H := H) (v := .int .i64 e.kind) (q := 8 + q) (cs := cs.set q (.int .i64 ((manyOf es (q : Int) : Int) + 1))) T3 rfl rfl rfl (by simp; omega)
  refine ⟨(cs.set q (.int .i64 ((manyOf es (q : Int) : Int) + 1))).set (8 + q) (.int .i64 e.kind), ⟨by simp [h1], fun m hm' => ?_⟩, ?_⟩
  · obtain ⟨d1, d2⟩ := h2 m hm'
    rw [manyOf_snoc, lastKind_snoc, hm]
    by_cases hmq : q = m
    · subst hmq
      simp [List.getElem?_set, h1]
      omega
    · have : ¬ (q : Int) = (m : Int) := by omega
      simp [List.getElem?_set, h1, this, hmq]
      rw [if_neg (by omega), if_neg (by omega), d1, d2]
      exact ⟨rfl, rfl⟩
  · obtain ⟨v', H', ⟨rfl, rfl⟩, hc⟩ := call_wq (R := fun v h => v = .tup [] ∧ h = H ++ [.row ((cs.set q (.int .i64 ((manyOf es (q : Int) : Int) + 1))).set (8 + q) (.int .i64 e.kind)) true]) (args := [.ptr H.length 0, .ptr b o]) (H := H ++ [.row cs true]) fit mixed Try.func19 rfl rfl rfl (by kernel_rfl) (by
      repeat (first | refine l_go ?_ | refine d_go ?_ | refine l_onG ?_ | refine l_offG ?_ | refine d_onG ?_ | refine d_offG ?_ | refine wq_seq ?_ | refine wq_line ?_ | refine wq_draw (by decide +kernel) ?_ | refine wq_block ?_ | refine l_nil ?_ | refine d_nil ?_ | refine wq_skip ?_ | refine wq_ret ?_ | refine wq_exit ?_ | refine th_normal ?_ | refine th_ret ?_ | refine th_exit ?_ | refine bk_normal ?_ | refine bk_ret ?_ | refine bk_exit ?_ | refine bk_other rfl ?_)
      refine end_normal (by simp only [resRf, resRs, resR]; first | done | rfl) ⟨rfl, rfl⟩)
    exact hc
theorem within_lt (x n : Int) : within x 0 (n - 1) = (decide (x ≥ 0) && decide (x < n)) := by
  unfold within
  congr 1
  apply decide_eq_decide.2
  omega

theorem mayT (H : Heap) (cs : List V) (es : List Ev) (e : Ev) (n : Int) (b o : Nat) (hn : 1 ≤ n ∧ n ≤ 8) (ht : TallyC cs es) (hl : es.length ≤ 2 ^ 47)
    (he : ∀ l, (H ++ l).loadN b o 6 = some e.cells) (hf : ∀ l (j : Nat) c, e.cells[j]? = some c → (H ++ l).loadN b (o + j) 1 = some [c]) :
    Call Try.prog 18 [.ptr H.length 0, .ptr b o, .int .i64 n] (H ++ [.row cs true]) (.bool (evMay es n e)) (H ++ [.row cs true]) := by
  obtain ⟨h1, h2⟩ := ht
  have x0 : ∀ l, loadV T 3 (H ++ l) b o = some (.int .i64 e.kind) := fun l => loadV_one T3 rfl (hf l 0 _ rfl)
  have x1 : ∀ l, loadV T 3 (H ++ l) b (o + 1) = some (.int .i64 e.member) := fun l => loadV_one T3 rfl (hf l 1 _ rfl)
  have x2 : ∀ l, loadV T 3 (H ++ l) b (o + 2) = some (.int .i64 e.donor) := fun l => loadV_one T3 rfl (hf l 2 _ rfl)
  have x3 : ∀ l, loadV T 3 (H ++ l) b (o + 3) = some (.int .i64 e.at_) := fun l => loadV_one T3 rfl (hf l 3 _ rfl)
  have x5 : ∀ l, loadV T 34 (H ++ l) b o = some (.agg [.int .i64 e.kind, .int .i64 e.member, .int .i64 e.donor, .int .i64 e.at_, .int .i64 e.rate, .int .i64 e.mom]) := fun l => loadV_agg T34 rfl (he l)
  refine call_plain fit mixed Try.func18 rfl rfl rfl (by kernel_rfl) rfl ?_
  have hwl : within e.member 0 (n - 1) = (decide (e.member ≥ 0) && decide (e.member < n)) := within_lt ..
  repeat' (first | refine l_go ?_ | refine d_go ?_ | refine l_onG ?_ | refine l_offG ?_ | refine d_onG ?_ | refine d_offG ?_ | refine wq_seq ?_ | refine wq_line ?_ | refine wq_draw (by decide +kernel) ?_ | refine wq_block ?_ | refine l_nil ?_ | refine d_nil ?_ | refine wq_skip ?_ | refine wq_ret ?_ | refine wq_exit ?_ | refine th_normal ?_ | refine th_ret ?_ | refine th_exit ?_ | refine bk_normal ?_ | refine bk_ret ?_ | refine bk_exit ?_ | refine bk_other rfl ?_ | refine l_call (by exact (by simp only [callsWhom, beq_self_eq_true, ev_tmp, ev_const, ev_func, V.of, V.ofs, put_app, put_none, rho0_app, reduceIte, Nat.reduceEqDiff, reduceCtorEq, List.getD_cons_zero, List.getD_cons_succ, evs, optEv, evParts, Option.map_some, List.cons_append, List.nil_append, List.append_nil, List.append_assoc, Nat.zero_add, Nat.add_zero, *]; first | done | rfl)) (inside _ _ n _ (by first | (simp only [loadN_app, loadN_app0]; first | done | rfl) | (simp only [List.append_assoc, List.cons_append, List.nil_append, List.length_append, List.length_cons, List.length_nil, Nat.zero_add, Nat.add_zero, Nat.reduceAdd, List.set_cons_zero, List.set_cons_succ, loadN_app, loadN_app0]; first | done | rfl))) ?_)
  refine cond_go (fun hb => ?_) (fun hb => ?_)
  · repeat' (first | refine l_go ?_ | refine d_go ?_ | refine l_onG ?_ | refine l_offG ?_ | refine d_onG ?_ | refine d_offG ?_ | refine wq_seq ?_ | refine wq_line ?_ | refine wq_draw (by decide +kernel) ?_ | refine wq_block ?_ | refine l_nil ?_ | refine d_nil ?_ | refine wq_skip ?_ | refine wq_ret ?_ | refine wq_exit ?_ | refine th_normal ?_ | refine th_ret ?_ | refine th_exit ?_ | refine bk_normal ?_ | refine bk_ret ?_ | refine bk_exit ?_ | refine bk_other rfl ?_)
    refine end_ret (by simp only [resRf, resRs, resR]; first | done | rfl) ⟨?_, by first | exact List.prefix_refl _ | exact List.prefix_append _ _ | assumption | (refine List.IsPrefix.trans (by assumption) (List.prefix_append _ _)) | (simp only [List.append_assoc, List.cons_append, List.nil_append, List.set_cons_zero, List.set_cons_succ]; exact ⟨_, by simp only [List.append_assoc, List.cons_append, List.nil_append]; rfl⟩)⟩; simp [put_app, put_none, *]
    have : within e.member 0 (n - 1) = false := by rw [hwl]; cases h : (decide (e.member ≥ 0) && decide (e.member < n)) <;> simp_all
    simp [evMay, this]
  · have hin : within e.member 0 (n - 1) = true := by rw [hwl]; simpa using hb
    have hm : 0 ≤ e.member ∧ e.member < n := by simpa [within_lt] using hin
    clear hwl hb
    repeat' (first | refine l_go ?_ | refine d_go ?_ | refine l_onG ?_ | refine l_offG ?_ | refine d_onG ?_ | refine d_offG ?_ | refine wq_seq ?_ | refine wq_line ?_ | refine wq_draw (by decide +kernel) ?_ | refine wq_block ?_ | refine l_nil ?_ | refine d_nil ?_ | refine wq_skip ?_ | refine wq_ret ?_ | refine wq_exit ?_ | refine th_normal ?_ | refine th_ret ?_ | refine th_exit ?_ | refine bk_normal ?_ | refine bk_ret ?_ | refine bk_exit ?_ | refine bk_other rfl ?_)
    refine cond_go (fun hc => ?_) (fun hc => ?_)
    · simp at hc
      repeat' (first | refine l_go ?_ | refine d_go ?_ | refine l_onG ?_ | refine l_offG ?_ | refine d_onG ?_ | refine d_offG ?_ | refine wq_seq ?_ | refine wq_line ?_ | refine wq_draw (by decide +kernel) ?_ | refine wq_block ?_ | refine l_nil ?_ | refine d_nil ?_ | refine wq_skip ?_ | refine wq_ret ?_ | refine wq_exit ?_ | refine th_normal ?_ | refine th_ret ?_ | refine th_exit ?_ | refine bk_normal ?_ | refine bk_ret ?_ | refine bk_exit ?_ | refine bk_other rfl ?_)
      refine end_ret (by simp only [resRf, resRs, resR]; first | done | rfl) ⟨?_, by first | exact List.prefix_refl _ | exact List.prefix_append _ _ | assumption | (refine List.IsPrefix.trans (by assumption) (List.prefix_append _ _)) | (simp only [List.append_assoc, List.cons_append, List.nil_append, List.set_cons_zero, List.set_cons_succ]; exact ⟨_, by simp only [List.append_assoc, List.cons_append, List.nil_append]; rfl⟩)⟩; simp [put_app, put_none, *]
      rw [evMay_0 hc, hin]
      simp [Bool.and_assoc]
    · simp at hc
      repeat' (first | refine l_go ?_ | refine d_go ?_ | refine l_onG ?_ | refine l_offG ?_ | refine d_onG ?_ | refine d_offG ?_ | refine wq_seq ?_ | refine wq_line ?_ | refine wq_draw (by decide +kernel) ?_ | refine wq_block ?_ | refine l_nil ?_ | refine d_nil ?_ | refine wq_skip ?_ | refine wq_ret ?_ | refine wq_exit ?_ | refine th_normal ?_ | refine th_ret ?_ | refine th_exit ?_ | refine bk_normal ?_ | refine bk_ret ?_ | refine bk_exit ?_ | refine bk_other rfl ?_)
      refine cond_go (fun hc1 => ?_) (fun hc1 => ?_)
      · simp at hc1
        repeat' (first | refine l_go ?_ | refine d_go ?_ | refine l_onG ?_ | refine l_offG ?_ | refine d_onG ?_ | refine d_offG ?_ | refine wq_seq ?_ | refine wq_line ?_ | refine wq_draw (by decide +kernel) ?_ | refine wq_block ?_ | refine l_nil ?_ | refine d_nil ?_ | refine wq_skip ?_ | refine wq_ret ?_ | refine wq_exit ?_ | refine th_normal ?_ | refine th_ret ?_ | refine th_exit ?_ | refine bk_normal ?_ | refine bk_ret ?_ | refine bk_exit ?_ | refine bk_other rfl ?_)
        refine wq_late ?_
        repeat (first | refine e_go ?_ | refine e_goL ?_ | refine e_goS ?_ | refine e_nil ?_)
        have hd : (∃ d, idxV T 40 (.ptr H.length 0) e.donor = some (.ptr H.length d) ∧ ∀ l, loadV T 3 (H ++ (.row cs true :: l)) H.length d = some (.int .i64 (manyOf es e.donor))) ∨ ¬ (0 ≤ e.donor ∧ e.donor < n) := by
          by_cases hd : 0 ≤ e.donor ∧ e.donor < n
          · obtain ⟨d, hde⟩ : ∃ d : Nat, e.donor = (d : Int) := ⟨e.donor.toNat, by omega⟩
            have hd8 : d < 8 := by omega
            have i1 := arr_idx (b := H.length) (off := 0) T40 rfl T3 rfl hd8
            rw [Nat.zero_add] at i1
            exact .inl ⟨d, by rw [hde]; exact i1, fun l => by rw [hde]; exact row_load T3 rfl (h2 d hd8).1 l⟩
          · exact .inr hd
        have hev := evMay_1 (es := es) (n := n) hc1
        rw [hin, within_lt] at hev
        rcases hd with ⟨d, i1, l1⟩ | hd
        · repeat' (first | refine l_go ?_ | refine d_go ?_ | refine l_onG ?_ | refine l_offG ?_ | refine d_onG ?_ | refine d_offG ?_ | refine wq_seq ?_ | refine wq_line ?_ | refine wq_draw (by decide +kernel) ?_ | refine wq_block ?_ | refine l_nil ?_ | refine d_nil ?_ | refine wq_skip ?_ | refine wq_ret ?_ | refine wq_exit ?_ | refine th_normal ?_ | refine th_ret ?_ | refine th_exit ?_ | refine bk_normal ?_ | refine bk_ret ?_ | refine bk_exit ?_ | refine bk_other rfl ?_ | refine d_call0 (by exact (by simp only [callsWhom, beq_self_eq_true, ev_tmp, ev_const, ev_func, V.of, V.ofs, put_app, put_none, rho0_app, reduceIte, Nat.reduceEqDiff, reduceCtorEq, List.getD_cons_zero, List.getD_cons_succ, evs, optEv, evParts, Option.map_some, List.cons_append, List.nil_append, List.append_nil, List.append_assoc, Nat.zero_add, Nat.add_zero, *]; first | done | rfl)) (inside _ _ n _ (by first | (simp only [loadN_app, loadN_app0]; first | done | rfl) | (simp only [List.append_assoc, List.cons_append, List.nil_append, List.length_append, List.length_cons, List.length_nil, Nat.zero_add, Nat.add_zero, Nat.reduceAdd, List.set_cons_zero, List.set_cons_succ, loadN_app, loadN_app0]; first | done | rfl))) ?_ | first | refine l_partG (fun hb => ?_) (fun hb => ?_) | refine d_partG (fun hb => ?_) (fun hb => ?_))
          all_goals refine end_ret (by simp only [resRf, resRs, resR]; first | done | rfl) ⟨?_, by first | exact List.prefix_refl _ | exact List.prefix_append _ _ | assumption | (refine List.IsPrefix.trans (by assumption) (List.prefix_append _ _)) | (simp only [List.append_assoc, List.cons_append, List.nil_append, List.set_cons_zero, List.set_cons_succ]; exact ⟨_, by simp only [List.append_assoc, List.cons_append, List.nil_append]; rfl⟩)⟩
          all_goals (rw [hev]; clear he hf h2 x0 x1 x2 x3 x5; first | (simp [put_app, put_none, *]; done) | (simp_all [put_app, put_none]; done))
        · have hd' : (decide (e.donor ≥ 0) && decide (e.donor < n)) = false := by
            cases h : (decide (e.donor ≥ 0) && decide (e.donor < n)) with
            | false => rfl
            | true =>
              exfalso
              simp at h
              exact hd ⟨by omega, by omega⟩
          clear hd
          rw [hd'] at hev
          repeat' (first | refine l_go ?_ | refine d_go ?_ | refine l_onG ?_ | refine l_offG ?_ | refine d_onG ?_ | refine d_offG ?_ | refine wq_seq ?_ | refine wq_line ?_ | refine wq_draw (by decide +kernel) ?_ | refine wq_block ?_ | refine l_nil ?_ | refine d_nil ?_ | refine wq_skip ?_ | refine wq_ret ?_ | refine wq_exit ?_ | refine th_normal ?_ | refine th_ret ?_ | refine th_exit ?_ | refine bk_normal ?_ | refine bk_ret ?_ | refine bk_exit ?_ | refine bk_other rfl ?_ | refine d_call0 (by exact (by simp only [callsWhom, beq_self_eq_true, ev_tmp, ev_const, ev_func, V.of, V.ofs, put_app, put_none, rho0_app, reduceIte, Nat.reduceEqDiff, reduceCtorEq, List.getD_cons_zero, List.getD_cons_succ, evs, optEv, evParts, Option.map_some, List.cons_append, List.nil_append, List.append_nil, List.append_assoc, Nat.zero_add, Nat.add_zero, *]; first | done | rfl)) (inside _ _ n _ (by first | (simp only [loadN_app, loadN_app0]; first | done | rfl) | (simp only [List.append_assoc, List.cons_append, List.nil_append, List.length_append, List.length_cons, List.length_nil, Nat.zero_add, Nat.add_zero, Nat.reduceAdd, List.set_cons_zero, List.set_cons_succ, loadN_app, loadN_app0]; first | done | rfl))) ?_ | first | refine l_partG (fun hb => ?_) (fun hb => ?_) | refine d_partG (fun hb => ?_) (fun hb => ?_))
          all_goals refine end_ret (by simp only [resRf, resRs, resR]; first | done | rfl) ⟨?_, by first | exact List.prefix_refl _ | exact List.prefix_append _ _ | assumption | (refine List.IsPrefix.trans (by assumption) (List.prefix_append _ _)) | (simp only [List.append_assoc, List.cons_append, List.nil_append, List.set_cons_zero, List.set_cons_succ]; exact ⟨_, by simp only [List.append_assoc, List.cons_append, List.nil_append]; rfl⟩)⟩
          all_goals (rw [hev]; clear he hf h2 x0 x1 x2 x3 x5; first | (simp [put_app, put_none, *]; done) | (simp_all [put_app, put_none]; done))
      · simp at hc1
        repeat' (first | refine l_go ?_ | refine d_go ?_ | refine l_onG ?_ | refine l_offG ?_ | refine d_onG ?_ | refine d_offG ?_ | refine wq_seq ?_ | refine wq_line ?_ | refine wq_draw (by decide +kernel) ?_ | refine wq_block ?_ | refine l_nil ?_ | refine d_nil ?_ | refine wq_skip ?_ | refine wq_ret ?_ | refine wq_exit ?_ | refine th_normal ?_ | refine th_ret ?_ | refine th_exit ?_ | refine bk_normal ?_ | refine bk_ret ?_ | refine bk_exit ?_ | refine bk_other rfl ?_)
        refine cond_go (fun hc2 => ?_) (fun hc2 => ?_)
        · simp at hc2
          have hev := evMay_2 (es := es) (n := n) hc2
          rw [hin, explored_last] at hev
          obtain ⟨d, i1, i2, l1, l2⟩ : ∃ d, idxV T 40 (.ptr H.length 0) e.member = some (.ptr H.length d) ∧ idxV T 40 (.ptr H.length 8) e.member = some (.ptr H.length (8 + d)) ∧ (∀ l, loadV T 3 (H ++ (.row cs true :: l)) H.length d = some (.int .i64 (manyOf es e.member))) ∧ (∀ l, loadV T 3 (H ++ (.row cs true :: l)) H.length (8 + d) = some (.int .i64 (lastKind es e.member))) := by
            obtain ⟨d, hde⟩ : ∃ d : Nat, e.member = (d : Int) := ⟨e.member.toNat, by omega⟩
            have hd8 : d < 8 := by omega
            have i1 := arr_idx (b := H.length) (off := 0) T40 rfl T3 rfl hd8
            have i2 := arr_idx (b := H.length) (off := 8) T40 rfl T3 rfl hd8
            rw [Nat.zero_add] at i1
            exact ⟨d, by rw [hde]; exact i1, by rw [hde]; exact i2, fun l => by rw [hde]; exact row_load T3 rfl (h2 d hd8).1 l, fun l => by rw [hde]; exact row_load T3 rfl (h2 d hd8).2 l⟩
          have x4 : ∀ l, loadV T 32 (H ++ l) b (o + 4) = some (.agg [.int .i64 e.rate, .int .i64 e.mom]) := fun l => by
            refine loadV_agg T32 rfl ?_
            have h4 := he l
            unfold Heap.loadN at h4 ⊢
            split at h4
            · rename_i rw_ _ hb
              split at h4
              · rename_i hle
                simp only [Option.some.injEq] at h4
                rw [if_pos (by omega)]
                have := congrArg (fun l => (l.drop 4).take 2) h4
                simpa [Ev.cells, List.drop_take, List.take_take, List.drop_drop, Nat.add_comm] using this
              · cases h4
            · cases h4
          repeat' (first | refine l_go ?_ | refine d_go ?_ | refine l_onG ?_ | refine l_offG ?_ | refine d_onG ?_ | refine d_offG ?_ | refine wq_seq ?_ | refine wq_line ?_ | refine wq_draw (by decide +kernel) ?_ | refine wq_block ?_ | refine l_nil ?_ | refine d_nil ?_ | refine wq_skip ?_ | refine wq_ret ?_ | refine wq_exit ?_ | refine th_normal ?_ | refine th_ret ?_ | refine th_exit ?_ | refine bk_normal ?_ | refine bk_ret ?_ | refine bk_exit ?_ | refine bk_other rfl ?_ | refine d_call0G (hyperMayP ..) ?_ | first | refine l_partG (fun hb => ?_) (fun hb => ?_) | refine d_partG (fun hb => ?_) (fun hb => ?_))
          all_goals refine end_ret (by simp only [resRf, resRs, resR]; first | done | rfl) ⟨?_, by first | exact List.prefix_refl _ | exact List.prefix_append _ _ | assumption | (refine List.IsPrefix.trans (by assumption) (List.prefix_append _ _)) | (simp only [List.append_assoc, List.cons_append, List.nil_append, List.set_cons_zero, List.set_cons_succ]; exact ⟨_, by simp only [List.append_assoc, List.cons_append, List.nil_append]; rfl⟩)⟩
          all_goals (rw [hev]; clear he hf h2 x0 x1 x2 x3 x5; first | (simp [put_app, put_none, *]; done) | (simp_all [put_app, put_none]; done))
        · simp at hc2
          have hev := evMay_3 (es := es) (n := n) hc hc1 hc2
          repeat' (first | refine l_go ?_ | refine d_go ?_ | refine l_onG ?_ | refine l_offG ?_ | refine d_onG ?_ | refine d_offG ?_ | refine wq_seq ?_ | refine wq_line ?_ | refine wq_draw (by decide +kernel) ?_ | refine wq_block ?_ | refine l_nil ?_ | refine d_nil ?_ | refine wq_skip ?_ | refine wq_ret ?_ | refine wq_exit ?_ | refine th_normal ?_ | refine th_ret ?_ | refine th_exit ?_ | refine bk_normal ?_ | refine bk_ret ?_ | refine bk_exit ?_ | refine bk_other rfl ?_)
          refine end_ret (by simp only [resRf, resRs, resR]; first | done | rfl) ⟨?_, by first | exact List.prefix_refl _ | exact List.prefix_append _ _ | assumption | (refine List.IsPrefix.trans (by assumption) (List.prefix_append _ _)) | (simp only [List.append_assoc, List.cons_append, List.nil_append, List.set_cons_zero, List.set_cons_succ]; exact ⟨_, by simp only [List.append_assoc, List.cons_append, List.nil_append]; rfl⟩)⟩
          rw [hev]
          simp [put_app, put_none, *]
end Go.Proofs.Ytibpfgamiilpkaa.VM
