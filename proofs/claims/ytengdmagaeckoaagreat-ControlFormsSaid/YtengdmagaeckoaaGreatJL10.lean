/- Joined texts: EvD, CtlA, CtlB, CtlC, EvB, CtlD, CtlE, CtlF, EvF, CtlG, FoldV, FoldW. -/
import Derived.Test.YtengdmagaeckoaaGreatJL9
/- Layer 18: the program's tally, its events that may be (LinD, LinE). -/
namespace Go.Proofs.YtengdmagaeckoaaGreat.VM
open Go
set_option linter.unusedVariables false
set_option linter.unusedSimpArgs false
attribute [local irreducible] wq wqL wqD wqE wqO Th Bk EndR
set_option maxHeartbeats 8000000

theorem inside (H : Heap) (b : Nat) (n x : Int) (hb : H.loadN b 0 1 = some [.int .i64 n]) : Call Tryz.prog 120 [.int .i64 x, .ptr b 0] H (.bool (decide (x ≥ 0) && decide (x < n))) H := by
  refine call_plain fit mixed Tryz.func120 rfl rfl rfl (by kernel_rfl) rfl ?_
  have hl : loadV T 3 H b 0 = some (.int .i64 n) := loadV_one T3 rfl hb
  repeat' (first | (refine l_pl ?_; refine l_go ?_) | (refine d_pl ?_; refine d_go ?_) | (refine l_gd ?_; first | refine l_onG ?_ | refine l_offG ?_) | (refine d_gd ?_; first | refine d_onG ?_ | refine d_offG ?_) | refine wq_seq ?_ | refine wq_line ?_ | refine wq_draw (by decide +kernel) ?_ | refine wq_block ?_ | refine l_nil ?_ | refine d_nil ?_ | refine wq_skip ?_ | refine wq_ret ?_ | refine wq_exit ?_ | refine th_normal ?_ | refine th_ret ?_ | refine th_exit ?_ | refine bk_normal ?_ | refine bk_ret ?_ | refine bk_exit ?_ | refine bk_other rfl ?_ | first | refine l_partG (fun hb => ?_) (fun hb => ?_) | refine d_partG (fun hb => ?_) (fun hb => ?_))
  all_goals refine end_finG ?_; simp [put_app, put_none, *]
  all_goals simp_all
  all_goals (first | done | omega)
def TallyC (cs : List V) (es : List Ev) : Prop := cs.length = 16 ∧ ∀ m : Nat, m < 8 → cs[m]? = some (.int .i64 (manyOf es (m : Int))) ∧ cs[8 + m]? = some (.int .i64 (lastKind es (m : Int)))
theorem take_ (H : Heap) (cs : List V) (es : List Ev) (e : Ev) (q : Nat) (b o : Nat) (hq : q < 8) (hm : e.member = (q : Int)) (ht : TallyC cs es) (hl : es.length ≤ 2 ^ 47) (he : ∀ l, (H ++ l).loadN b o 1 = some [.int .i64 e.kind]) (he1 : ∀ l, (H ++ l).loadN b (o + 1) 1 = some [.int .i64 e.member]) :
    ∃ cs', TallyC cs' (es ++ [e]) ∧ Call Tryz.prog 82 [.ptr H.length 0, .ptr b o] (H ++ [.row cs true]) (.tup []) (H ++ [.row cs' true]) := by
  obtain ⟨h1, h2⟩ := ht
  obtain ⟨c1, c2⟩ := h2 q hq
  have hle := manyOf_le es (q : Int)
  have hw := wrap_succ (n := manyOf es (q : Int)) (by omega)
  have x1 : ∀ l, loadV T 3 (H ++ l) b o = some (.int .i64 e.kind) := fun l => loadV_one T3 rfl (he l)
  have x2 : ∀ l, loadV T 3 (H ++ l) b (o + 1) = some (.int .i64 (q : Int)) := fun l => by rw [← hm]; exact loadV_one T3 rfl (he1 l)
  have i1 := arr_idx (b := H.length) (off := 0) T137 rfl T3 rfl hq
  have i2 := arr_idx (b := H.length) (off := 8) T137 rfl T3 rfl hq
  rw [Nat.zero_add] at i1
  have l1 := row_load (H := H) (w := true) T3 rfl c1
  have s1 := row_store (H := H) (v := .int .i64 ((manyOf es (q : Int) : Int) + 1)) (q := q) (cs := cs) T3 rfl rfl rfl (by omega)
  have s2 := row_store (H := H) (v := .int .i64 e.kind) (q := 8 + q) (cs := cs.set q (.int .i64 ((manyOf es (q : Int) : Int) + 1))) T3 rfl rfl rfl (by simp; omega)
  refine ⟨(cs.set q (.int .i64 ((manyOf es (q : Int) : Int) + 1))).set (8 + q) (.int .i64 e.kind), ⟨by simp [h1], fun m hm' => ?_⟩, ?_⟩
  · obtain ⟨d1, d2⟩ := h2 m hm'
    rw [manyOf_snoc, lastKind_snoc, hm]
    by_cases hmq : q = m
    · subst hmq
      simp [List.getElem?_set, h1]
      omega
    · have : ¬ (q : Int) = (m : Int) := by omega
      simp [List.getElem?_set, h1, this, hmq]
      rw [if_neg (by omega), if_neg (by omega), d1, d2]
      exact ⟨rfl, rfl⟩
  · obtain ⟨v', H', ⟨rfl, rfl⟩, hc⟩ := call_wq (R := fun v h => v = .tup [] ∧ h = H ++ [.row ((cs.set q (.int .i64 ((manyOf es (q : Int) : Int) + 1))).set (8 + q) (.int .i64 e.kind)) true]) (args := [.ptr H.length 0, .ptr b o]) (H := H ++ [.row cs true]) fit mixed Tryz.func82 rfl rfl rfl (by kernel_rfl) (by
      refine goW ?_
      refine end_normal (by simp only [resRf, resRs, resR]; first | done | rfl) ⟨rfl, rfl⟩)
    exact hc
theorem within_lt (x n : Int) : within x 0 (n - 1) = (decide (x ≥ 0) && decide (x < n)) := by
  unfold within
  congr 1
  apply decide_eq_decide.2
  omega
theorem mayT (H : Heap) (cs : List V) (es : List Ev) (e : Ev) (n : Int) (b o : Nat) (hn : 1 ≤ n ∧ n ≤ 8) (ht : TallyC cs es) (hl : es.length ≤ 2 ^ 47)
    (he : ∀ l, (H ++ l).loadN b o 6 = some e.cells) (hf : ∀ l (j : Nat) c, e.cells[j]? = some c → (H ++ l).loadN b (o + j) 1 = some [c]) :
    Call Tryz.prog 81 [.ptr H.length 0, .ptr b o, .int .i64 n] (H ++ [.row cs true]) (.bool (evMay es n e)) (H ++ [.row cs true]) := by
  obtain ⟨h1, h2⟩ := ht
  have x0 : ∀ l, loadV T 3 (H ++ l) b o = some (.int .i64 e.kind) := fun l => loadV_one T3 rfl (hf l 0 _ rfl)
  have x1 : ∀ l, loadV T 3 (H ++ l) b (o + 1) = some (.int .i64 e.member) := fun l => loadV_one T3 rfl (hf l 1 _ rfl)
  have x2 : ∀ l, loadV T 3 (H ++ l) b (o + 2) = some (.int .i64 e.donor) := fun l => loadV_one T3 rfl (hf l 2 _ rfl)
  have x3 : ∀ l, loadV T 3 (H ++ l) b (o + 3) = some (.int .i64 e.at_) := fun l => loadV_one T3 rfl (hf l 3 _ rfl)
  have x5 : ∀ l, loadV T 78 (H ++ l) b o = some (.agg [.int .i64 e.kind, .int .i64 e.member, .int .i64 e.donor, .int .i64 e.at_, .int .i64 e.rate, .int .i64 e.mom]) := fun l => loadV_agg T78 rfl (he l)
  refine call_plain fit mixed Tryz.func81 rfl rfl rfl (by kernel_rfl) rfl ?_
  have hwl : within e.member 0 (n - 1) = (decide (e.member ≥ 0) && decide (e.member < n)) := within_lt ..
  repeat' (first | (refine l_pl ?_; refine l_go ?_) | (refine d_pl ?_; refine d_go ?_) | (refine l_gd ?_; first | refine l_onG ?_ | refine l_offG ?_) | (refine d_gd ?_; first | refine d_onG ?_ | refine d_offG ?_) | refine wq_seq ?_ | refine wq_line ?_ | refine wq_draw (by decide +kernel) ?_ | refine wq_block ?_ | refine l_nil ?_ | refine d_nil ?_ | refine wq_skip ?_ | refine wq_ret ?_ | refine wq_exit ?_ | refine th_normal ?_ | refine th_ret ?_ | refine th_exit ?_ | refine bk_normal ?_ | refine bk_ret ?_ | refine bk_exit ?_ | refine bk_other rfl ?_ | refine l_call (by exact (by simp only [callsWhom, beq_self_eq_true, bne_self_eq_false, ev_tmp, ev_const, ev_func, V.of, V.ofs, put_app, put_none, rho0_app, reduceIte, Nat.reduceEqDiff, reduceCtorEq, List.getD_cons_zero, List.getD_cons_succ, evs, optEv, evParts, Option.map_some, List.cons_append, List.nil_append, List.append_nil, List.append_assoc, Nat.zero_add, Nat.add_zero, *]; first | done | rfl)) (inside _ _ n _ (by first | (simp only [loadN_app, loadN_app0]; first | done | rfl) | (simp only [List.append_assoc, List.cons_append, List.nil_append, List.length_append, List.length_cons, List.length_nil, Nat.zero_add, Nat.add_zero, Nat.reduceAdd, List.set_cons_zero, List.set_cons_succ, loadN_app, loadN_app0]; first | done | rfl))) ?_)
  refine cond_go (fun hb => ?_) (fun hb => ?_)
  · repeat' (first | (refine l_pl ?_; refine l_go ?_) | (refine d_pl ?_; refine d_go ?_) | (refine l_gd ?_; first | refine l_onG ?_ | refine l_offG ?_) | (refine d_gd ?_; first | refine d_onG ?_ | refine d_offG ?_) | refine wq_seq ?_ | refine wq_line ?_ | refine wq_draw (by decide +kernel) ?_ | refine wq_block ?_ | refine l_nil ?_ | refine d_nil ?_ | refine wq_skip ?_ | refine wq_ret ?_ | refine wq_exit ?_ | refine th_normal ?_ | refine th_ret ?_ | refine th_exit ?_ | refine bk_normal ?_ | refine bk_ret ?_ | refine bk_exit ?_ | refine bk_other rfl ?_)
    refine end_finG ?_; simp [put_app, put_none, *]
    have : within e.member 0 (n - 1) = false := by rw [hwl]; cases h : (decide (e.member ≥ 0) && decide (e.member < n)) <;> simp_all
    simp [evMay, this]
  · have hin : within e.member 0 (n - 1) = true := by rw [hwl]; simpa using hb
    have hm : 0 ≤ e.member ∧ e.member < n := by simpa [within_lt] using hin
    clear hwl hb
    repeat' (first | (refine l_pl ?_; refine l_go ?_) | (refine d_pl ?_; refine d_go ?_) | (refine l_gd ?_; first | refine l_onG ?_ | refine l_offG ?_) | (refine d_gd ?_; first | refine d_onG ?_ | refine d_offG ?_) | refine wq_seq ?_ | refine wq_line ?_ | refine wq_draw (by decide +kernel) ?_ | refine wq_block ?_ | refine l_nil ?_ | refine d_nil ?_ | refine wq_skip ?_ | refine wq_ret ?_ | refine wq_exit ?_ | refine th_normal ?_ | refine th_ret ?_ | refine th_exit ?_ | refine bk_normal ?_ | refine bk_ret ?_ | refine bk_exit ?_ | refine bk_other rfl ?_)
    refine cond_go (fun hc => ?_) (fun hc => ?_)
    · simp at hc
      repeat' (first | (refine l_pl ?_; refine l_go ?_) | (refine d_pl ?_; refine d_go ?_) | (refine l_gd ?_; first | refine l_onG ?_ | refine l_offG ?_) | (refine d_gd ?_; first | refine d_onG ?_ | refine d_offG ?_) | refine wq_seq ?_ | refine wq_line ?_ | refine wq_draw (by decide +kernel) ?_ | refine wq_block ?_ | refine l_nil ?_ | refine d_nil ?_ | refine wq_skip ?_ | refine wq_ret ?_ | refine wq_exit ?_ | refine th_normal ?_ | refine th_ret ?_ | refine th_exit ?_ | refine bk_normal ?_ | refine bk_ret ?_ | refine bk_exit ?_ | refine bk_other rfl ?_)
      refine end_finG ?_; simp [put_app, put_none, *]
      rw [evMay_0 hc, hin]
      simp [Bool.and_assoc]
    · simp at hc
      repeat' (first | (refine l_pl ?_; refine l_go ?_) | (refine d_pl ?_; refine d_go ?_) | (refine l_gd ?_; first | refine l_onG ?_ | refine l_offG ?_) | (refine d_gd ?_; first | refine d_onG ?_ | refine d_offG ?_) | refine wq_seq ?_ | refine wq_line ?_ | refine wq_draw (by decide +kernel) ?_ | refine wq_block ?_ | refine l_nil ?_ | refine d_nil ?_ | refine wq_skip ?_ | refine wq_ret ?_ | refine wq_exit ?_ | refine th_normal ?_ | refine th_ret ?_ | refine th_exit ?_ | refine bk_normal ?_ | refine bk_ret ?_ | refine bk_exit ?_ | refine bk_other rfl ?_)
      refine cond_go (fun hc1 => ?_) (fun hc1 => ?_)
      · simp at hc1
        repeat' (first | (refine l_pl ?_; refine l_go ?_) | (refine d_pl ?_; refine d_go ?_) | (refine l_gd ?_; first | refine l_onG ?_ | refine l_offG ?_) | (refine d_gd ?_; first | refine d_onG ?_ | refine d_offG ?_) | refine wq_seq ?_ | refine wq_line ?_ | refine wq_draw (by decide +kernel) ?_ | refine wq_block ?_ | refine l_nil ?_ | refine d_nil ?_ | refine wq_skip ?_ | refine wq_ret ?_ | refine wq_exit ?_ | refine th_normal ?_ | refine th_ret ?_ | refine th_exit ?_ | refine bk_normal ?_ | refine bk_ret ?_ | refine bk_exit ?_ | refine bk_other rfl ?_)
        refine wq_late ?_
        repeat (first | refine e_go ?_ | refine e_goL ?_ | refine e_goS ?_ | refine e_nil ?_)
        have hd : (∃ d, idxV T 137 (.ptr H.length 0) e.donor = some (.ptr H.length d) ∧ ∀ l, loadV T 3 (H ++ (.row cs true :: l)) H.length d = some (.int .i64 (manyOf es e.donor))) ∨ ¬ (0 ≤ e.donor ∧ e.donor < n) := by
          by_cases hd : 0 ≤ e.donor ∧ e.donor < n
          · obtain ⟨d, hde⟩ : ∃ d : Nat, e.donor = (d : Int) := ⟨e.donor.toNat, by omega⟩
            have hd8 : d < 8 := by omega
            have i1 := arr_idx (b := H.length) (off := 0) T137 rfl T3 rfl hd8
            rw [Nat.zero_add] at i1
            exact .inl ⟨d, by rw [hde]; exact i1, fun l => by rw [hde]; exact row_load T3 rfl (h2 d hd8).1 l⟩
          · exact .inr hd
        have hev := evMay_1 (es := es) (n := n) hc1
        rw [hin, within_lt] at hev
        rcases hd with ⟨d, i1, l1⟩ | hd
        · repeat' (first | (refine l_pl ?_; refine l_go ?_) | (refine d_pl ?_; refine d_go ?_) | (refine l_gd ?_; first | refine l_onG ?_ | refine l_offG ?_) | (refine d_gd ?_; first | refine d_onG ?_ | refine d_offG ?_) | refine wq_seq ?_ | refine wq_line ?_ | refine wq_draw (by decide +kernel) ?_ | refine wq_block ?_ | refine l_nil ?_ | refine d_nil ?_ | refine wq_skip ?_ | refine wq_ret ?_ | refine wq_exit ?_ | refine th_normal ?_ | refine th_ret ?_ | refine th_exit ?_ | refine bk_normal ?_ | refine bk_ret ?_ | refine bk_exit ?_ | refine bk_other rfl ?_ | refine d_call0 (by exact (by simp only [callsWhom, beq_self_eq_true, bne_self_eq_false, ev_tmp, ev_const, ev_func, V.of, V.ofs, put_app, put_none, rho0_app, reduceIte, Nat.reduceEqDiff, reduceCtorEq, List.getD_cons_zero, List.getD_cons_succ, evs, optEv, evParts, Option.map_some, List.cons_append, List.nil_append, List.append_nil, List.append_assoc, Nat.zero_add, Nat.add_zero, *]; first | done | rfl)) (inside _ _ n _ (by first | (simp only [loadN_app, loadN_app0]; first | done | rfl) | (simp only [List.append_assoc, List.cons_append, List.nil_append, List.length_append, List.length_cons, List.length_nil, Nat.zero_add, Nat.add_zero, Nat.reduceAdd, List.set_cons_zero, List.set_cons_succ, loadN_app, loadN_app0]; first | done | rfl))) ?_ | first | refine l_partG (fun hb => ?_) (fun hb => ?_) | refine d_partG (fun hb => ?_) (fun hb => ?_))
          all_goals refine end_ret (by simp only [resRf, resRs, resR]; first | done | rfl) ⟨?_, by first | exact List.prefix_refl _ | exact List.prefix_append _ _ | assumption | (refine List.IsPrefix.trans (by assumption) (List.prefix_append _ _)) | (simp only [List.append_assoc, List.cons_append, List.nil_append, List.set_cons_zero, List.set_cons_succ]; exact ⟨_, by simp only [List.append_assoc, List.cons_append, List.nil_append]; rfl⟩)⟩
          all_goals (rw [hev]; clear he hf h2 x0 x1 x2 x3 x5; first | (simp [put_app, put_none, *]; done) | (simp_all [put_app, put_none]; done))
        · have hd' : (decide (e.donor ≥ 0) && decide (e.donor < n)) = false := by
            cases h : (decide (e.donor ≥ 0) && decide (e.donor < n)) with
            | false => rfl
            | true =>
              exfalso
              simp at h
              exact hd ⟨by omega, by omega⟩
          clear hd
          rw [hd'] at hev
          repeat' (first | (refine l_pl ?_; refine l_go ?_) | (refine d_pl ?_; refine d_go ?_) | (refine l_gd ?_; first | refine l_onG ?_ | refine l_offG ?_) | (refine d_gd ?_; first | refine d_onG ?_ | refine d_offG ?_) | refine wq_seq ?_ | refine wq_line ?_ | refine wq_draw (by decide +kernel) ?_ | refine wq_block ?_ | refine l_nil ?_ | refine d_nil ?_ | refine wq_skip ?_ | refine wq_ret ?_ | refine wq_exit ?_ | refine th_normal ?_ | refine th_ret ?_ | refine th_exit ?_ | refine bk_normal ?_ | refine bk_ret ?_ | refine bk_exit ?_ | refine bk_other rfl ?_ | refine d_call0 (by exact (by simp only [callsWhom, beq_self_eq_true, bne_self_eq_false, ev_tmp, ev_const, ev_func, V.of, V.ofs, put_app, put_none, rho0_app, reduceIte, Nat.reduceEqDiff, reduceCtorEq, List.getD_cons_zero, List.getD_cons_succ, evs, optEv, evParts, Option.map_some, List.cons_append, List.nil_append, List.append_nil, List.append_assoc, Nat.zero_add, Nat.add_zero, *]; first | done | rfl)) (inside _ _ n _ (by first | (simp only [loadN_app, loadN_app0]; first | done | rfl) | (simp only [List.append_assoc, List.cons_append, List.nil_append, List.length_append, List.length_cons, List.length_nil, Nat.zero_add, Nat.add_zero, Nat.reduceAdd, List.set_cons_zero, List.set_cons_succ, loadN_app, loadN_app0]; first | done | rfl))) ?_ | first | refine l_partG (fun hb => ?_) (fun hb => ?_) | refine d_partG (fun hb => ?_) (fun hb => ?_))
          all_goals refine end_ret (by simp only [resRf, resRs, resR]; first | done | rfl) ⟨?_, by first | exact List.prefix_refl _ | exact List.prefix_append _ _ | assumption | (refine List.IsPrefix.trans (by assumption) (List.prefix_append _ _)) | (simp only [List.append_assoc, List.cons_append, List.nil_append, List.set_cons_zero, List.set_cons_succ]; exact ⟨_, by simp only [List.append_assoc, List.cons_append, List.nil_append]; rfl⟩)⟩
          all_goals (rw [hev]; clear he hf h2 x0 x1 x2 x3 x5; first | (simp [put_app, put_none, *]; done) | (simp_all [put_app, put_none]; done))
      · simp at hc1
        repeat' (first | (refine l_pl ?_; refine l_go ?_) | (refine d_pl ?_; refine d_go ?_) | (refine l_gd ?_; first | refine l_onG ?_ | refine l_offG ?_) | (refine d_gd ?_; first | refine d_onG ?_ | refine d_offG ?_) | refine wq_seq ?_ | refine wq_line ?_ | refine wq_draw (by decide +kernel) ?_ | refine wq_block ?_ | refine l_nil ?_ | refine d_nil ?_ | refine wq_skip ?_ | refine wq_ret ?_ | refine wq_exit ?_ | refine th_normal ?_ | refine th_ret ?_ | refine th_exit ?_ | refine bk_normal ?_ | refine bk_ret ?_ | refine bk_exit ?_ | refine bk_other rfl ?_)
        refine cond_go (fun hc2 => ?_) (fun hc2 => ?_)
        · simp at hc2
          have hev := evMay_2 (es := es) (n := n) hc2
          rw [hin, explored_last] at hev
          obtain ⟨d, i1, i2, l1, l2⟩ : ∃ d, idxV T 137 (.ptr H.length 0) e.member = some (.ptr H.length d) ∧ idxV T 137 (.ptr H.length 8) e.member = some (.ptr H.length (8 + d)) ∧ (∀ l, loadV T 3 (H ++ (.row cs true :: l)) H.length d = some (.int .i64 (manyOf es e.member))) ∧ (∀ l, loadV T 3 (H ++ (.row cs true :: l)) H.length (8 + d) = some (.int .i64 (lastKind es e.member))) := by
            obtain ⟨d, hde⟩ : ∃ d : Nat, e.member = (d : Int) := ⟨e.member.toNat, by omega⟩
            have hd8 : d < 8 := by omega
            have i1 := arr_idx (b := H.length) (off := 0) T137 rfl T3 rfl hd8
            have i2 := arr_idx (b := H.length) (off := 8) T137 rfl T3 rfl hd8
            rw [Nat.zero_add] at i1
            exact ⟨d, by rw [hde]; exact i1, by rw [hde]; exact i2, fun l => by rw [hde]; exact row_load T3 rfl (h2 d hd8).1 l, fun l => by rw [hde]; exact row_load T3 rfl (h2 d hd8).2 l⟩
          have x4 : ∀ l, loadV T 32 (H ++ l) b (o + 4) = some (.agg [.int .i64 e.rate, .int .i64 e.mom]) := fun l => by
            refine loadV_agg T32 rfl ?_
            have h4 := he l
            unfold Heap.loadN at h4 ⊢
            split at h4
            · rename_i rw_ _ hb
              split at h4
              · rename_i hle
                simp only [Option.some.injEq] at h4
                rw [if_pos (by omega)]
                have := congrArg (fun l => (l.drop 4).take 2) h4
                simpa [Ev.cells, List.drop_take, List.take_take, List.drop_drop, Nat.add_comm] using this
              · cases h4
            · cases h4
          repeat' (first | (refine l_pl ?_; refine l_go ?_) | (refine d_pl ?_; refine d_go ?_) | (refine l_gd ?_; first | refine l_onG ?_ | refine l_offG ?_) | (refine d_gd ?_; first | refine d_onG ?_ | refine d_offG ?_) | refine wq_seq ?_ | refine wq_line ?_ | refine wq_draw (by decide +kernel) ?_ | refine wq_block ?_ | refine l_nil ?_ | refine d_nil ?_ | refine wq_skip ?_ | refine wq_ret ?_ | refine wq_exit ?_ | refine th_normal ?_ | refine th_ret ?_ | refine th_exit ?_ | refine bk_normal ?_ | refine bk_ret ?_ | refine bk_exit ?_ | refine bk_other rfl ?_ | refine d_call0G (hyperMayP ..) ?_ | first | refine l_partG (fun hb => ?_) (fun hb => ?_) | refine d_partG (fun hb => ?_) (fun hb => ?_))
          all_goals refine end_ret (by simp only [resRf, resRs, resR]; first | done | rfl) ⟨?_, by first | exact List.prefix_refl _ | exact List.prefix_append _ _ | assumption | (refine List.IsPrefix.trans (by assumption) (List.prefix_append _ _)) | (simp only [List.append_assoc, List.cons_append, List.nil_append, List.set_cons_zero, List.set_cons_succ]; exact ⟨_, by simp only [List.append_assoc, List.cons_append, List.nil_append]; rfl⟩)⟩
          all_goals (rw [hev]; clear he hf h2 x0 x1 x2 x3 x5; first | (simp [put_app, put_none, *]; done) | (simp_all [put_app, put_none]; done))
        · simp at hc2
          have hev := evMay_3 (es := es) (n := n) hc hc1 hc2
          repeat' (first | (refine l_pl ?_; refine l_go ?_) | (refine d_pl ?_; refine d_go ?_) | (refine l_gd ?_; first | refine l_onG ?_ | refine l_offG ?_) | (refine d_gd ?_; first | refine d_onG ?_ | refine d_offG ?_) | refine wq_seq ?_ | refine wq_line ?_ | refine wq_draw (by decide +kernel) ?_ | refine wq_block ?_ | refine l_nil ?_ | refine d_nil ?_ | refine wq_skip ?_ | refine wq_ret ?_ | refine wq_exit ?_ | refine th_normal ?_ | refine th_ret ?_ | refine th_exit ?_ | refine bk_normal ?_ | refine bk_ret ?_ | refine bk_exit ?_ | refine bk_other rfl ?_)
          refine end_ret (by simp only [resRf, resRs, resR]; first | done | rfl) ⟨?_, by first | exact List.prefix_refl _ | exact List.prefix_append _ _ | assumption | (refine List.IsPrefix.trans (by assumption) (List.prefix_append _ _)) | (simp only [List.append_assoc, List.cons_append, List.nil_append, List.set_cons_zero, List.set_cons_succ]; exact ⟨_, by simp only [List.append_assoc, List.cons_append, List.nil_append]; rfl⟩)⟩
          rw [hev]
          simp [put_app, put_none, *]
theorem tally0 : TallyC (List.replicate 16 (.int .i64 0)) [] := by
  refine ⟨by simp, fun m hm => ?_⟩
  constructor
  · rw [List.getElem?_replicate, if_pos (by omega)]; rfl
  · rw [List.getElem?_replicate, if_pos (by omega)]; rfl
theorem lineageMay (H : Heap) (v : V) (es : List Ev) (n : Int) (hes : Sl 6 evC H v es) (hl : es.length ≤ 2 ^ 47) : Call Tryz.prog 41 [v, .int .i64 n] H (.bool (eventsMay es n)) H := by
  refine call_plain fit mixed Tryz.func41 rfl rfl rfl (by kernel_rfl) rfl ?_
  have hlen := hes.len T27 rfl
  by_cases hbad : within n 1 8 = true ∧ es.length ≤ 1024
  · obtain ⟨hn, hl'⟩ := hbad
    have hn' := hn
    simp [within] at hn'
    have q1 : decide (n < 1) = false := by simp; omega
    have q2 : decide (n > 8) = false := by simp; omega
    have q3 : decide ((es.length : Int) > 1024) = false := by simp; omega
    repeat (first | (refine l_pl ?_; refine l_go ?_) | (refine d_pl ?_; refine d_go ?_) | (refine l_gd ?_; first | refine l_onG ?_ | refine l_offG ?_) | (refine d_gd ?_; first | refine d_onG ?_ | refine d_offG ?_) | refine wq_seq ?_ | refine wq_line ?_ | refine wq_draw (by decide +kernel) ?_ | refine wq_block ?_ | refine l_nil ?_ | refine d_nil ?_ | refine wq_skip ?_ | refine wq_ret ?_ | refine wq_exit ?_ | refine th_normal ?_ | refine th_ret ?_ | refine th_exit ?_ | refine bk_normal ?_ | refine bk_ret ?_ | refine bk_exit ?_ | refine bk_other rfl ?_)
    refine cond_go (fun hb => ?_) (fun hb => ?_)
    · cases hb
    · clear hb
      repeat (first | (refine l_pl ?_; refine l_go ?_) | (refine d_pl ?_; refine d_go ?_) | (refine l_gd ?_; first | refine l_onG ?_ | refine l_offG ?_) | (refine d_gd ?_; first | refine d_onG ?_ | refine d_offG ?_) | refine wq_seq ?_ | refine wq_line ?_ | refine wq_draw (by decide +kernel) ?_ | refine wq_block ?_ | refine l_nil ?_ | refine d_nil ?_ | refine wq_skip ?_ | refine wq_ret ?_ | refine wq_exit ?_ | refine th_normal ?_ | refine th_ret ?_ | refine th_exit ?_ | refine bk_normal ?_ | refine bk_ret ?_ | refine bk_exit ?_ | refine bk_other rfl ?_)
      refine wq_loop (fun c ρ h => ∃ k cs, k ≤ es.length ∧ c = es.length - k ∧ h = H ++ [.row cs true] ∧ TallyC cs (es.take k) ∧ (∀ (j : Nat) e, j < k → es[j]? = some e → evMay (es.take j) n e = true) ∧ ρ 0 = v ∧ ρ 1 = .int .i64 n ∧ ρ 5 = .ptr H.length 0 ∧ ρ 21 = .int .i64 es.length ∧ ρ 22 = .int .i64 (k : Nat)) ⟨0, _, Nat.zero_le _, rfl, rfl, tally0, by intro j e hj; omega, rfl, rfl, rfl, rfl, rfl⟩ ?_
      rintro _ ρ h ⟨k, cs, hk, rfl, rfl, htal, hall, h0, h1, h5, h21, h22⟩
      repeat (first | (refine l_pl ?_; refine l_go ?_) | (refine d_pl ?_; refine d_go ?_) | (refine l_gd ?_; first | refine l_onG ?_ | refine l_offG ?_) | (refine d_gd ?_; first | refine d_onG ?_ | refine d_offG ?_) | refine wq_seq ?_ | refine wq_line ?_ | refine wq_draw (by decide +kernel) ?_ | refine wq_block ?_ | refine l_nil ?_ | refine d_nil ?_ | refine wq_skip ?_ | refine wq_ret ?_ | refine wq_exit ?_ | refine th_normal ?_ | refine th_ret ?_ | refine th_exit ?_ | refine bk_normal ?_ | refine bk_ret ?_ | refine bk_exit ?_ | refine bk_other rfl ?_)
      refine cond_go (fun hb => ?_) (fun hb => ?_)
      · have hk' : k < es.length := by simp at hb; omega
        clear hb
        obtain ⟨e, he⟩ : ∃ e, es[k]? = some e := ⟨es[k], by simp [hk']⟩
        obtain ⟨b, o, cs', hi, rfl, _, hlo, hlc⟩ := hes.get T27 rfl T78 rfl he
        have hw := wrap_succ (n := k) (by omega)
        have hul : (es.take k).length ≤ 2 ^ 47 := by rw [List.length_take]; omega
        have hmay := mayT H cs (es.take k) e n b o hn' htal hul (fun l => loadN_pre (List.prefix_append H l) hlo) (fun l j c hj => loadN_pre (List.prefix_append H l) (hlc j c hj))
        repeat (first | (refine l_pl ?_; refine l_go ?_) | (refine d_pl ?_; refine d_go ?_) | (refine l_gd ?_; first | refine l_onG ?_ | refine l_offG ?_) | (refine d_gd ?_; first | refine d_onG ?_ | refine d_offG ?_) | refine wq_seq ?_ | refine wq_line ?_ | refine wq_draw (by decide +kernel) ?_ | refine wq_block ?_ | refine l_nil ?_ | refine d_nil ?_ | refine wq_skip ?_ | refine wq_ret ?_ | refine wq_exit ?_ | refine th_normal ?_ | refine th_ret ?_ | refine th_exit ?_ | refine bk_normal ?_ | refine bk_ret ?_ | refine bk_exit ?_ | refine bk_other rfl ?_)
        refine l_callG hmay ?_
        repeat (first | (refine l_pl ?_; refine l_go ?_) | (refine d_pl ?_; refine d_go ?_) | (refine l_gd ?_; first | refine l_onG ?_ | refine l_offG ?_) | (refine d_gd ?_; first | refine d_onG ?_ | refine d_offG ?_) | refine wq_seq ?_ | refine wq_line ?_ | refine wq_draw (by decide +kernel) ?_ | refine wq_block ?_ | refine l_nil ?_ | refine d_nil ?_ | refine wq_skip ?_ | refine wq_ret ?_ | refine wq_exit ?_ | refine th_normal ?_ | refine th_ret ?_ | refine th_exit ?_ | refine bk_normal ?_ | refine bk_ret ?_ | refine bk_exit ?_ | refine bk_other rfl ?_)
        refine cond_go (fun hc => ?_) (fun hc => ?_)
        · simp at hc
          repeat (first | (refine l_pl ?_; refine l_go ?_) | (refine d_pl ?_; refine d_go ?_) | (refine l_gd ?_; first | refine l_onG ?_ | refine l_offG ?_) | (refine d_gd ?_; first | refine d_onG ?_ | refine d_offG ?_) | refine wq_seq ?_ | refine wq_line ?_ | refine wq_draw (by decide +kernel) ?_ | refine wq_block ?_ | refine l_nil ?_ | refine d_nil ?_ | refine wq_skip ?_ | refine wq_ret ?_ | refine wq_exit ?_ | refine th_normal ?_ | refine th_ret ?_ | refine th_exit ?_ | refine bk_normal ?_ | refine bk_ret ?_ | refine bk_exit ?_ | refine bk_other rfl ?_)
          refine end_ret (by simp only [resRf, resRs, resR]; first | done | rfl) (no_more he (by simp [put_app, put_none, *]) hc (by first | exact List.prefix_refl _ | exact List.prefix_append _ _ | assumption | (refine List.IsPrefix.trans (by assumption) (List.prefix_append _ _)) | (simp only [List.append_assoc, List.cons_append, List.nil_append, List.set_cons_zero, List.set_cons_succ]; exact ⟨_, by simp only [List.append_assoc, List.cons_append, List.nil_append]; rfl⟩)))
        · simp at hc
          have hm : 0 ≤ e.member ∧ e.member < n := by
            have hx : within e.member 0 (n - 1) = true := by
              unfold evMay at hc
              simp only [Bool.and_eq_true] at hc
              exact hc.1
            simpa [within_lt] using hx
          obtain ⟨q, hq⟩ : ∃ q : Nat, e.member = (q : Int) := ⟨e.member.toNat, by omega⟩
          obtain ⟨cs2, ht2, hcall⟩ := take_ H cs (es.take k) e q b o (by omega) hq htal hul (fun l => loadN_pre (List.prefix_append H l) (hlc 0 _ rfl)) (fun l => loadN_pre (List.prefix_append H l) (hlc 1 _ rfl))
          clear hm hq
          repeat (first | (refine l_pl ?_; refine l_go ?_) | (refine d_pl ?_; refine d_go ?_) | (refine l_gd ?_; first | refine l_onG ?_ | refine l_offG ?_) | (refine d_gd ?_; first | refine d_onG ?_ | refine d_offG ?_) | refine wq_seq ?_ | refine wq_line ?_ | refine wq_draw (by decide +kernel) ?_ | refine wq_block ?_ | refine l_nil ?_ | refine d_nil ?_ | refine wq_skip ?_ | refine wq_ret ?_ | refine wq_exit ?_ | refine th_normal ?_ | refine th_ret ?_ | refine th_exit ?_ | refine bk_normal ?_ | refine bk_ret ?_ | refine bk_exit ?_ | refine bk_other rfl ?_)
          refine l_callG hcall ?_
          repeat (first | (refine l_pl ?_; refine l_go ?_) | (refine d_pl ?_; refine d_go ?_) | (refine l_gd ?_; first | refine l_onG ?_ | refine l_offG ?_) | (refine d_gd ?_; first | refine d_onG ?_ | refine d_offG ?_) | refine wq_seq ?_ | refine wq_line ?_ | refine wq_draw (by decide +kernel) ?_ | refine wq_block ?_ | refine l_nil ?_ | refine d_nil ?_ | refine wq_skip ?_ | refine wq_ret ?_ | refine wq_exit ?_ | refine th_normal ?_ | refine th_ret ?_ | refine th_exit ?_ | refine bk_normal ?_ | refine bk_ret ?_ | refine bk_exit ?_ | refine bk_other rfl ?_)
          refine ⟨es.length - (k + 1), by omega, k + 1, cs2, hk', rfl, rfl, ?_, all_succ hall he hc, ?_⟩
          · rw [List.take_add_one, he]; exact ht2
          · simp [put_app, put_none, *]
      · have hk' : k = es.length := by simp at hb; omega
        subst hk'
        repeat (first | (refine l_pl ?_; refine l_go ?_) | (refine d_pl ?_; refine d_go ?_) | (refine l_gd ?_; first | refine l_onG ?_ | refine l_offG ?_) | (refine d_gd ?_; first | refine d_onG ?_ | refine d_offG ?_) | refine wq_seq ?_ | refine wq_line ?_ | refine wq_draw (by decide +kernel) ?_ | refine wq_block ?_ | refine l_nil ?_ | refine d_nil ?_ | refine wq_skip ?_ | refine wq_ret ?_ | refine wq_exit ?_ | refine th_normal ?_ | refine th_ret ?_ | refine th_exit ?_ | refine bk_normal ?_ | refine bk_ret ?_ | refine bk_exit ?_ | refine bk_other rfl ?_)
        refine end_ret (by simp only [resRf, resRs, resR]; first | done | rfl) ⟨?_, by first | exact List.prefix_refl _ | exact List.prefix_append _ _ | assumption | (refine List.IsPrefix.trans (by assumption) (List.prefix_append _ _)) | (simp only [List.append_assoc, List.cons_append, List.nil_append, List.set_cons_zero, List.set_cons_succ]; exact ⟨_, by simp only [List.append_assoc, List.cons_append, List.nil_append]; rfl⟩)⟩
        rw [eventsMay_yes hn hl' fun j e he => hall j e (List.getElem?_eq_some_iff.1 he).1 he]
        simp [put_app, put_none, *]
  · have hno : eventsMay es n = false := by
      unfold eventsMay
      cases h1 : within n 1 8 with
      | false => simp
      | true =>
        have : ¬ es.length ≤ 1024 := fun h => hbad ⟨h1, h⟩
        simp [this]
    repeat' (first | (refine l_pl ?_; refine l_go ?_) | (refine d_pl ?_; refine d_go ?_) | (refine l_gd ?_; first | refine l_onG ?_ | refine l_offG ?_) | (refine d_gd ?_; first | refine d_onG ?_ | refine d_offG ?_) | refine wq_seq ?_ | refine wq_line ?_ | refine wq_draw (by decide +kernel) ?_ | refine wq_block ?_ | refine l_nil ?_ | refine d_nil ?_ | refine wq_skip ?_ | refine wq_ret ?_ | refine wq_exit ?_ | refine th_normal ?_ | refine th_ret ?_ | refine th_exit ?_ | refine bk_normal ?_ | refine bk_ret ?_ | refine bk_exit ?_ | refine bk_other rfl ?_ | first | refine l_partG (fun hb => ?_) (fun hb => ?_) | refine d_partG (fun hb => ?_) (fun hb => ?_))
    all_goals refine cond_go (fun hb => ?_) (fun hb => ?_)
    all_goals first
      | (cases hb; done)
      | ((repeat (first | (refine l_pl ?_; refine l_go ?_) | (refine d_pl ?_; refine d_go ?_) | (refine l_gd ?_; first | refine l_onG ?_ | refine l_offG ?_) | (refine d_gd ?_; first | refine d_onG ?_ | refine d_offG ?_) | refine wq_seq ?_ | refine wq_line ?_ | refine wq_draw (by decide +kernel) ?_ | refine wq_block ?_ | refine l_nil ?_ | refine d_nil ?_ | refine wq_skip ?_ | refine wq_ret ?_ | refine wq_exit ?_ | refine th_normal ?_ | refine th_ret ?_ | refine th_exit ?_ | refine bk_normal ?_ | refine bk_ret ?_ | refine bk_exit ?_ | refine bk_other rfl ?_)); refine end_ret (by simp only [resRf, resRs, resR]; first | done | rfl) ⟨?_, by first | exact List.prefix_refl _ | exact List.prefix_append _ _ | assumption | (refine List.IsPrefix.trans (by assumption) (List.prefix_append _ _)) | (simp only [List.append_assoc, List.cons_append, List.nil_append, List.set_cons_zero, List.set_cons_succ]; exact ⟨_, by simp only [List.append_assoc, List.cons_append, List.nil_append]; rfl⟩)⟩; simp [put_app, put_none, hno]; done)
      | (exfalso; apply hbad; clear hno hbad hlen; simp_all [within]; done)
      | (exfalso; apply hbad; clear hno hbad hlen; simp_all [within]; omega)
end Go.Proofs.YtengdmagaeckoaaGreat.VM

/- Layer 22: states in memory; the program's slices.ContainsFunc over members, entries; who is odd. -/
namespace Go.Proofs.YtengdmagaeckoaaGreat.VM
open Go
set_option linter.unusedVariables false
set_option linter.unusedSimpArgs false
attribute [local irreducible] wq wqL wqD wqE wqO Th Bk EndR
set_option maxHeartbeats 8000000

/-- a member in memory -/
structure MR where
  w : V
  v : V
  k : Chk
  h : Int
def MR.val (x : MR) : Chk × Int := (x.k, x.h)
def mrC (cs : List V) (x : MR) : Prop := cs = mC x.w x.v x.k x.h
abbrev stC (c : Cfg) (rv mv ev sv : V) : List V := [.int .i64 c.m, .int .i64 c.i, .int .i64 c.h, rv, .int .i64 c.seed, .int .i64 c.total, .int .i64 c.interval, .int .i64 c.cutn, .bool c.pert, mv, ev, sv]
abbrev zeroSt : List V := [.int .i64 0, .int .i64 0, .int .i64 0, .nils, .int .i64 0, .int .i64 0, .int .i64 0, .int .i64 0, .bool false, .nils, .nils, .nils]
theorem cells_mrs (xs : List MR) : Cells 6 mrC (xs.flatMap fun x => mC x.w x.v x.k x.h) xs := cells_of (R := mrC) (fun x => mC x.w x.v x.k x.h) (fun x => ⟨rfl, rfl⟩) xs
/-- a state that is read -/
structure StAt (H : Heap) (rv mv ev sv : V) (xs : List MR) (s : St) : Prop where
  rows : Rows H rv s.c.rows
  ms : Sl 6 mrC H mv xs
  val : xs.map MR.val = s.ms
  ks : ∀ x ∈ xs, KAt H x.w x.v x.k
  es : Sl 6 evC H ev s.es
  st : Sl 3 entC H sv s.st
theorem StAt.mono {H H' : Heap} (hp : H <+: H') {rv mv ev sv : V} {xs : List MR} {s : St} (h : StAt H rv mv ev sv xs s) : StAt H' rv mv ev sv xs s :=
  ⟨h.rows.mono hp, h.ms.mono hp, h.val, fun x hx => (h.ks x hx).mono hp, h.es.mono hp, h.st.mono hp⟩
structure St.Fit (s : St) : Prop where
  c : s.c.Fit
  ms : s.ms.length * 80 ≤ 140737488351232
  k : ∀ m ∈ s.ms, m.1.Fit
  es : s.es.length * 48 ≤ 140737488351232
  st : s.st.length * 32 ≤ 140737488351232
theorem mr_at {H : Heap} {v : V} {xs : List MR} (h : Sl 6 mrC H v xs) {j : Nat} {x : MR} (hx : xs[j]? = some x) :
    ∃ b o, idxV T 56 v (j : Int) = some (.ptr b o) ∧ loadV T 48 H b o = some (.agg (mC x.w x.v x.k x.h)) ∧ loadV T 34 H b o = some (.agg (kC x.w x.v x.k)) ∧ loadV T 3 H b (o + 5) = some (.int .i64 x.h) := by
  obtain ⟨b, o, cs, hi, hc, _, hlo, hlc⟩ := h.get T56 rfl T48 rfl hx
  rw [hc] at hlo hlc
  exact ⟨b, o, hi, loadV_agg T48 rfl hlo, loadV_agg T34 rfl (loadN_in (j := 0) (n := 5) hlo (by decide)), loadV_one T3 rfl (hlc 5 _ rfl)⟩

def idxM {α : Type} (es : List α) (p : α → Bool) : Int := if es.findIdx p < es.length then (es.findIdx p : Int) else -1
theorem idxM_any {α : Type} (es : List α) (p : α → Bool) : decide (idxM es p ≥ 0) = es.any p := by
  unfold idxM
  by_cases h : es.findIdx p < es.length
  · rw [if_pos h, decide_eq_true (by omega)]
    symm
    rw [List.any_eq_true]
    exact ⟨_, List.getElem_mem h, List.findIdx_getElem⟩
  · rw [if_neg h]
    have h2 : es.findIdx p = es.length := by have := List.findIdx_le_length (xs := es) (p := p); omega
    symm
    show es.any p = false
    rw [List.any_eq_false]
    intro x hx
    obtain ⟨i, hi, rfl⟩ := List.mem_iff_getElem.1 hx
    have := List.not_of_lt_findIdx (xs := es) (p := p) (i := i) (by omega)
    simpa using this

theorem indexMem_ (H : Heap) (v : V) (es : List MR) (g : Nat) (caps : List V) (p : MR → Bool) (hx : Sl 6 mrC H v es) (hl : es.length ≤ 2 ^ 47) (hg : ∀ e ∈ es, Call Tryz.prog g (.agg (mC e.w e.v e.k e.h) :: caps) H (.bool (p e)) H) :
    Call Tryz.prog 107 [v, .fn g caps] H (.int .i64 (idxM es p)) H := by
  refine call_pure fit mixed Tryz.func107 rfl rfl rfl (by kernel_rfl) rfl fun hM => ?_
  obtain ⟨n, hn⟩ : ∃ n, es.length = n := ⟨_, rfl⟩
  have hlen := hx.len T56 rfl
  rw [hn] at hlen
  obtain ⟨k0, hk0⟩ : ∃ k, es.findIdx p = k := ⟨_, rfl⟩
  have hkn : k0 ≤ n := by rw [← hk0, ← hn]; exact List.findIdx_le_length
  have hres : idxM es p = if k0 < n then (k0 : Int) else -1 := by unfold idxM; rw [hk0, hn]
  refine goM ?_
  refine wq_loop (fun c ρ h => ∃ k, k ≤ k0 ∧ c = n - k ∧ h = H ∧ ρ 0 = v ∧ ρ 1 = .fn g caps ∧ ρ 7 = .int .i64 (n : Int) ∧ ρ 8 = .int .i64 (k : Int)) ⟨0, Nat.zero_le _, rfl, rfl, rfl, rfl, rfl, rfl⟩ ?_
  clear hM
  rintro _ ρ h ⟨k, hk, rfl, rfl, h0, h1, h7, h8⟩
  refine goM ?_
  refine cond_go (fun hb => ?_) (fun hb => ?_)
  · have hk' : k < n := by simpa using hb
    clear hb
    obtain ⟨e, he⟩ : ∃ e, es[k]? = some e := ⟨es[k]'(by omega), by simp⟩
    obtain ⟨b, o, hi, hlo, _⟩ := mr_at hx he
    have hw := wrap_succ (n := k) (by omega)
    have c1 := hg e (List.mem_of_getElem? he)
    have hpe : p e = decide (k = k0) := by
      have hkl : k < es.length := by omega
      have hek : es[k] = e := by rw [List.getElem?_eq_getElem hkl] at he; exact Option.some.inj he
      by_cases hkk : k < k0
      · have := List.not_of_lt_findIdx (xs := es) (p := p) (i := k) (by omega)
        rw [hek] at this
        rw [this]; exact (decide_eq_false (by omega)).symm
      · obtain rfl : k = k0 := by omega
        have := List.findIdx_getElem (xs := es) (p := p) (w := by omega)
        rw [decide_eq_true rfl, ← hek]
        simpa [hk0] using this
    rw [hpe] at c1
    clear he hpe hlen
    by_cases hkk : k = k0
    · rw [decide_eq_true hkk] at c1
      rw [if_pos (by omega), ← hkk] at hres
      rw [hres]
      clear hres hk0 hkk hk hkn
      refine goM ?_
      refine l_callG c1 ?_
      refine goM ?_
      exact end_1 (by first | exact .inl rfl | exact .inr rfl) ⟨rfl, List.prefix_refl _⟩
    · rw [decide_eq_false hkk] at c1
      have hk1 : k + 1 ≤ k0 := by omega
      clear hres hk0 hkk
      refine goM ?_
      refine l_callG c1 ?_
      refine goM ?_
      exact ⟨n - (k + 1), by omega, k + 1, hk1, rfl, rfl, by simp [put_app, put_none, *]⟩
  · have hk' : k = n := by have : ¬ k < n := by simpa using hb
                           omega
    clear hb
    rw [if_neg (by omega)] at hres
    rw [hres]
    clear hres hk0
    refine goM ?_
    exact end_1 (by first | exact .inl rfl | exact .inr rfl) ⟨rfl, List.prefix_refl _⟩
theorem containsMem_ (H : Heap) (v : V) (es : List MR) (g : Nat) (caps : List V) (p : MR → Bool) (hx : Sl 6 mrC H v es) (hl : es.length ≤ 2 ^ 47) (hg : ∀ e ∈ es, Call Tryz.prog g (.agg (mC e.w e.v e.k e.h) :: caps) H (.bool (p e)) H) :
    Call Tryz.prog 68 [v, .fn g caps] H (.bool (es.any p)) H := by
  refine call_pure fit mixed Tryz.func68 rfl rfl rfl (by kernel_rfl) rfl fun hM => ?_
  have c1 := indexMem_ H v es g caps p hx hl hg
  have h1 := idxM_any es p
  generalize idxM es p = z at *
  refine goM ?_
  refine l_callG c1 ?_
  refine goM ?_
  exact end_1 (by first | exact .inl rfl | exact .inr rfl) ⟨rfl, List.prefix_refl _⟩
theorem containsEnt_ (H : Heap) (v : V) (es : List Ent) (g : Nat) (caps : List V) (p : Ent → Bool) (hx : Sl 3 entC H v es) (hl : es.length ≤ 2 ^ 47) (hg : ∀ e ∈ es, Call Tryz.prog g (.agg (entV e) :: caps) H (.bool (p e)) H) :
    Call Tryz.prog 110 [v, .fn g caps] H (.bool (es.any p)) H := by
  refine call_pure fit mixed Tryz.func110 rfl rfl rfl (by kernel_rfl) rfl fun hM => ?_
  have c1 := indexEnt_ H v es g caps p hx hl hg
  have h1 : decide (idxR es p ≥ 0) = es.any p := idxM_any es p
  generalize idxR es p = z at *
  refine goM ?_
  refine l_callG c1 ?_
  refine goM ?_
  exact end_1 (by first | exact .inl rfl | exact .inr rfl) ⟨rfl, List.prefix_refl _⟩

theorem memFitsL_ (H : Heap) (cb co kb ko : Nat) (c : Cfg) (w v : V) (k : Chk) (l1 : loadV T 23 H cb (co + 1) = some (.agg [.int .i64 c.i, .int .i64 c.h])) (l0 : loadV T 34 H kb ko = some (.agg (kC w v k))) (l2 : loadV T 30 H kb ko = some w) (hk : KAt H w v k) (hf : k.Fit) :
    Call Tryz.prog 67 [.ptr cb co, .ptr kb ko] H (.bool (kFits c k)) H := by
  refine call_pure fit mixed Tryz.func67 rfl rfl rfl (by kernel_rfl) rfl fun hM => ?_
  have f1 := hf.ws
  have f2 := hf.vs
  have c1 := chkMay_ H w v k.ws k.vs k.r k.m k.t hk.ws hk.vs (by omega) (by omega)
  have c2 := shapeFits_ H c.i c.h w k.ws hk.ws (by omega)
  unfold kFits memFits
  obtain ⟨r1, e1⟩ : ∃ q, chkMay k.ws k.vs k.r k.m k.t = q := ⟨_, rfl⟩
  rw [e1] at c1 ⊢
  clear e1 hk hf f1 f2
  cases r1
  · refine goM ?_
    refine d_call0G c1 ?_
    refine goM ?_
    exact end_1 (by first | exact .inl rfl | exact .inr rfl) ⟨rfl, hM.pre⟩
  · refine goM ?_
    refine d_call0G c1 ?_
    refine goM ?_
    refine d_call0G c2 ?_
    refine goM ?_
    exact end_1 (by first | exact .inl rfl | exact .inr rfl) ⟨rfl, hM.pre⟩

/-- the program's odd -/
theorem odd_ (H : Heap) (b cb co : Nat) (c : Cfg) (x : MR) (hb : H[b]? = some (.row [.ptr cb co] true)) (l1 : loadV T 23 H cb (co + 1) = some (.agg [.int .i64 c.i, .int .i64 c.h])) (l5 : loadV T 3 H cb (co + 5) = some (.int .i64 c.total)) (hk : KAt H x.w x.v x.k) (hf : x.k.Fit) :
    Call Tryz.prog 66 [.agg (mC x.w x.v x.k x.h), .ptr b 0] H (.bool (!(memOk c x.val))) H := by
  have s1 := hk.ws.cells
  have s2 := hk.vs.cells
  have hl0 : loadV T 87 H b 0 = some (.ptr cb co) := ld_cell T87 rfl hb rfl
  refine call_pure fit mixed Tryz.func66 rfl rfl rfl (by kernel_rfl) rfl fun hM => ?_
  refine wq_seq (wq_line ?_)
  refine l_boxM T48 fun b1 H1 hM => ?_
  have c1 := memFitsL_ H1 cb co b1 0 c x.w x.v x.k (loadV_pre hM.pre l1) (hM.ldA .here T34 rfl (by show 0 + 5 ≤ 6; decide) rfl) (hM.ld .here T30 rfl rfl) (hk.mono hM.pre) hf
  have hl := loadV_pre hM.pre hl0
  have l5' := loadV_pre hM.pre l5
  clear hl0 l1 l5 hb hk hf
  unfold memOk MR.val
  simp only
  obtain ⟨q, hq⟩ : ∃ q, kFits c x.k = q := ⟨_, rfl⟩
  rw [hq] at c1 ⊢
  have hd : (!decide (x.k.t ≤ c.total)) = decide (x.k.t > c.total) := by
    by_cases h : x.k.t ≤ c.total
    · rw [decide_eq_true h, decide_eq_false (by omega)]; rfl
    · rw [decide_eq_false h, decide_eq_true (by omega)]; rfl
  clear hq
  cases q
  · refine goM ?_
    refine d_call0G c1 ?_
    refine goM ?_
    exact end_1 (by first | exact .inl rfl | exact .inr rfl) ⟨rfl, hM.pre⟩
  · rw [Bool.true_and, hd]
    clear hd
    refine goM ?_
    refine d_call0G c1 ?_
    refine goM ?_
    exact end_1 (by first | exact .inl rfl | exact .inr rfl) ⟨rfl, hM.pre⟩
end Go.Proofs.YtengdmagaeckoaaGreat.VM

/- Layer 22: the program's heads, May, All, Scores. -/
namespace Go.Proofs.YtengdmagaeckoaaGreat.VM
open Go
set_option linter.unusedVariables false
set_option linter.unusedSimpArgs false
attribute [local irreducible] wq wqL wqD wqE wqO Th Bk EndR
set_option maxHeartbeats 8000000

section maps
variable {P : Program} {T : Tab}
theorem s_makeMap {ρ : Rho} {H : Heap} {t : Nat} : Does T ρ H (.makeMap t none) (.map H.length) (H ++ [.mp []]) := does_mem rfl rfl rfl
theorem s_lookup {ρ : Rho} {H : Heap} {t : Nat} {i : TI} {x ix : Operand} {b : Nat} {k : Int} {es : List (Int × Int)} (hT : T t = some i) (hk : i.k = .map) (hx : ρ.ev x = some (.map b)) (hix : ρ.ev ix = some (.int .i64 k)) (hb : H[b]? = some (.mp es)) : Does T ρ H (.lookup t x ix false) (.int .i64 ((mapGet es k).getD 0)) H := by
  obtain ⟨kk, size, bytes, zero, cmp⟩ := i
  simp only at hk
  subst hk
  exact does_mem rfl rfl (by simp only [memOp, hT, hx, hix, hb])
theorem s_mapUpdate {ρ : Rho} {H : Heap} {t : Nat} {i : TI} {x ix y : Operand} {b : Nat} {k v : Int} {es : List (Int × Int)} (hT : T t = some i) (hk : i.k = .map) (hx : ρ.ev x = some (.map b)) (hix : ρ.ev ix = some (.int .i64 k)) (hy : ρ.ev y = some (.int .i64 v)) (hb : H[b]? = some (.mp es)) : Does T ρ H (.mapUpdate t x ix y) V.undef (H.set b (.mp (mapPut es k v))) := by
  obtain ⟨kk, size, bytes, zero, cmp⟩ := i
  simp only at hk
  subst hk
  exact does_mem rfl rfl (by simp only [memOp, hT, hx, hix, hy, hb])
end maps
def mapF (b : Nat) (es : List (Int × Int)) : Fact where
  S c := c = b
  p H := H[b]? = some (.mp es)
  st H H' h hf := (hf b rfl).trans h
  lt H c h hc := by subst hc; exact (List.getElem?_eq_some_iff.1 h).1
theorem Mem.mapNew {B H : Heap} {L : List Res} (h : Mem B H L) : Mem B (H ++ [.mp []]) (.ro (mapF H.length []) :: L) := by
  refine h.call (L' := [.ro (mapF H.length [])]) ⟨List.prefix_append _ _, fun r hr => ?_, fun r hr c hc => ?_, by simp⟩
  · rcases List.mem_singleton.1 hr with rfl
    show (H ++ [Blk.mp []])[H.length]? = some (.mp [])
    simp
  · rcases List.mem_singleton.1 hr with rfl
    have : c = H.length := hc
    omega
theorem Mem.mapPut {B H : Heap} {L : List Res} {f : Res → List Res} {b : Nat} {es : List (Int × Int)} (h : Mem B H L) (hh : Has L (.ro (mapF b es)) f) (k v : Int) : Mem B (H.set b (.mp (VM.mapPut es k v))) (f (.ro (mapF b (VM.mapPut es k v)))) := by
  have hg : H[b]? = some (.mp es) := h.fact hh
  have hb := (List.getElem?_eq_some_iff.1 hg).1
  refine h.turn hh (by simp) (fun c hc hne => by rw [List.getElem?_set_ne (fun e => hne e.symm)]) ?_ fun c hc => .inl hc
  show (H.set b (.mp (VM.mapPut es k v)))[b]? = some (.mp (VM.mapPut es k v))
  rw [List.getElem?_set_self hb]
theorem get_put (k v j : Int) : ∀ es : List (Int × Int), (mapGet (mapPut es k v) j).getD 0 = if j = k then v else (mapGet es j).getD 0
  | [] => by
    unfold mapPut mapGet
    by_cases h : j = k
    · subst h; simp
    · rw [if_neg h]; simp [mapGet, Ne.symm h]
  | (a, b) :: r => by
    have ih := get_put k v j r
    unfold mapPut
    by_cases ha : a = k
    · subst ha
      rw [if_pos rfl]
      by_cases h : j = a
      · subst h; simp [mapGet]
      · simp [mapGet, h, Ne.symm h]
    · rw [if_neg ha]
      by_cases h : a = j
      · subst h; simp [mapGet, ha]
      · simp only [mapGet, if_neg h]
        exact ih

theorem heads1_ (H : Heap) (b mb : Nat) (m : List (Int × Int)) (e : Ent) (hb : H[b]? = some (.row [.map mb] true)) (hm : H[mb]? = some (.mp m)) : Call Tryz.prog 111 [.agg (entV e), .ptr b 0] H (.bool (e.n != (mapGet m e.id).getD 0)) H := by
  have hl0 : loadV T 167 H b 0 = some (.map mb) := ld_cell T167 rfl hb rfl
  refine call_pure fit mixed Tryz.func111 rfl rfl rfl (by kernel_rfl) rfl fun hM => ?_
  refine wq_seq (wq_line ?_)
  refine l_boxM T76 fun b1 H1 hM => ?_
  have hl := loadV_pre hM.pre hl0
  have hm1 := (prefix_get hM.pre (List.getElem?_eq_some_iff.1 hm).1).trans hm
  clear hl0 hb hm
  refine goM ?_
  refine l_pl ?_
  refine l_step (s_lookup T167 rfl eLk eLk hm1) ?_
  refine goM ?_
  exact end_1 (by first | exact .inl rfl | exact .inr rfl) ⟨rfl, hM.pre⟩

theorem heads_ (H : Heap) (b : Nat) (s : St) (rv mv ev sv : V) (xs : List MR) (l9 : loadV T 56 H b 9 = some mv) (l11 : loadV T 57 H b 11 = some sv) (ha : StAt H rv mv ev sv xs s) (hst : s.st.length ≤ 2 ^ 47) (h8 : xs.length ≤ 8) (hk : ∀ x ∈ xs, kFits s.c x.k = true) :
    Call Tryz.prog 70 [.ptr b 0] H (.bool (heads s)) H := by
  refine call_pure fit mixed Tryz.func70 rfl rfl rfl (by kernel_rfl) rfl fun hM => ?_
  obtain ⟨n, hn⟩ : ∃ n, xs.length = n := ⟨_, rfl⟩
  have hlen := ha.ms.len T56 rfl
  rw [hn] at hlen
  have hsl : s.ms.length = n := by rw [← ha.val, List.length_map, hn]
  refine goM ?_
  refine l_pl ?_
  refine l_step s_makeMap ?_
  replace hM := hM.mapNew
  generalize hmb : H.length = mb at *
  generalize hH1 : H ++ [Blk.mp []] = H1 at *
  refine l_newM (cs := [.nilm]) T167 rfl fun b3 H2 hM => ?_
  refine l_putM T167 fun H3 hM => ?_
  have l9'' := loadV_pre hM.pre l9
  refine goM ?_
  refine wq_loop (fun cc ρ h => ∃ (k : Nat) (m : List (Int × Int)), k ≤ n ∧ cc = n - k ∧ (∀ (j : Nat) x, j < k → xs[j]? = some x → headOk s.st x.val = true) ∧ (∀ id, (mapGet m id).getD 0 = (countOf (s.ms.take k) id : Int)) ∧ Mem H h [.box b3 [.map mb], .ro (mapF mb m)] ∧ ρ 0 = .ptr b 0 ∧ ρ 3 = .ptr b3 0 ∧ ρ 14 = mv ∧ ρ 15 = .int .i64 (n : Int) ∧ ρ 16 = .int .i64 (k : Int)) ⟨0, [], Nat.zero_le _, rfl, fun j x hj => by omega, fun id => rfl, hM, by simp [put_app, put_none, rho0_app, *]⟩ ?_
  clear l9'' l9 hH1
  repeat clear hM
  rintro _ ρ h ⟨k, m, hkn, rfl, hok, hcnt, hM, g0, g3, g14, g15, g16⟩
  refine goM ?_
  refine cond_go (fun hb => ?_) (fun hb => ?_)
  · have hk' : k < n := by simpa using hb
    clear hb
    obtain ⟨x, hx⟩ : ∃ x, xs[k]? = some x := ⟨xs[k]'(by omega), by simp⟩
    have hxm := List.mem_of_getElem? hx
    have hka := ha.ks x hxm
    have hkf := hk x hxm
    have hchk : chkMay x.k.ws x.k.vs x.k.r x.k.m x.k.t = true := by
      unfold kFits memFits at hkf
      rw [Bool.and_eq_true] at hkf
      exact hkf.1
    have hmx : s.ms[k]? = some x.val := by rw [← ha.val, List.getElem?_map, hx]; rfl
    obtain ⟨bo, o, hi, lo, _, _⟩ := mr_at (ha.ms.mono hM.pre) hx
    have s1 := hka.ws.cells
    have s2 := hka.vs.cells
    have hw := wrap_succ (n := k) (by omega)
    have hcs := fun id => hcnt id
    have hsnoc : ∀ id, countOf (s.ms.take (k + 1)) id = countOf (s.ms.take k) id + if x.h = id then 1 else 0 := fun id => by
      rw [List.take_add_one, hmx]
      exact countOf_snoc _ _ _
    have hle := countOf_le (s.ms.take k) x.h
    rw [List.length_take] at hle
    have hho : headOk s.st x.val = ((getS s.st x.h).2 && txEq (getS s.st x.h).1 (textK x.k)) := rfl
    have hbad : headOk s.st x.val = false → heads s = false := fun h => by
      unfold heads
      have : s.ms.all (headOk s.st) = false := by
        rw [List.all_eq_false]
        exact ⟨x.val, List.mem_of_getElem? hmx, by rw [h]; decide⟩
      rw [this, Bool.false_and]
    have hgt := get15_ h sv s.st x.h (ha.st.mono hM.pre) hst
    clear hmx hkf hxm
    refine goM ?_
    refine l_newM (cs := zeroMem) T48 rfl fun b5 H4 hM => ?_
    refine l_putM T48 fun H5 hM => ?_
    refine goM ?_
    have c1 := checkPut_ H5 x.w x.v x.k.ws x.k.vs x.k.r x.k.m x.k.t (hka.mono hM.pre).ws (hka.mono hM.pre).vs hchk
    refine l_callG c1 ?_
    clear c1 hgt
    have htxt : strOf (putL x.k.ws x.k.vs x.k.r x.k.m x.k.t) = textK x.k := rfl
    rw [htxt]
    have hgt := get15_ H5 sv s.st x.h (ha.st.mono hM.pre) hst
    have l11' := loadV_pre hM.pre l11
    have htd := tx_def (getS s.st x.h).1 (textK x.k)
    generalize getS s.st x.h = g at *
    generalize textK x.k = t at *
    obtain ⟨gt, gb⟩ := g
    simp only at hgt htd hho
    obtain ⟨q, hq⟩ : ∃ q, txEq gt t = q := ⟨_, rfl⟩
    rw [hq] at htd hho
    clear hq htxt
    cases gb with
    | false =>
      rw [hbad hho]
      clear hbad hho hcnt hcs hsnoc hok hka hchk
      refine goM ?_
      refine d_call0G hgt ?_
      refine goM ?_
      exact end_1 (by first | exact .inl rfl | exact .inr rfl) ⟨rfl, hM.pre⟩
    | true =>
      cases q with
      | false =>
        rw [hbad hho]
        clear hbad hho hcnt hcs hsnoc hok hka hchk
        refine goM ?_
        refine d_call0G hgt ?_
        refine goM ?_
        exact end_1 (by first | exact .inl rfl | exact .inr rfl) ⟨rfl, hM.pre⟩
      | true =>
        have hw2 : IntKind.i64.wrap ((mapGet m x.h).getD 0 + 1) = (mapGet m x.h).getD 0 + 1 := by
          rw [hcnt]
          exact wrap_i64 (by omega) (by omega)
        have hcx : Held (∀ id, (mapGet m id).getD 0 = (countOf (s.ms.take k) id : Int)) := hcnt
        clear hbad hcnt hcs
        refine goM ?_
        refine d_call0G hgt ?_
        refine goM ?_
        have hmp : H5[mb]? = some (.mp m) := hM.fact (F := mapF mb m) (by (repeat (first | exact Has.here | apply Has.there)))
        refine l_pl ?_
        refine l_step (s_lookup T167 rfl eLk eLk hmp) ?_
        refine goM ?_
        refine l_pl ?_
        refine l_step (s_mapUpdate T167 rfl eLk eLk eLk hmp) ?_
        have hM2 := hM.mapPut (b := mb) (es := m) (by (repeat (first | exact Has.here | apply Has.there))) x.h ((mapGet m x.h).getD 0 + 1)
        clear hM hmp
        generalize H5.set mb (.mp (VM.mapPut m x.h ((mapGet m x.h).getD 0 + 1))) = H6 at *
        refine goM ?_
        refine ⟨n - (k + 1), by omega, k + 1, _, hk', rfl, fun j y hj hy => ?_, fun id => ?_, hM2.sub (by (repeat (first | exact List.Sublist.slnil | exact List.Sublist.refl _ | refine List.Sublist.cons_cons _ ?_ | refine List.Sublist.cons _ ?_))), by simp [put_app, put_none, *]⟩
        · by_cases hjk : j < k
          · exact hok j y hjk hy
          · obtain rfl : j = k := by omega
            rw [hx] at hy
            cases hy
            exact hho
        · have hcnt : ∀ id, (mapGet m id).getD 0 = (countOf (s.ms.take k) id : Int) := hcx
          rw [get_put, hsnoc, hcnt, hcnt]
          by_cases hid : id = x.h
          · subst hid; simp
          · rw [if_neg hid, if_neg (Ne.symm hid)]; simp
  · have hk' : k = n := by have : ¬ k < n := by simpa using hb
                           omega
    subst hk'
    clear hb
    have hall : s.ms.all (headOk s.st) = true := by
      rw [List.all_eq_true]
      intro y hy
      rw [← ha.val, List.mem_map] at hy
      obtain ⟨x, hx, rfl⟩ := hy
      obtain ⟨j, hj⟩ := List.mem_iff_getElem?.1 hx
      exact hok j x (by have := (List.getElem?_eq_some_iff.1 hj).1; omega) hj
    rw [List.take_of_length_le (by omega)] at hcnt
    have hany : s.st.any (fun e => e.n != (mapGet m e.id).getD 0) = !(s.st.all (entHeld s.ms)) := by
      rw [List.not_all_eq_any_not]
      congr 1
      funext e
      unfold entHeld
      rw [hcnt]
      by_cases h : e.n = (countOf s.ms e.id : Int)
      · rw [decide_eq_true h, h]; simp
      · rw [decide_eq_false h]; simp [h]
    have c1 := containsEnt_ h sv s.st 111 [.ptr b3 0] (fun e => e.n != (mapGet m e.id).getD 0) (ha.st.mono hM.pre) hst (fun e _ => heads1_ h b3 mb m e (hM.row (by (repeat (first | exact Has.here | apply Has.there)))) (hM.fact (F := mapF mb m) (by (repeat (first | exact Has.here | apply Has.there)))))
    rw [hany] at c1
    have l11' := loadV_pre hM.pre l11
    have hres : heads s = s.st.all (entHeld s.ms) := by unfold heads; rw [hall, Bool.true_and]
    rw [hres]
    generalize s.st.all (entHeld s.ms) = z at *
    clear hall hany hcnt hok hk ha l11
    refine goM ?_
    refine l_callG c1 ?_
    refine goM ?_
    cases z
    all_goals exact end_1 (by first | exact .inl rfl | exact .inr rfl) ⟨rfl, hM.pre⟩
end Go.Proofs.YtengdmagaeckoaaGreat.VM

/- Layer 22: the program's May, All, Scores. -/
namespace Go.Proofs.YtengdmagaeckoaaGreat.VM
open Go
set_option linter.unusedVariables false
set_option linter.unusedSimpArgs false
attribute [local irreducible] wq wqL wqD wqE wqO Th Bk EndR
set_option maxHeartbeats 8000000

theorem St.Fit.kx {s : St} (hf : s.Fit) {H : Heap} {rv mv ev sv : V} {xs : List MR} (ha : StAt H rv mv ev sv xs s) : ∀ x ∈ xs, x.k.Fit := fun x hx => hf.k x.val (by rw [← ha.val]; exact List.mem_map_of_mem hx)
theorem StAt.len {H : Heap} {rv mv ev sv : V} {xs : List MR} {s : St} (ha : StAt H rv mv ev sv xs s) : xs.length = s.ms.length := by rw [← ha.val, List.length_map]
theorem odd_any {H : Heap} {rv mv ev sv : V} {xs : List MR} {s : St} (ha : StAt H rv mv ev sv xs s) : xs.any (fun x => !(memOk s.c x.val)) = !(s.ms.all (memOk s.c)) := by
  rw [← ha.val, List.all_map, List.not_all_eq_any_not]; rfl
theorem stateMay_eq (s : St) : stateMay s = (cfgMay s.c && decide ((s.ms.length : Int) = s.c.m) && s.ms.all (memOk s.c) && eventsMay s.es s.c.m && storeMay s.st && heads s) := rfl

theorem controlMay_ (H : Heap) (s : St) (rv mv ev sv : V) (xs : List MR) (ha : StAt H rv mv ev sv xs s) (hf : s.Fit) :
    Call Tryz.prog 30 [.agg (stC s.c rv mv ev sv)] H (.bool (stateMay s)) H := by
  have l1 := hf.c.rows
  have l2 := hf.c.row
  have l3 := hf.ms
  have l4 := hf.es
  have l5 := hf.st
  have s1 : rv.cells = [rv] ∧ rv.isTup = false := by obtain ⟨_, h, _⟩ := ha.rows; exact h.cells
  have s2 := ha.ms.cells
  have s3 := ha.es.cells
  have s4 := ha.st.cells
  have hxl := ha.len
  have hkx := hf.kx ha
  have hlen := ha.ms.len T56 rfl
  rw [hxl] at hlen
  refine call_pure fit mixed Tryz.func30 rfl rfl rfl (by kernel_rfl) rfl fun hM => ?_
  refine wq_seq (wq_line ?_)
  refine l_boxM T59 fun b1 H1 hM => ?_
  refine goM ?_
  refine l_newM (cs := [.nilp]) T87 rfl fun b3 H2 hM => ?_
  refine l_putM T87 fun H3 hM => ?_
  have c1 := confMay_ H3 s.c rv (ha.rows.mono hM.pre) (by omega) (fun r hr => by have := l2 r hr; omega)
  have c2 := containsMem_ H3 mv xs 66 [.ptr b3 0] (fun x => !(memOk s.c x.val)) (ha.ms.mono hM.pre) (by omega) (fun x hx => odd_ H3 b3 b1 0 s.c x (hM.row (by (repeat (first | exact Has.here | apply Has.there)))) (hM.ldA (b := b1) (cs := stC s.c rv mv ev sv) (by (repeat (first | exact Has.here | apply Has.there))) T23 rfl (by show 0 + 1 + 2 ≤ 12; decide) rfl) (hM.ld (b := b1) (cs := stC s.c rv mv ev sv) (by (repeat (first | exact Has.here | apply Has.there))) T3 rfl rfl) ((ha.ks x hx).mono hM.pre) (hkx x hx))
  rw [odd_any ha] at c2
  have c3 := lineageMay H3 ev s.es s.c.m (ha.es.mono hM.pre) (by omega)
  have c4 := storeMay_ H3 sv s.st (ha.st.mono hM.pre) (by omega)
  have c5 : cfgMay s.c = true → ((s.ms.length : Int) = s.c.m) → s.ms.all (memOk s.c) = true → Call Tryz.prog 70 [.ptr b1 0] H3 (.bool (heads s)) H3 := fun h1 h2 h3 => by
    obtain ⟨hm2, _⟩ := cfgMay_split h1
    refine heads_ H3 b1 s rv mv ev sv xs (hM.ld (b := b1) (cs := stC s.c rv mv ev sv) (by (repeat (first | exact Has.here | apply Has.there))) T56 rfl rfl) (hM.ld (b := b1) (cs := stC s.c rv mv ev sv) (by (repeat (first | exact Has.here | apply Has.there))) T57 rfl rfl) (ha.mono hM.pre) (by omega) (by omega) fun x hx => ?_
    have := List.all_eq_true.1 h3 x.val (by rw [← ha.val]; exact List.mem_map_of_mem hx)
    unfold memOk MR.val at this
    rw [Bool.and_eq_true] at this
    exact this.1
  rw [stateMay_eq]
  obtain ⟨q1, e1⟩ : ∃ q, cfgMay s.c = q := ⟨_, rfl⟩
  obtain ⟨q2, e2⟩ : ∃ q, decide ((s.ms.length : Int) = s.c.m) = q := ⟨_, rfl⟩
  obtain ⟨q3, e3⟩ : ∃ q, s.ms.all (memOk s.c) = q := ⟨_, rfl⟩
  obtain ⟨q4, e4⟩ : ∃ q, eventsMay s.es s.c.m = q := ⟨_, rfl⟩
  obtain ⟨q5, e5⟩ : ∃ q, storeMay s.st = q := ⟨_, rfl⟩
  have d2 : ((s.ms.length : Int) == s.c.m) = q2 := by rw [← e2]; by_cases h : (s.ms.length : Int) = s.c.m <;> simp [h]
  have c5' : q1 = true → q2 = true → q3 = true → Call Tryz.prog 70 [.ptr b1 0] H3 (.bool (heads s)) H3 := fun h1 h2 h3 => c5 (e1.trans h1) (of_decide_eq_true (e2.trans h2)) (e3.trans h3)
  rw [e1, e2, e3, e4, e5]
  rw [e1] at c1
  rw [e3] at c2
  rw [e4] at c3
  rw [e5] at c4
  generalize heads s = hd at *
  clear c5 e1 e2 e3 e4 e5 ha hf hkx l1 l2 l3 l4 l5
  cases q1 with
  | false =>
    clear c5'
    refine goM ?_
    refine d_call0G c1 ?_
    refine goM ?_
    exact end_1 (by first | exact .inl rfl | exact .inr rfl) ⟨rfl, hM.pre⟩
  | true =>
  cases q2 with
  | false =>
    clear c5'
    refine goM ?_
    refine d_call0G c1 ?_
    refine goM ?_
    exact end_1 (by first | exact .inl rfl | exact .inr rfl) ⟨rfl, hM.pre⟩
  | true =>
  cases q3 with
  | false =>
    clear c5'
    refine goM ?_
    refine d_call0G c1 ?_
    refine goM ?_
    refine d_call0G c2 ?_
    refine goM ?_
    exact end_1 (by first | exact .inl rfl | exact .inr rfl) ⟨rfl, hM.pre⟩
  | true =>
  have c5 := c5' rfl rfl rfl
  clear c5'
  cases q4 with
  | false =>
    refine goM ?_
    refine d_call0G c1 ?_
    refine goM ?_
    refine d_call0G c2 ?_
    refine goM ?_
    refine d_call0G c3 ?_
    refine goM ?_
    exact end_1 (by first | exact .inl rfl | exact .inr rfl) ⟨rfl, hM.pre⟩
  | true =>
  cases q5 with
  | false =>
    refine goM ?_
    refine d_call0G c1 ?_
    refine goM ?_
    refine d_call0G c2 ?_
    refine goM ?_
    refine d_call0G c3 ?_
    refine goM ?_
    refine d_call0G c4 ?_
    refine goM ?_
    exact end_1 (by first | exact .inl rfl | exact .inr rfl) ⟨rfl, hM.pre⟩
  | true =>
    refine goM ?_
    refine d_call0G c1 ?_
    refine goM ?_
    refine d_call0G c2 ?_
    refine goM ?_
    refine d_call0G c3 ?_
    refine goM ?_
    refine d_call0G c4 ?_
    refine goM ?_
    refine d_call0G c5 ?_
    refine goM ?_
    exact end_1 (by first | exact .inl rfl | exact .inr rfl) ⟨rfl, hM.pre⟩

theorem all_ (H : Heap) (b : Nat) (s : St) (rv mv ev sv : V) (xs : List MR) (l0 : loadV T 26 H b 0 = some (.agg (cfgC s.c rv))) (l9 : loadV T 56 H b 9 = some mv) (ha : StAt H rv mv ev sv xs s) (hf : s.Fit) :
    ∃ w H', Call Tryz.prog 63 [.ptr b 0] H w H' ∧ Mem H H' [.own 1 intC w (scoreL s)] := by
  refine call_mem fit mixed Tryz.func63 rfl rfl rfl (by kernel_rfl) fun hM => ?_
  obtain ⟨n, hn⟩ : ∃ n, xs.length = n := ⟨_, rfl⟩
  have hlen := ha.ms.len T56 rfl
  rw [hn] at hlen
  have hkx := hf.kx ha
  have hnb : n * 80 ≤ 140737488351232 := by have := hf.ms; rw [← hn, ha.len]; exact this
  have hsc : scoreL s = xs.map fun x => (scoreR s.c x.k).1 := by unfold scoreL; rw [← ha.val, List.map_map]; rfl
  rw [hsc]
  clear hsc
  refine goM ?_
  refine wq_loop (fun cc ρ h => ∃ (k : Nat) (u : V), k ≤ n ∧ cc = n - k ∧ Mem H h [.own 1 intC u ((xs.take k).map fun x => (scoreR s.c x.k).1)] ∧ ρ 0 = .ptr b 0 ∧ ρ 3 = u ∧ ρ 11 = mv ∧ ρ 12 = .int .i64 (n : Int) ∧ ρ 13 = .int .i64 (k : Int)) ⟨0, .nils, Nat.zero_le _, rfl, hM.nil 1 intC, by simp [put_app, put_none, rho0_app, *]⟩ ?_
  clear hM
  rintro _ ρ h ⟨k, u, hk, rfl, hM, g0, g3, g11, g12, g13⟩
  have t1 := (hM.sl .here).cells
  refine goM ?_
  refine cond_go (fun hb => ?_) (fun hb => ?_)
  · have hk' : k < n := by simpa using hb
    clear hb
    obtain ⟨x, hx⟩ : ∃ x, xs[k]? = some x := ⟨xs[k]'(by omega), by simp⟩
    have hxm := List.mem_of_getElem? hx
    have hka := ha.ks x hxm
    obtain ⟨bo, o, hi, lo, _, _⟩ := mr_at (ha.ms.mono hM.pre) hx
    have s1 := hka.ws.cells
    have s2 := hka.vs.cells
    have hw := wrap_succ (n := k) (by omega)
    have htk : (xs.take (k + 1)).map (fun x => (scoreR s.c x.k).1) = (xs.take k).map (fun x => (scoreR s.c x.k).1) ++ [(scoreR s.c x.k).1] := by rw [List.take_add_one, hx]; simp
    have hkf := hkx x hxm
    clear hx hxm
    refine goM ?_
    refine l_newM (cs := zeroMem) T48 rfl fun b5 H4 hM => ?_
    refine l_putM T48 fun H5 hM => ?_
    have l0' := loadV_pre hM.pre l0
    refine goM ?_
    have c1 := member_Score H5 s.c rv x.w x.v x.k x.h (ha.rows.mono hM.pre) (hka.mono hM.pre) hf.c hkf
    refine d_call0G c1 ?_
    refine goM ?_
    refine l_sliceM intC [(scoreR s.c x.k).1] [.int .i64 (scoreR s.c x.k).1] T30 rfl T3 rfl (cells_ints [(scoreR s.c x.k).1]) (by decide) fun e1 H6 hM => ?_
    refine goM ?_
    refine l_appM (hM.sl .here) (xs := (xs.take k).map fun x => (scoreR s.c x.k).1) (hh := .there (.there .here)) (hb := by simp only [List.length_map, List.length_take, List.length_cons, List.length_nil]; rw [Nat.min_eq_left (by omega)]; show (k + 1) * 8 ≤ _ ∧ k + 1 ≤ _; omega) fun u' H7 hM => ?_
    have t2 := (hM.sl (v := u') (xs := (xs.take k).map (fun x => (scoreR s.c x.k).1) ++ [(scoreR s.c x.k).1]) (by (repeat (first | exact Has.here | apply Has.there)))).cells
    refine goM ?_
    refine ⟨n - (k + 1), by omega, k + 1, u', hk', rfl, ?_, by simp [put_app, put_none, *]⟩
    rw [htk]
    exact hM.subG
  · have hk' : k = n := by have : ¬ k < n := by simpa using hb
                           omega
    subst hk'
    clear hb
    rw [List.take_of_length_le (by omega)] at hM
    refine goM ?_
    exact end_1 (by first | exact .inl rfl | exact .inr rfl) hM

theorem controlScores_ (H : Heap) (s : St) (rv mv ev sv : V) (xs : List MR) (ha : StAt H rv mv ev sv xs s) (hf : s.Fit) :
    ∃ w H', Call Tryz.prog 26 [.agg (stC s.c rv mv ev sv)] H w H' ∧ ∃ u, w = .tup [u, .int .i64 (scoresR s).2] ∧ Mem H H' [.own 1 intC u (scoresR s).1] := by
  have s1 : rv.cells = [rv] ∧ rv.isTup = false := by obtain ⟨_, h, _⟩ := ha.rows; exact h.cells
  have s2 := ha.ms.cells
  have s3 := ha.es.cells
  have s4 := ha.st.cells
  refine call_mem fit mixed Tryz.func26 rfl rfl rfl (by kernel_rfl) fun hM => ?_
  refine wq_seq (wq_line ?_)
  refine l_boxM T59 fun b1 H1 hM => ?_
  have c1 := controlMay_ H1 s rv mv ev sv xs (ha.mono hM.pre) hf
  unfold scoresR
  obtain ⟨q, hq⟩ : ∃ q, stateMay s = q := ⟨_, rfl⟩
  rw [hq] at c1 ⊢
  cases q with
  | false =>
    rw [if_neg (by decide)]
    refine goM ?_
    refine l_callG c1 ?_
    refine goM ?_
    exact end_2 (by first | exact .inl rfl | exact .inr rfl) ⟨.nils, rfl, (hM.sub (L' := []) (by (repeat (first | exact List.Sublist.slnil | exact List.Sublist.refl _ | refine List.Sublist.cons_cons _ ?_ | refine List.Sublist.cons _ ?_)))).nil 1 intC⟩
  | true =>
    rw [if_pos rfl]
    obtain ⟨u, H2, c2, m2⟩ := all_ H1 b1 s rv mv ev sv xs (hM.ldA .here T26 rfl (by show 0 + 9 ≤ 12; decide) rfl) (hM.ld .here T56 rfl rfl) (ha.mono hM.pre) hf
    have s5 := (m2.sl .here).cells
    refine goM ?_
    refine l_callG c1 ?_
    refine goM ?_
    refine l_callG c2 ?_
    replace hM := hM.call1 m2
    refine goM ?_
    exact end_2 (by first | exact .inl rfl | exact .inr rfl) ⟨u, rfl, hM.subG⟩
end Go.Proofs.YtengdmagaeckoaaGreat.VM

/- Layer 18: the document's events that may be (LinB, LinC). -/
namespace Go.Proofs.YtengdmagaeckoaaGreat.VM
open Go
set_option linter.unusedVariables false
set_option linter.unusedSimpArgs false
attribute [local irreducible] wq wqL wqD wqE wqO Th Bk EndR
set_option maxHeartbeats 8000000

theorem exploredRef (H : Heap) (v : V) (es : List Ev) (m : Int) (hes : Sl 6 evC H v es) (hl : es.length ≤ 2 ^ 47) : Call Tryz.prog 57 [v, .int .i64 m] H (.bool (explored es m)) H := by
  refine call_plain fit mixed Tryz.func57 rfl rfl rfl (by kernel_rfl) rfl ?_
  have hlen := hes.len T27 rfl
  have hw0 : IntKind.i64.wrap ((es.length : Int) - 1) = (es.length : Int) - 1 := wrap_i64 (by omega) (by omega)
  refine goW ?_
  refine wq_loop (fun c ρ h => c ≤ es.length ∧ h = H ∧ explored es m = explored (es.take c) m ∧ ρ 0 = v ∧ ρ 1 = .int .i64 m ∧ ρ 5 = .int .i64 ((c : Int) - 1)) (m := es.length) ⟨Nat.le_refl _, rfl, by simp, rfl, rfl, by simp [put_app, put_none, *]⟩ ?_
  rintro c ρ h ⟨hc, rfl, hsame, h0, h1, h5⟩
  refine goW ?_
  refine cond_go (fun hb => ?_) (fun hb => ?_)
  · have hk' : 0 < c := by have : (0 : Int) ≤ (c : Int) - 1 := by simpa using hb
                           omega
    obtain ⟨k, rfl⟩ : ∃ k, c = k + 1 := ⟨c - 1, by omega⟩
    replace h5 : ρ 5 = .int .i64 (k : Int) := by rw [h5]; congr 1; omega
    obtain ⟨e, he⟩ : ∃ e, es[k]? = some e := ⟨es[k]'(by omega), by simp⟩
    obtain ⟨b, o, cs, hi, rfl, _, hlo, hlc⟩ := hes.get T27 rfl T78 rfl he
    have ho := loadV_one T3 rfl (hlc 1 _ rfl)
    have ho0 : loadV T 3 h b o = some (.int .i64 e.kind) := loadV_one T3 rfl (hlc 0 _ rfl)
    have hw : IntKind.i64.wrap ((k : Int) - 1) = (k : Int) - 1 := wrap_i64 (by omega) (by omega)
    rw [explored_succ he] at hsame
    refine goW ?_
    refine cond_go (fun hc => ?_) (fun hc => ?_)
    all_goals simp at hc
    · refine goW ?_
      refine end_finG ?_; simp [put_app, put_none, *]
    · refine goW ?_
      refine ⟨k, by omega, by omega, rfl, by rw [hsame, if_neg hc], ?_⟩
      simp [put_app, put_none, *]
  · have hk' : c = 0 := by have : ¬ (0 : Int) ≤ (c : Int) - 1 := by simpa using hb
                           omega
    subst hk'
    refine goW ?_
    refine end_finG ?_; simp [put_app, put_none, *]
    rfl
theorem eventsMayRef (H : Heap) (v : V) (es : List Ev) (n : Int) (hes : Sl 6 evC H v es) (hl : es.length ≤ 2 ^ 47) : Call Tryz.prog 21 [v, .int .i64 n] H (.bool (eventsMay es n)) H := by
  refine call_plain fit mixed Tryz.func21 rfl rfl rfl (by kernel_rfl) rfl ?_
  have hlen := hes.len T27 rfl
  repeat' (first | (refine l_pl ?_; refine l_go ?_) | (refine d_pl ?_; refine d_go ?_) | (refine l_gd ?_; first | refine l_onG ?_ | refine l_offG ?_) | (refine d_gd ?_; first | refine d_onG ?_ | refine d_offG ?_) | refine wq_seq ?_ | refine wq_line ?_ | refine wq_draw (by decide +kernel) ?_ | refine wq_block ?_ | refine l_nil ?_ | refine d_nil ?_ | refine wq_skip ?_ | refine wq_ret ?_ | refine wq_exit ?_ | refine th_normal ?_ | refine th_ret ?_ | refine th_exit ?_ | refine bk_normal ?_ | refine bk_ret ?_ | refine bk_exit ?_ | refine bk_other rfl ?_ | first | refine l_partG (fun hb => ?_) (fun hb => ?_) | refine d_partG (fun hb => ?_) (fun hb => ?_) | refine l_callG (upTo12 ..) ?_)
  · refine cond_go (fun hb => ?_) (fun hb => ?_)
    · refine goW ?_
      refine end_finG ?_; simp [put_app, put_none, *]
      simp at hb
      unfold eventsMay
      have : ¬ es.length ≤ 1024 := by omega
      simp [this]
    · rename_i hn
      have hn : within n 1 8 = true := by simpa using hn
      have hl' : es.length ≤ 1024 := by simp at hb; omega
      refine goW ?_
      have hn' := hn
      simp [within] at hn'
      have hwn : IntKind.i64.wrap (n - 1) = n - 1 := wrap_i64 (by omega) (by omega)
      refine wq_loop (fun c ρ h => ∃ k, k ≤ es.length ∧ c = es.length - k ∧ H <+: h ∧ (∀ (j : Nat) e, j < k → es[j]? = some e → evMay (es.take j) n e = true) ∧ ρ 0 = v ∧ ρ 1 = .int .i64 n ∧ ρ 5 = .int .i64 (k : Nat)) ⟨0, Nat.zero_le _, rfl, List.prefix_refl _, by intro j e hj; omega, rfl, rfl, rfl⟩ ?_
      rintro _ ρ h ⟨k, hk, rfl, hp, hall, h0, h1, h5⟩
      refine goW ?_
      refine cond_go (fun hb => ?_) (fun hb => ?_)
      · have hk' : k < es.length := by simp at hb; omega
        obtain ⟨e, he⟩ : ∃ e, es[k]? = some e := ⟨es[k], by simp [hk']⟩
        obtain ⟨b, o, cs, hi, rfl, _, hlo, hlc⟩ := (hes.mono hp).get T27 rfl T78 rfl he
        have ho := loadV_agg T78 rfl hlo
        have hw := wrap_succ (n := k) (by omega)
        obtain ⟨u, hsl, hu⟩ := hes.take hk
        have hul : (es.take k).length ≤ 2 ^ 47 := by rw [List.length_take]; omega
        clear hb
        repeat' (first | (refine l_pl ?_; refine l_go ?_) | (refine d_pl ?_; refine d_go ?_) | (refine l_gd ?_; first | refine l_onG ?_ | refine l_offG ?_) | (refine d_gd ?_; first | refine d_onG ?_ | refine d_offG ?_) | refine wq_seq ?_ | refine wq_line ?_ | refine wq_draw (by decide +kernel) ?_ | refine wq_block ?_ | refine l_nil ?_ | refine d_nil ?_ | refine wq_skip ?_ | refine wq_ret ?_ | refine wq_exit ?_ | refine th_normal ?_ | refine th_ret ?_ | refine th_exit ?_ | refine bk_normal ?_ | refine bk_ret ?_ | refine bk_exit ?_ | refine bk_other rfl ?_ | refine l_callG (upTo12 ..) ?_)
        refine cond_go (fun hc => ?_) (fun hc => ?_)
        · simp at hc
          have hev := evMay_0 (es := es.take k) (n := n) hc
          repeat' (first | (refine l_pl ?_; refine l_go ?_) | (refine d_pl ?_; refine d_go ?_) | (refine l_gd ?_; first | refine l_onG ?_ | refine l_offG ?_) | (refine d_gd ?_; first | refine d_onG ?_ | refine d_offG ?_) | refine wq_seq ?_ | refine wq_line ?_ | refine wq_draw (by decide +kernel) ?_ | refine wq_block ?_ | refine l_nil ?_ | refine d_nil ?_ | refine wq_skip ?_ | refine wq_ret ?_ | refine wq_exit ?_ | refine th_normal ?_ | refine th_ret ?_ | refine th_exit ?_ | refine bk_normal ?_ | refine bk_ret ?_ | refine bk_exit ?_ | refine bk_other rfl ?_ | first | refine l_partG (fun hb => ?_) (fun hb => ?_) | refine d_partG (fun hb => ?_) (fun hb => ?_) | refine cond_go (fun hb => ?_) (fun hb => ?_))
          all_goals first
            | (refine end_ret (by simp only [resRf, resRs, resR]; first | done | rfl) (no_more he (by simp [put_app, put_none, *]) (by rw [hev]; first | (simp_all; done) | (simp_all; omega)) (by first | exact List.prefix_refl _ | exact List.prefix_append _ _ | assumption | (refine List.IsPrefix.trans (by assumption) (List.prefix_append _ _)) | (simp only [List.append_assoc, List.cons_append, List.nil_append, List.set_cons_zero, List.set_cons_succ]; exact ⟨_, by simp only [List.append_assoc, List.cons_append, List.nil_append]; rfl⟩))); done)
            | (refine ⟨es.length - (k + 1), by omega, k + 1, hk', rfl, by first | exact List.prefix_refl _ | exact List.prefix_append _ _ | assumption | (refine List.IsPrefix.trans (by assumption) (List.prefix_append _ _)) | (simp only [List.append_assoc, List.cons_append, List.nil_append, List.set_cons_zero, List.set_cons_succ]; exact ⟨_, by simp only [List.append_assoc, List.cons_append, List.nil_append]; rfl⟩), all_succ hall he (by rw [hev]; first | (simp_all; done) | (simp_all; omega)), ?_⟩; simp [put_app, put_none, *]; done)
        · simp at hc
          repeat' (first | (refine l_pl ?_; refine l_go ?_) | (refine d_pl ?_; refine d_go ?_) | (refine l_gd ?_; first | refine l_onG ?_ | refine l_offG ?_) | (refine d_gd ?_; first | refine d_onG ?_ | refine d_offG ?_) | refine wq_seq ?_ | refine wq_line ?_ | refine wq_draw (by decide +kernel) ?_ | refine wq_block ?_ | refine l_nil ?_ | refine d_nil ?_ | refine wq_skip ?_ | refine wq_ret ?_ | refine wq_exit ?_ | refine th_normal ?_ | refine th_ret ?_ | refine th_exit ?_ | refine bk_normal ?_ | refine bk_ret ?_ | refine bk_exit ?_ | refine bk_other rfl ?_)
          refine cond_go (fun hc1 => ?_) (fun hc1 => ?_)
          · simp at hc1
            have hev := evMay_1 (es := es.take k) (n := n) hc1
            have hcall := fun H' (hp' : H <+: H') m => manyRef H' u (es.take k) m (hu.mono hp') hul
            repeat' (first | (refine l_pl ?_; refine l_go ?_) | (refine d_pl ?_; refine d_go ?_) | (refine l_gd ?_; first | refine l_onG ?_ | refine l_offG ?_) | (refine d_gd ?_; first | refine d_onG ?_ | refine d_offG ?_) | refine wq_seq ?_ | refine wq_line ?_ | refine wq_draw (by decide +kernel) ?_ | refine wq_block ?_ | refine l_nil ?_ | refine d_nil ?_ | refine wq_skip ?_ | refine wq_ret ?_ | refine wq_exit ?_ | refine th_normal ?_ | refine th_ret ?_ | refine th_exit ?_ | refine bk_normal ?_ | refine bk_ret ?_ | refine bk_exit ?_ | refine bk_other rfl ?_ | refine d_call0G (upTo12 ..) ?_ | refine d_call0G (hcall _ (by first | exact List.prefix_refl _ | exact List.prefix_append _ _ | assumption | (refine List.IsPrefix.trans (by assumption) (List.prefix_append _ _)) | (simp only [List.append_assoc, List.cons_append, List.nil_append, List.set_cons_zero, List.set_cons_succ]; exact ⟨_, by simp only [List.append_assoc, List.cons_append, List.nil_append]; rfl⟩)) _) ?_ | first | refine l_partG (fun hb => ?_) (fun hb => ?_) | refine d_partG (fun hb => ?_) (fun hb => ?_) | refine cond_go (fun hb => ?_) (fun hb => ?_))
            all_goals first
              | (refine end_ret (by simp only [resRf, resRs, resR]; first | done | rfl) (no_more he (by simp [put_app, put_none, *]) (by rw [hev]; first | (simp_all; done) | (simp_all; omega)) (by first | exact List.prefix_refl _ | exact List.prefix_append _ _ | assumption | (refine List.IsPrefix.trans (by assumption) (List.prefix_append _ _)) | (simp only [List.append_assoc, List.cons_append, List.nil_append, List.set_cons_zero, List.set_cons_succ]; exact ⟨_, by simp only [List.append_assoc, List.cons_append, List.nil_append]; rfl⟩))); done)
              | (refine ⟨es.length - (k + 1), by omega, k + 1, hk', rfl, by first | exact List.prefix_refl _ | exact List.prefix_append _ _ | assumption | (refine List.IsPrefix.trans (by assumption) (List.prefix_append _ _)) | (simp only [List.append_assoc, List.cons_append, List.nil_append, List.set_cons_zero, List.set_cons_succ]; exact ⟨_, by simp only [List.append_assoc, List.cons_append, List.nil_append]; rfl⟩), all_succ hall he (by rw [hev]; first | (simp_all; done) | (simp_all; omega)), ?_⟩; simp [put_app, put_none, *]; done)
          · simp at hc1
            repeat' (first | (refine l_pl ?_; refine l_go ?_) | (refine d_pl ?_; refine d_go ?_) | (refine l_gd ?_; first | refine l_onG ?_ | refine l_offG ?_) | (refine d_gd ?_; first | refine d_onG ?_ | refine d_offG ?_) | refine wq_seq ?_ | refine wq_line ?_ | refine wq_draw (by decide +kernel) ?_ | refine wq_block ?_ | refine l_nil ?_ | refine d_nil ?_ | refine wq_skip ?_ | refine wq_ret ?_ | refine wq_exit ?_ | refine th_normal ?_ | refine th_ret ?_ | refine th_exit ?_ | refine bk_normal ?_ | refine bk_ret ?_ | refine bk_exit ?_ | refine bk_other rfl ?_)
            refine cond_go (fun hc2 => ?_) (fun hc2 => ?_)
            · simp at hc2
              have hev := evMay_2 (es := es.take k) (n := n) hc2
              have hcall := fun H' (hp' : H <+: H') m => exploredRef H' u (es.take k) m (hu.mono hp') hul
              repeat' (first | (refine l_pl ?_; refine l_go ?_) | (refine d_pl ?_; refine d_go ?_) | (refine l_gd ?_; first | refine l_onG ?_ | refine l_offG ?_) | (refine d_gd ?_; first | refine d_onG ?_ | refine d_offG ?_) | refine wq_seq ?_ | refine wq_line ?_ | refine wq_draw (by decide +kernel) ?_ | refine wq_block ?_ | refine l_nil ?_ | refine d_nil ?_ | refine wq_skip ?_ | refine wq_ret ?_ | refine wq_exit ?_ | refine th_normal ?_ | refine th_ret ?_ | refine th_exit ?_ | refine bk_normal ?_ | refine bk_ret ?_ | refine bk_exit ?_ | refine bk_other rfl ?_ | refine d_call0G (hyperMay1 ..) ?_ | refine d_call0G (hcall _ (by first | exact List.prefix_refl _ | exact List.prefix_append _ _ | assumption | (refine List.IsPrefix.trans (by assumption) (List.prefix_append _ _)) | (simp only [List.append_assoc, List.cons_append, List.nil_append, List.set_cons_zero, List.set_cons_succ]; exact ⟨_, by simp only [List.append_assoc, List.cons_append, List.nil_append]; rfl⟩)) _) ?_ | first | refine l_partG (fun hb => ?_) (fun hb => ?_) | refine d_partG (fun hb => ?_) (fun hb => ?_) | refine cond_go (fun hb => ?_) (fun hb => ?_))
              all_goals first
                | (refine end_ret (by simp only [resRf, resRs, resR]; first | done | rfl) (no_more he (by simp [put_app, put_none, *]) (by rw [hev]; first | (simp_all; done) | (simp_all; omega)) (by first | exact List.prefix_refl _ | exact List.prefix_append _ _ | assumption | (refine List.IsPrefix.trans (by assumption) (List.prefix_append _ _)) | (simp only [List.append_assoc, List.cons_append, List.nil_append, List.set_cons_zero, List.set_cons_succ]; exact ⟨_, by simp only [List.append_assoc, List.cons_append, List.nil_append]; rfl⟩))); done)
                | (refine ⟨es.length - (k + 1), by omega, k + 1, hk', rfl, by first | exact List.prefix_refl _ | exact List.prefix_append _ _ | assumption | (refine List.IsPrefix.trans (by assumption) (List.prefix_append _ _)) | (simp only [List.append_assoc, List.cons_append, List.nil_append, List.set_cons_zero, List.set_cons_succ]; exact ⟨_, by simp only [List.append_assoc, List.cons_append, List.nil_append]; rfl⟩), all_succ hall he (by rw [hev]; first | (simp_all; done) | (simp_all; omega)), ?_⟩; simp [put_app, put_none, *]; done)
            · simp at hc2
              have hev := evMay_3 (es := es.take k) (n := n) hc hc1 hc2
              repeat' (first | (refine l_pl ?_; refine l_go ?_) | (refine d_pl ?_; refine d_go ?_) | (refine l_gd ?_; first | refine l_onG ?_ | refine l_offG ?_) | (refine d_gd ?_; first | refine d_onG ?_ | refine d_offG ?_) | refine wq_seq ?_ | refine wq_line ?_ | refine wq_draw (by decide +kernel) ?_ | refine wq_block ?_ | refine l_nil ?_ | refine d_nil ?_ | refine wq_skip ?_ | refine wq_ret ?_ | refine wq_exit ?_ | refine th_normal ?_ | refine th_ret ?_ | refine th_exit ?_ | refine bk_normal ?_ | refine bk_ret ?_ | refine bk_exit ?_ | refine bk_other rfl ?_ | refine cond_go (fun hb => ?_) (fun hb => ?_))
              all_goals first
                | (refine end_ret (by simp only [resRf, resRs, resR]; first | done | rfl) (no_more he (by simp [put_app, put_none, *]) (by rw [hev]) (by first | exact List.prefix_refl _ | exact List.prefix_append _ _ | assumption | (refine List.IsPrefix.trans (by assumption) (List.prefix_append _ _)) | (simp only [List.append_assoc, List.cons_append, List.nil_append, List.set_cons_zero, List.set_cons_succ]; exact ⟨_, by simp only [List.append_assoc, List.cons_append, List.nil_append]; rfl⟩))); done)
                | (simp at hb; done)
      · have hk' : k = es.length := by simp at hb; omega
        subst hk'
        refine goW ?_
        refine end_finG ?_; simp [put_app, put_none, *]
        exact (eventsMay_yes hn hl' fun j e he => hall j e (List.getElem?_eq_some_iff.1 he).1 he)
  · have hn : within n 1 8 = false := by simpa using hb
    repeat' (first | (refine l_pl ?_; refine l_go ?_) | (refine d_pl ?_; refine d_go ?_) | (refine l_gd ?_; first | refine l_onG ?_ | refine l_offG ?_) | (refine d_gd ?_; first | refine d_onG ?_ | refine d_offG ?_) | refine wq_seq ?_ | refine wq_line ?_ | refine wq_draw (by decide +kernel) ?_ | refine wq_block ?_ | refine l_nil ?_ | refine d_nil ?_ | refine wq_skip ?_ | refine wq_ret ?_ | refine wq_exit ?_ | refine th_normal ?_ | refine th_ret ?_ | refine th_exit ?_ | refine bk_normal ?_ | refine bk_ret ?_ | refine bk_exit ?_ | refine bk_other rfl ?_ | refine cond_go (fun hb => ?_) (fun hb => ?_))
    all_goals first
      | (simp at hb; done)
      | (refine end_finG ?_; simp [put_app, put_none, *]; simp [eventsMay, hn]; done)
end Go.Proofs.YtengdmagaeckoaaGreat.VM

/- Layer 22: the document's StateMay, scores, Scores. -/
namespace Go.Proofs.YtengdmagaeckoaaGreat.VM
open Go
set_option linter.unusedVariables false
set_option linter.unusedSimpArgs false
attribute [local irreducible] wq wqL wqD wqE wqO Th Bk EndR
set_option maxHeartbeats 8000000

def putE (k : Chk) : Int := if kMay k = true then 0 else 1400
def putT (k : Chk) : ByteArray := if kMay k = true then textK k else ⟨#[]⟩
theorem refPutK_ (H : Heap) (w v : V) (k : Chk) (hk : KAt H w v k) (hf : k.Fit) : Call Tryz.prog 55 [.agg (kC w v k)] H (.tup [.str (putT k), .int .i64 (putE k)]) H := by
  have l1 := hf.ws
  have l2 := hf.vs
  unfold putT putE
  cases hm : kMay k with
  | true => exact refPut_good H w v k.ws k.vs k.r k.m k.t hk.ws hk.vs hm
  | false =>
    have s1 := hk.ws.cells
    have s2 := hk.vs.cells
    rw [if_neg (by decide), if_neg (by decide)]
    refine call_pure fit mixed Tryz.func55 rfl rfl rfl (by kernel_rfl) rfl fun hM => ?_
    refine wq_seq (wq_line ?_)
    refine l_boxM T34 fun b1 H1 hM => ?_
    have c1 := refChkMay_ H1 w v k.ws k.vs k.r k.m k.t (hk.ws.mono hM.pre) (hk.vs.mono hM.pre) (by omega) (by omega)
    unfold kMay at hm
    rw [hm] at c1
    clear hm
    refine goM ?_
    refine l_callG c1 ?_
    refine goM ?_
    exact end_2 (by first | exact .inl rfl | exact .inr rfl) ⟨rfl, hM.pre⟩

def docOk (s : St) (m : Chk × Int) : Bool := kMay m.1 && ((getS s.st m.2).2 && (txEq (getS s.st m.2).1 (textK m.1) && (fits s.c.i s.c.h m.1.ws && decide (m.1.t ≤ s.c.total))))
theorem docOk_eq (s : St) (m : Chk × Int) : docOk s m = (memOk s.c m && headOk s.st m) := by
  unfold docOk memOk headOk kFits memFits kMay
  cases chkMay m.1.ws m.1.vs m.1.r m.1.m m.1.t <;> cases (getS s.st m.2).2 <;> cases txEq (getS s.st m.2).1 (textK m.1) <;> cases fits s.c.i s.c.h m.1.ws <;> simp
theorem doc_all (s : St) : s.ms.all (docOk s) = (s.ms.all (memOk s.c) && s.ms.all (headOk s.st)) := by
  rw [Bool.eq_iff_iff, Bool.and_eq_true, List.all_eq_true, List.all_eq_true, List.all_eq_true]
  constructor
  · intro h
    refine ⟨fun x hx => ?_, fun x hx => ?_⟩
    · have := h x hx; rw [docOk_eq, Bool.and_eq_true] at this; exact this.1
    · have := h x hx; rw [docOk_eq, Bool.and_eq_true] at this; exact this.2
  · intro h x hx
    rw [docOk_eq, h.1 x hx, h.2 x hx]; rfl
theorem stateMay_doc (s : St) : stateMay s = (cfgMay s.c && (decide ((s.ms.length : Int) = s.c.m) && (eventsMay s.es s.c.m && (storeMay s.st && (s.ms.all (docOk s) && s.st.all (entHeld s.ms)))))) := by
  rw [doc_all]
  unfold stateMay heads
  cases cfgMay s.c <;> cases decide ((s.ms.length : Int) = s.c.m) <;> cases eventsMay s.es s.c.m <;> cases storeMay s.st <;> cases s.ms.all (memOk s.c) <;> cases s.ms.all (headOk s.st) <;> simp

theorem refStateMay_ (H : Heap) (s : St) (rv mv ev sv : V) (xs : List MR) (ha : StAt H rv mv ev sv xs s) (hf : s.Fit) :
    Call Tryz.prog 31 [.agg (stC s.c rv mv ev sv)] H (.bool (stateMay s)) H := by
  have l1 := hf.c.rows
  have l2 := hf.c.row
  have l3 := hf.ms
  have l4 := hf.es
  have l5 := hf.st
  have s1 : rv.cells = [rv] ∧ rv.isTup = false := by obtain ⟨_, h, _⟩ := ha.rows; exact h.cells
  have s2 := ha.ms.cells
  have s3 := ha.es.cells
  have s4 := ha.st.cells
  have hxl := ha.len
  have hkx := hf.kx ha
  obtain ⟨n, hn⟩ : ∃ n, s.ms.length = n := ⟨_, rfl⟩
  have hlen := ha.ms.len T56 rfl
  rw [hxl, hn] at hlen
  obtain ⟨ns, hns⟩ : ∃ n, s.st.length = n := ⟨_, rfl⟩
  have hlenS := ha.st.len T57 rfl
  rw [hns] at hlenS
  refine call_pure fit mixed Tryz.func31 rfl rfl rfl (by kernel_rfl) rfl fun hM => ?_
  refine wq_seq (wq_line ?_)
  refine l_boxM T59 fun b1 H1 hM => ?_
  have c1 := refConfMay_ H1 s.c rv (ha.rows.mono hM.pre) (by omega) (fun r hr => by have := l2 r hr; omega)
  have c3 := eventsMayRef H1 ev s.es s.c.m (ha.es.mono hM.pre) (by omega)
  have c4 := refStoreMay_ H1 sv s.st (ha.st.mono hM.pre) (by omega)
  rw [stateMay_doc]
  obtain ⟨q1, e1⟩ : ∃ q, cfgMay s.c = q := ⟨_, rfl⟩
  obtain ⟨q2, e2⟩ : ∃ q, decide ((s.ms.length : Int) = s.c.m) = q := ⟨_, rfl⟩
  obtain ⟨q4, e4⟩ : ∃ q, eventsMay s.es s.c.m = q := ⟨_, rfl⟩
  obtain ⟨q5, e5⟩ : ∃ q, storeMay s.st = q := ⟨_, rfl⟩
  have d2 : ((n : Int) != s.c.m) = !q2 := by rw [← e2, hn]; by_cases h : (n : Int) = s.c.m <;> simp [h]
  rw [e1, e2, e4, e5]
  rw [e1] at c1
  rw [e4] at c3
  rw [e5] at c4
  clear e1 e2 e4 e5
  cases q1 with
  | false =>
    refine goM ?_
    refine l_callG c1 ?_
    refine goM ?_
    exact end_1 (by first | exact .inl rfl | exact .inr rfl) ⟨rfl, hM.pre⟩
  | true =>
  cases q2 with
  | false =>
    refine goM ?_
    refine l_callG c1 ?_
    refine goM ?_
    exact end_1 (by first | exact .inl rfl | exact .inr rfl) ⟨rfl, hM.pre⟩
  | true =>
  cases q4 with
  | false =>
    refine goM ?_
    refine l_callG c1 ?_
    refine goM ?_
    refine l_callG c3 ?_
    refine goM ?_
    exact end_1 (by first | exact .inl rfl | exact .inr rfl) ⟨rfl, hM.pre⟩
  | true =>
  cases q5 with
  | false =>
    refine goM ?_
    refine l_callG c1 ?_
    refine goM ?_
    refine l_callG c3 ?_
    refine goM ?_
    refine l_callG c4 ?_
    refine goM ?_
    exact end_1 (by first | exact .inl rfl | exact .inr rfl) ⟨rfl, hM.pre⟩
  | true =>
    simp only [Bool.true_and]
    refine goM ?_
    refine l_callG c1 ?_
    refine goM ?_
    refine l_callG c3 ?_
    refine goM ?_
    refine l_callG c4 ?_
    clear c1 c3 c4 d2
    refine goM ?_
    refine wq_loop (fun cc ρ h => ∃ (k : Nat), k ≤ n ∧ cc = n - k ∧ (∀ (j : Nat) x, j < k → s.ms[j]? = some x → docOk s x = true) ∧ Mem H h [.box b1 (stC s.c rv mv ev sv)] ∧ ρ 1 = .ptr b1 0 ∧ ρ 3 = .int .i64 (k : Int)) ⟨0, Nat.zero_le _, rfl, fun j x hj => by omega, hM, by simp [put_app, put_none, rho0_app, *]⟩ ?_
    clear hM
    rintro _ ρ h ⟨k, hk, rfl, hok, hM, g1, g3⟩
    refine goM ?_
    refine cond_go (fun hb => ?_) (fun hb => ?_)
    · have hk' : k < n := by simpa using hb
      clear hb
      obtain ⟨x, hx⟩ : ∃ x, xs[k]? = some x := ⟨xs[k]'(by omega), by simp⟩
      have hxm := List.mem_of_getElem? hx
      have hka := ha.ks x hxm
      have hkf := hkx x hxm
      have hmx : s.ms[k]? = some x.val := by rw [← ha.val, List.getElem?_map, hx]; rfl
      have t1 := hka.ws.cells
      have t2 := hka.vs.cells
      have hw := wrap_succ (n := k) (by omega)
      have hbad : docOk s x.val = false → s.ms.all (docOk s) = false := fun h => by
        rw [List.all_eq_false]
        exact ⟨x.val, List.mem_of_getElem? hmx, by rw [h]; decide⟩
      have hdd : docOk s x.val = (kMay x.k && ((getS s.st x.h).2 && (txEq (getS s.st x.h).1 (textK x.k) && (fits s.c.i s.c.h x.k.ws && decide (x.k.t ≤ s.c.total))))) := rfl
      obtain ⟨bo, o, hi, lo, loK, loH⟩ := mr_at (ha.ms.mono hM.pre) hx
      clear lo
      refine goM ?_
      refine l_newM (cs := zeroChk) T34 rfl fun b4 H4 hM => ?_
      refine l_putM T34 fun H5 hM => ?_
      clear loK loH
      obtain ⟨bo2, o2, hi2, _, _, loH⟩ := mr_at (ha.ms.mono hM.pre) hx
      rw [hi] at hi2
      cases hi2
      have c1 := refGet15_ H5 sv s.st x.h (ha.st.mono hM.pre) (by omega)
      have c2 := refPutK_ H5 x.w x.v x.k (hka.mono hM.pre) hkf
      have c3 := refFits_ H5 s.c.i s.c.h x.w x.k.ws (hka.mono hM.pre).ws (by have := hkf.ws; omega)
      have htt : kMay x.k = true → putT x.k = textK x.k := fun h => by unfold putT; rw [if_pos h]
      have hee : kMay x.k = true → putE x.k = 0 := fun h => by unfold putE; rw [if_pos h]
      have hee2 : kMay x.k = false → putE x.k = 1400 := fun h => by unfold putE; rw [h]; rfl
      have hd5 : decide (x.k.t > s.c.total) = !(decide (x.k.t ≤ s.c.total)) := by
        by_cases h : x.k.t ≤ s.c.total
        · rw [decide_eq_true h, decide_eq_false (by omega)]; rfl
        · rw [decide_eq_false h, decide_eq_true (by omega)]; rfl
      generalize hk0 : kMay x.k = p1 at *
      generalize hg0 : getS s.st x.h = g at *
      generalize hf0 : fits s.c.i s.c.h x.k.ws = p4 at *
      generalize hd0 : decide (x.k.t ≤ s.c.total) = p5 at *
      obtain ⟨gt, p2⟩ := g
      simp only at c1 hdd
      generalize hT0 : putT x.k = pt at *
      generalize hE0 : putE x.k = pe at *
      clear hk0 hg0 hf0 hd0 hT0 hE0 hxm hkf hka
      refine goM ?_
      refine d_call0G c1 ?_
      refine goM ?_
      refine l_callG c2 ?_
      clear c1 c2
      cases p1 with
      | false =>
        have hE := hee2 rfl
        subst hE
        rw [hbad hdd]
        clear hbad hdd hok htt hee hee2
        refine goM ?_
        exact end_1 (by first | exact .inl rfl | exact .inr rfl) ⟨rfl, hM.pre⟩
      | true =>
        have hE := hee rfl
        have hTT := htt rfl
        subst hE
        subst hTT
        clear htt hee hee2
        cases p2 with
        | false =>
          rw [hbad hdd]
          clear hbad hdd hok
          refine goM ?_
          exact end_1 (by first | exact .inl rfl | exact .inr rfl) ⟨rfl, hM.pre⟩
        | true =>
          have htd := tx_def gt (textK x.k)
          generalize hq0 : txEq gt (textK x.k) = p3 at *
          clear hq0
          cases p3 with
          | false =>
            rw [hbad hdd]
            clear hbad hdd hok
            refine goM ?_
            exact end_1 (by first | exact .inl rfl | exact .inr rfl) ⟨rfl, hM.pre⟩
          | true =>
            cases p4 with
            | false =>
              rw [hbad hdd]
              clear hbad hdd hok
              refine goM ?_
              refine l_callG c3 ?_
              refine goM ?_
              exact end_1 (by first | exact .inl rfl | exact .inr rfl) ⟨rfl, hM.pre⟩
            | true =>
              cases p5 with
              | false =>
                rw [hbad hdd]
                clear hbad hdd hok
                refine goM ?_
                refine l_callG c3 ?_
                refine goM ?_
                exact end_1 (by first | exact .inl rfl | exact .inr rfl) ⟨rfl, hM.pre⟩
              | true =>
                clear hbad
                refine goM ?_
                refine l_callG c3 ?_
                refine goM ?_
                refine ⟨n - (k + 1), by omega, k + 1, hk', rfl, fun j y hj hy => ?_, hM.subG, by simp [put_app, put_none, *]⟩
                by_cases hjk : j < k
                · exact hok j y hjk hy
                · obtain rfl : j = k := by omega
                  rw [hmx] at hy
                  cases hy
                  exact hdd
    · have hk' : k = n := by have : ¬ k < n := by simpa using hb
                             omega
      subst hk'
      clear hb
      have hall : s.ms.all (docOk s) = true := by
        rw [List.all_eq_true]
        intro y hy
        obtain ⟨j, hj⟩ := List.mem_iff_getElem?.1 hy
        exact hok j y (by have := (List.getElem?_eq_some_iff.1 hj).1; omega) hj
      rw [hall, Bool.true_and]
      clear hall hok
      refine goM ?_
      refine wq_loop (fun cc ρ h => ∃ (i : Nat), i ≤ ns ∧ cc = ns - i ∧ (∀ (j : Nat) x, j < i → s.st[j]? = some x → entHeld s.ms x = true) ∧ Mem H h [.box b1 (stC s.c rv mv ev sv)] ∧ ρ 1 = .ptr b1 0 ∧ ρ 9 = .int .i64 (i : Int)) ⟨0, Nat.zero_le _, rfl, fun j x hj => by omega, hM, by simp [put_app, put_none, *]⟩ ?_
      repeat clear hM
      clear g1 g3 hk
      rintro _ ρ h ⟨i, hi, rfl, hok, hM, g1, g9⟩
      refine goM ?_
      refine cond_go (fun hb => ?_) (fun hb => ?_)
      · have hi' : i < ns := by simpa using hb
        clear hb
        obtain ⟨e, he⟩ : ∃ e, s.st[i]? = some e := ⟨s.st[i]'(by omega), by simp⟩
        have hw := wrap_succ (n := i) (by omega)
        have hbad : entHeld s.ms e = false → s.st.all (entHeld s.ms) = false := fun h => by
          rw [List.all_eq_false]
          exact ⟨e, List.mem_of_getElem? he, by rw [h]; decide⟩
        obtain ⟨be, oe, hie, _, loI, _, loN⟩ := ent_at (ha.st.mono hM.pre) he
        refine goM ?_
        refine wq_loop (fun cc ρ h' => ∃ (j : Nat), j ≤ k ∧ cc = k - j ∧ h' = h ∧ ρ 1 = .ptr b1 0 ∧ ρ 9 = .int .i64 (i : Int) ∧ ρ 10 = .int .i64 (countOf (s.ms.take j) e.id : Int) ∧ ρ 11 = .int .i64 (j : Int)) ⟨0, Nat.zero_le _, rfl, rfl, by simp [put_app, put_none, countOf, *]⟩ ?_
        clear g1 g9
        rintro _ ρ h' ⟨j, hj, rfl, rfl, g1, g9, g10, g11⟩
        refine goM ?_
        refine cond_go (fun hb => ?_) (fun hb => ?_)
        · have hj' : j < k := by simpa using hb
          clear hb
          obtain ⟨x, hx⟩ : ∃ x, xs[j]? = some x := ⟨xs[j]'(by omega), by simp⟩
          have hmx : s.ms[j]? = some x.val := by rw [← ha.val, List.getElem?_map, hx]; rfl
          obtain ⟨bm, om, him, _, _, loH⟩ := mr_at (ha.ms.mono hM.pre) hx
          have hwj := wrap_succ (n := j) (by omega)
          have hcl := countOf_le (s.ms.take j) e.id
          rw [List.length_take] at hcl
          have hwc := wrap_succ (n := countOf (s.ms.take j) e.id) (by omega)
          have hsn : countOf (s.ms.take (j + 1)) e.id = countOf (s.ms.take j) e.id + if x.h = e.id then 1 else 0 := by
            rw [List.take_add_one, hmx]
            exact countOf_snoc _ _ _
          by_cases hxe : x.h = e.id
          · have de : (x.h == e.id) = true := by simpa using hxe
            rw [if_pos hxe] at hsn
            clear hxe
            refine goM ?_
            refine ⟨k - (j + 1), by omega, j + 1, hj', rfl, rfl, ?_⟩
            rw [hsn]
            simp [put_app, put_none, *]
          · have de : (x.h == e.id) = false := by simpa using hxe
            rw [if_neg hxe, Nat.add_zero] at hsn
            clear hxe
            refine goM ?_
            refine ⟨k - (j + 1), by omega, j + 1, hj', rfl, rfl, ?_⟩
            rw [hsn]
            simp [put_app, put_none, *]
        · have hj' : j = k := by have : ¬ j < k := by simpa using hb
                                 omega
          subst hj'
          clear hb
          rw [List.take_of_length_le (by omega)] at g10
          have hed : entHeld s.ms e = decide (e.n = (countOf s.ms e.id : Int)) := rfl
          by_cases hq : e.n = (countOf s.ms e.id : Int)
          · have dq : ((countOf s.ms e.id : Int) != e.n) = false := by rw [hq]; simp
            rw [decide_eq_true hq] at hed
            clear hq hbad
            refine goM ?_
            refine ⟨ns - (i + 1), by omega, i + 1, hi', rfl, fun q y hqi hy => ?_, hM, by simp [put_app, put_none, *]⟩
            by_cases hqk : q < i
            · exact hok q y hqk hy
            · obtain rfl : q = i := by omega
              rw [he] at hy
              cases hy
              exact hed
          · have dq : ((countOf s.ms e.id : Int) != e.n) = true := by simpa using fun h => hq h.symm
            rw [decide_eq_false hq] at hed
            rw [hbad hed]
            clear hq hbad hed hok
            refine goM ?_
            exact end_1 (by first | exact .inl rfl | exact .inr rfl) ⟨rfl, hM.pre⟩
      · have hi' : i = ns := by have : ¬ i < ns := by simpa using hb
                                omega
        subst hi'
        clear hb
        have hall : s.st.all (entHeld s.ms) = true := by
          rw [List.all_eq_true]
          intro y hy
          obtain ⟨j, hj⟩ := List.mem_iff_getElem?.1 hy
          exact hok j y (by have := (List.getElem?_eq_some_iff.1 hj).1; omega) hj
        rw [hall]
        clear hall hok
        refine goM ?_
        exact end_1 (by first | exact .inl rfl | exact .inr rfl) ⟨rfl, hM.pre⟩
end Go.Proofs.YtengdmagaeckoaaGreat.VM

/- Layer 22: configs that are copied; the new states. -/
namespace Go.Proofs.YtengdmagaeckoaaGreat.VM
open Go
set_option linter.unusedVariables false
set_option linter.unusedSimpArgs false
attribute [local irreducible] wq wqL wqD wqE wqO Th Bk EndR
set_option maxHeartbeats 8000000

theorem cloneRows_ (H : Heap) (v : V) (xs : List (V × Int)) (hx : Sl 2 rowC H v xs) (hl : xs.length * 32 ≤ 2 ^ 47) : ∃ w H', Call Tryz.prog 98 [v] H w H' ∧ Mem H H' [.own 2 rowC w xs] := by
  refine call_mem fit mixed Tryz.func98 rfl rfl rfl (by kernel_rfl) fun hM => ?_
  rcases hx with ⟨rfl, rfl⟩ | ⟨b, off, cap, t, cs, wr, rfl, h1, h2, h3, h4⟩
  · refine goM ?_
    exact end_1 (by first | exact .inl rfl | exact .inr rfl) (hM.nil 2 rowC)
  · have hx : Sl 2 rowC H (.slc b off xs.length cap t 2) xs := .inr ⟨b, off, cap, t, cs, wr, rfl, h1, h2, h3, h4⟩
    clear h1 h2 h3 h4
    refine goM ?_
    refine l_sliceM rowC [] [] T24 rfl T113 rfl (cells_rows []) (by decide) fun e1 H3 hM => ?_
    refine goM ?_
    refine l_appM (hx.mono hM.pre) (xs := []) (hb := by simp only [List.length_nil]; show (0 + xs.length) * 32 ≤ _ ∧ _; omega) fun a H4 hM => ?_
    refine goM ?_
    exact end_1 (by first | exact .inl rfl | exact .inr rfl) hM

/-- rows, the first k of them one's own -/
structure RowsK (qv rv : List (V × Int)) (rs : List (List Int × Int)) (k : Nat) : Prop where
  len : rv.length = rs.length
  old : ∀ j, k ≤ j → rv[j]? = qv[j]?
  y : ∀ (j : Nat) p r, rv[j]? = some p → rs[j]? = some r → p.2 = r.2
theorem rowsP_snoc {rv : List (V × Int)} {rs : List (List Int × Int)} {k : Nat} {p : V × Int} {r : List Int × Int} (hp : rv[k]? = some p) (hr : rs[k]? = some r) : rowsP (rv.take (k + 1)) (rs.take (k + 1)) = rowsP (rv.take k) (rs.take k) ++ [.own 1 intC p.1 r.1] := by
  unfold rowsP
  have h1 := (List.getElem?_eq_some_iff.1 hp).1
  have h2 := (List.getElem?_eq_some_iff.1 hr).1
  rw [List.take_add_one, List.take_add_one, hp, hr, List.zipWith_append (by rw [List.length_take, List.length_take]; omega)]
  rfl
theorem configCopy_ (H : Heap) (c : Cfg) (v : V) (hv : Rows H v c.rows) (hf : c.Fit) : ∃ w H', Call Tryz.prog 59 [.agg (cfgC c v)] H w H' ∧ ∃ u rv, w = .agg (cfgC c u) ∧ Like rv c.rows ∧ Mem H H' [.ro (pack (rowsR u rv c.rows))] := by
  have l1 := hf.rows
  have l2 := hf.row
  have s0 : v.cells = [v] ∧ v.isTup = false := by obtain ⟨_, h, _⟩ := hv; exact h.cells
  obtain ⟨qv, hqv, hql, hqa⟩ := hv
  obtain ⟨n, hn⟩ : ∃ n, c.rows.length = n := ⟨_, rfl⟩
  refine call_mem fit mixed Tryz.func59 rfl rfl rfl (by kernel_rfl) fun hM => ?_
  refine wq_seq (wq_line ?_)
  refine l_boxM T26 fun b1 H1 hM => ?_
  refine l_newM (cs := zeroCfg) T26 rfl fun b2 H2 hM => ?_
  refine goM ?_
  obtain ⟨u, H3, c1, m1⟩ := cloneRows_ H2 v qv (hqv.mono hM.pre) (by omega)
  refine l_callG c1 ?_
  have s1 := (m1.sl .here).cells
  have hlen := (m1.sl .here).len T24 rfl
  rw [hql, hn] at hlen
  replace hM := hM.call1 m1
  clear c1 m1
  refine goM ?_
  refine l_putM T24 fun H4 hM => ?_
  refine goM ?_
  have hM0 : Mem H H4 [.ro (pack []), .own 2 rowC u qv, .box b2 zeroCfg, .box b1 (cfgC c u)] := Mem.packed (L := []) hM
  refine wq_loop (fun cc ρ h => ∃ (k : Nat) (rv : List (V × Int)), k ≤ n ∧ cc = n - k ∧ RowsK qv rv c.rows k ∧ Mem H h [.ro (pack (rowsP (rv.take k) (c.rows.take k))), .own 2 rowC u rv, .box b2 zeroCfg, .box b1 (cfgC c u)] ∧ ρ 1 = .ptr b1 0 ∧ ρ 2 = .ptr b2 0 ∧ ρ 10 = .int .i64 (n : Int) ∧ ρ 11 = .int .i64 (k : Int)) ⟨0, qv, Nat.zero_le _, rfl, ⟨hql, fun _ _ => rfl, fun j p r hp hr => (hqa j p r hp hr).2⟩, hM0, by simp [put_app, put_none, rho0_app, *]⟩ ?_
  repeat clear hM
  clear hM0
  rintro _ ρ h ⟨k, rv, hk, rfl, hrk, hM, g1, g2, g10, g11⟩
  refine goM ?_
  refine cond_go (fun hb => ?_) (fun hb => ?_)
  · have hk' : k < n := by simpa using hb
    clear hb
    have hrl := hrk.len
    obtain ⟨⟨p, y⟩, hp⟩ : ∃ p, rv[k]? = some p := ⟨rv[k]'(by omega), by simp⟩
    obtain ⟨⟨ys, z⟩, hr⟩ : ∃ r, c.rows[k]? = some r := ⟨c.rows[k]'(by omega), by simp⟩
    have hqp : qv[k]? = some (p, y) := by rw [← hrk.old k (Nat.le_refl _)]; exact hp
    have hsl : Sl 1 intC H p ys := (hqa k _ _ hqp hr).1
    have hyl : ys.length * 8 ≤ 140737488351232 := l2 _ (List.mem_of_getElem? hr)
    obtain ⟨bo, o, cs, hi, hcs, _, hlo, hlc⟩ := (hM.sl (v := u) (xs := rv) (by (repeat (first | exact Has.here | apply Has.there)))).get T24 rfl T113 rfl hp
    have ho : loadV T 30 h bo o = some p := loadV_one T30 rfl (hlc 0 p (by rw [hcs]; rfl))
    obtain ⟨a, H5, c1, m1⟩ := cloneInts_ h p ys (hsl.mono hM.pre) (by omega)
    have hw := wrap_succ (n := k) (by omega)
    have s3 := (m1.sl .here).cells
    have hM5 := hM.call1 m1
    obtain ⟨b', hi', hput⟩ := hM5.elemAt (sz := 2) (R := rowC) (v := u) (xs := rv) (by (repeat (first | exact Has.here | apply Has.there))) T24 rfl T113 rfl hp 0 T30 (by decide)
    rw [hi] at hi'
    cases hi'
    obtain ⟨H6, st, hM6⟩ := hput a (a, y) s3.2 (by rw [s3.1]; rfl) (fun cs hl hR => by rw [hR, s3.1]; rfl)
    simp only [Nat.add_zero] at st
    clear hput hlo hlc hcs
    have hrv : (rv.set k (a, y))[k]? = some (a, y) := List.getElem?_set_self (by omega)
    have hpk : Mem H H6 [.ro (pack (rowsP ((rv.set k (a, y)).take (k + 1)) (c.rows.take (k + 1)))), .own 2 rowC u (rv.set k (a, y)), .box b2 zeroCfg, .box b1 (cfgC c u)] := by
      rw [rowsP_snoc hrv hr, List.take_set_of_le (Nat.le_refl _)]
      refine Mem.packed ?_
      have h1 : Mem H H6 (rowsP (rv.take k) (c.rows.take k) ++ .own 1 intC a ys :: [.own 2 rowC u (rv.set k (a, y)), .box b2 zeroCfg, .box b1 (cfgC c u)]) := Mem.unpacked hM6.swap
      rw [List.append_assoc]
      exact h1
    have hrk2 : RowsK qv (rv.set k (a, y)) c.rows (k + 1) := ⟨by rw [List.length_set]; exact hrl, fun j hj => by rw [List.getElem?_set_ne (by omega)]; exact hrk.old j (by omega), fun j q r hq hr2 => by
      by_cases hjk : k = j
      · subst hjk
        rw [hrv] at hq
        cases hq
        have := hrk.y k (p, y) r hp hr2
        exact this
      · rw [List.getElem?_set_ne hjk] at hq
        exact hrk.y j q r hq hr2⟩
    clear hM5 hM6 hp hr hqp hrv
    refine goM ?_
    refine d_callG c1 (.inl m1.pre) ?_
    clear ho
    replace hM := hM.call1 m1
    clear c1 m1
    refine goM ?_
    refine d_stM st ?_
    refine goM ?_
    exact ⟨n - (k + 1), by omega, k + 1, _, hk', rfl, hrk2, hpk, by simp [put_app, put_none, *]⟩
  · have hk' : k = n := by have : ¬ k < n := by simpa using hb
                           omega
    subst hk'
    clear hb
    rw [List.take_of_length_le (by have := hrk.len; omega), List.take_of_length_le (by omega)] at hM
    have hrk' := hrk.len
    have hlike : Like rv c.rows := ⟨hrk.len, hrk.y⟩
    clear hrk
    refine goM ?_
    refine l_putM T26 fun H5 hM => ?_
    refine goM ?_
    refine end_1 (by first | exact .inl rfl | exact .inr rfl) ⟨u, rv, rfl, hlike, ?_⟩
    have h1 := (hM.front (r := .own 2 rowC u rv) (by (repeat (first | exact Take.here | apply Take.there)))).swap
    have h2 : Mem H H5 (rowsP rv c.rows ++ .own 2 rowC u rv :: _) := Mem.unpacked h1
    have h3 : Mem H H5 (rowsR u rv c.rows ++ _) := h2.perm (List.perm_middle)
    exact h3.packed.sub (by (repeat (first | exact List.Sublist.slnil | exact List.Sublist.refl _ | refine List.Sublist.cons_cons _ ?_ | refine List.Sublist.cons _ ?_)))

theorem copyConfig22_ (H : Heap) (c : Cfg) (v : V) (hv : Rows H v c.rows) (hf : c.Fit) : ∃ w H', Call Tryz.prog 61 [.agg (cfgC c v)] H w H' ∧ ∃ u rv, w = .agg (cfgC c u) ∧ Like rv c.rows ∧ Mem H H' [.ro (pack (rowsR u rv c.rows))] := by
  have l1 := hf.rows
  have l2 := hf.row
  have hv0 := hv
  have s0 : v.cells = [v] ∧ v.isTup = false := by obtain ⟨_, h, _⟩ := hv; exact h.cells
  obtain ⟨n, hn⟩ : ∃ n, c.rows.length = n := ⟨_, rfl⟩
  have hlen : builtinP T .len [24] [v] = some (.int .i64 (n : Int)) := by
    obtain ⟨qv, hqv, hql, _⟩ := hv
    have := hqv.len T24 rfl
    rw [hql, hn] at this
    exact this
  refine call_mem fit mixed Tryz.func61 rfl rfl rfl (by kernel_rfl) fun hM => ?_
  refine wq_seq (wq_line ?_)
  refine l_boxM T26 fun b1 H1 hM => ?_
  refine l_newM (cs := zeroCfg) T26 rfl fun b2 H2 hM => ?_
  refine goM ?_
  have hM0 : Mem H H2 [.ro (pack (rowsR .nils [] [])), .box b2 zeroCfg, .box b1 (cfgC c v)] := Mem.packed (L := rowsR .nils [] []) (hM.nil 2 rowC)
  refine wq_loop (fun cc ρ h => ∃ (k : Nat) (u : V) (rv : List (V × Int)), k ≤ n ∧ cc = n - k ∧ Like rv (c.rows.take k) ∧ Mem H h [.ro (pack (rowsR u rv (c.rows.take k))), .box b2 zeroCfg, .box b1 (cfgC c v)] ∧ ρ 1 = .ptr b1 0 ∧ ρ 2 = .ptr b2 0 ∧ ρ 3 = u ∧ ρ 4 = .int .i64 (k : Int)) ⟨0, .nils, [], Nat.zero_le _, rfl, ⟨rfl, by simp⟩, hM0, by simp [put_app, put_none, rho0_app, *]⟩ ?_
  repeat clear hM
  clear hM0
  rintro _ ρ h ⟨k, u, rv, hk, rfl, hlk, hM, g1, g2, g3, g4⟩
  have hsu : u.cells = [u] ∧ u.isTup = false := by
    have := rows_pack (hM.fact (F := pack (rowsR u rv (c.rows.take k))) .here) hlk
    obtain ⟨_, h, _⟩ := this
    exact h.cells
  refine goM ?_
  refine cond_go (fun hb => ?_) (fun hb => ?_)
  · have hk' : k < n := by simpa using hb
    clear hb
    obtain ⟨⟨xs, y⟩, hrk⟩ : ∃ r, c.rows[k]? = some r := ⟨c.rows[k]'(by omega), by simp⟩
    obtain ⟨b3, o3, x, hi3, hlo3, _, _, hxs⟩ := hv0.at hrk
    replace hlo3 := loadV_pre hM.pre hlo3
    have hxl : xs.length * 8 ≤ 140737488351232 := l2 _ (List.mem_of_getElem? hrk)
    have hw := wrap_succ (n := k) (by omega)
    have hrl : rv.length = k := by rw [hlk.1, List.length_take]; omega
    have s1 := hxs.cells
    have htk : c.rows.take (k + 1) = c.rows.take k ++ [(xs, y)] := by rw [List.take_add_one, hrk]; rfl
    clear hrk
    refine goM ?_
    refine l_newM (cs := [.nils, .int .i64 0]) T113 rfl fun b4 H1 hM => ?_
    refine l_putM T113 fun H2 hM => ?_
    refine goM ?_
    refine l_sliceM intC [] [] T30 rfl T3 rfl (cells_ints []) (by decide) fun e1 H3 hM => ?_
    refine goM ?_
    refine l_appM (hxs.mono hM.pre) fun a H4 hM => ?_
    have s3 := (hM.sl .here).cells
    refine goM ?_
    refine l_putM T30 fun H5 hM => ?_
    refine goM ?_
    refine l_sliceM rowC [(a, y)] [a, .int .i64 y] T24 rfl T113 rfl (cells_rows [(a, y)]) (by decide) (fun e2 H6 hM => ?_)
    have hM2 : Mem H H6 (.own 2 rowC e2 [(a, y)] :: .own 2 rowC u rv :: .box b4 [a, .int .i64 y] :: .box b2 zeroCfg :: .box b1 (cfgC c v) :: .own 1 intC a ([] ++ xs) :: rowsP rv (c.rows.take k)) := by
      have h1 := hM.front (r := .ro (pack (rowsR u rv (c.rows.take k)))) (by (repeat (first | exact Take.here | apply Take.there)))
      have h2 := (h1.sub (L' := [.ro (pack (rowsR u rv (c.rows.take k))), .own 2 rowC e2 [(a, y)], .own 1 intC a ([] ++ xs), .box b4 [a, .int .i64 y], .box b2 zeroCfg, .box b1 (cfgC c v)]) (by (repeat (first | exact List.Sublist.slnil | exact List.Sublist.refl _ | refine List.Sublist.cons_cons _ ?_ | refine List.Sublist.cons _ ?_)))).unpacked
      refine h2.perm ?_
      refine (List.perm_append_comm (l₁ := rowsR u rv (c.rows.take k))).trans ?_
      refine List.Perm.cons _ ?_
      show (Res.own 1 intC a ([] ++ xs) :: .box b4 [a, .int .i64 y] :: .box b2 zeroCfg :: .box b1 (cfgC c v) :: Res.own 2 rowC u rv :: rowsP rv (c.rows.take k)).Perm _
      refine (List.perm_middle (l₁ := [Res.own 1 intC a ([] ++ xs), .box b4 [a, .int .i64 y], .box b2 zeroCfg, .box b1 (cfgC c v)])).trans (List.Perm.cons _ ?_)
      exact (List.perm_middle (l₁ := [Res.box b4 [a, .int .i64 y], .box b2 zeroCfg, .box b1 (cfgC c v)])).symm
    clear hM
    have hM := hM2
    clear hM2
    refine goM ?_
    refine l_appM (hM.sl .here) (xs := rv) (hh := .there .here) (hb := by simp only [List.length_cons, List.length_nil]; rw [hrl]; omega) fun u' H7 hM => ?_
    refine goM ?_
    refine ⟨n - (k + 1), by omega, k + 1, u', rv ++ [(a, y)], hk', rfl, ?_, ?_, by simp [put_app, put_none, *]⟩
    · rw [htk]
      have h3 : (c.rows.take k).length = k := by rw [List.length_take]; omega
      refine ⟨by simp [hrl, h3], fun j p r hp hr => ?_⟩
      by_cases hj : j < k
      · rw [List.getElem?_append_left (by omega)] at hp hr
        exact hlk.2 j p r hp hr
      · rw [List.getElem?_append_right (by omega)] at hp hr
        rw [hrl] at hp
        rw [h3] at hr
        match hq : j - k, hp, hr with
        | 0, hp, hr => simp at hp hr; subst hp; subst hr; rfl
        | q + 1, hp, hr => simp at hp
    · rw [htk]
      have h3 : (c.rows.take k).length = k := by rw [List.length_take]; omega
      have hz : rowsP (rv ++ [(a, y)]) (c.rows.take k ++ [(xs, y)]) = rowsP rv (c.rows.take k) ++ [.own 1 intC a xs] := by
        unfold rowsP
        rw [List.zipWith_append (by omega)]; rfl
      unfold rowsR
      rw [hz]
      refine Mem.packed ?_
      refine ((hM.drop).sub (L' := .own 2 rowC u' (rv ++ [(a, y)]) :: .box b2 zeroCfg :: .box b1 (cfgC c v) :: .own 1 intC a ([] ++ xs) :: rowsP rv (c.rows.take k)) (by (repeat (first | exact List.Sublist.slnil | exact List.Sublist.refl _ | refine List.Sublist.cons_cons _ ?_ | refine List.Sublist.cons _ ?_)))).perm ?_
      refine List.Perm.cons _ ?_
      refine (List.perm_append_comm (l₁ := [Res.box b2 zeroCfg, .box b1 (cfgC c v)]) (l₂ := .own 1 intC a ([] ++ xs) :: rowsP rv (c.rows.take k))).trans ?_
      exact List.Perm.append_right _ (List.perm_append_comm (l₁ := [Res.own 1 intC a xs]) (l₂ := rowsP rv (c.rows.take k)))
  · have hk' : k = n := by have : ¬ k < n := by simpa using hb
                           omega
    subst hk'
    clear hb
    rw [List.take_of_length_le (by omega)] at hM hlk
    refine goM ?_
    refine l_putM T24 fun H4 hM => ?_
    refine goM ?_
    refine l_putM T26 fun H5 hM => ?_
    refine goM ?_
    exact end_1 (by first | exact .inl rfl | exact .inr rfl) ⟨u, rv, rfl, hlk, hM.subG⟩
end Go.Proofs.YtengdmagaeckoaaGreat.VM

/- Layer 22: states that are one's own; the new ones, the program's and the document's; the document's Scores. -/
namespace Go.Proofs.YtengdmagaeckoaaGreat.VM
open Go
set_option linter.unusedVariables false
set_option linter.unusedSimpArgs false
attribute [local irreducible] wq wqL wqD wqE wqO Th Bk EndR
set_option maxHeartbeats 8000000

def mems (xs : List MR) : List Res := xs.map fun x => kPart x.w x.v x.k.ws x.k.vs
def stOwn (u mv ev sv : V) (rvs : List (V × Int)) (xs : List MR) (s : St) : List Res := [.ro (pack (rowsR u rvs s.c.rows)), .ro (pack (mems xs)), .own 6 mrC mv xs, .own 6 evC ev s.es, .own 3 entC sv s.st]
theorem mems_at {H : Heap} {xs : List MR} (h : (pack (mems xs)).p H) : ∀ x ∈ xs, KAt H x.w x.v x.k := fun x hx => by
  obtain ⟨i, hi⟩ := List.mem_iff_getElem?.1 hx
  have hm := pack_mem h
  have hr : (mems xs)[i]? = some (kPart x.w x.v x.k.ws x.k.vs) := by unfold mems; rw [List.getElem?_map, hi]; rfl
  exact kPart_at (hm.get (Has.nth hr))
theorem st_at {B H : Heap} {u mv ev sv : V} {rvs : List (V × Int)} {xs : List MR} {s : St} {L : List Res} (hM : Mem B H (stOwn u mv ev sv rvs xs s ++ L)) (hl : Like rvs s.c.rows) (hv : xs.map MR.val = s.ms) : StAt H u mv ev sv xs s :=
  ⟨rows_pack (hM.fact .here) hl, hM.sl (.there (.there .here)), hv, mems_at (hM.fact (.there .here)), hM.sl (.there (.there (.there .here))), hM.sl (.there (.there (.there (.there .here))))⟩
theorem mems_snoc (xs : List MR) (x : MR) : mems (xs ++ [x]) = mems xs ++ [kPart x.w x.v x.k.ws x.k.vs] := by unfold mems; rw [List.map_append]; rfl
theorem Mem.memsMore {B H : Heap} {xs : List MR} {x : MR} {M : List Res} (h : Mem B H (.own 1 intC x.w x.k.ws :: .own 1 intC x.v x.k.vs :: .ro (pack (mems xs)) :: M)) : Mem B H (.ro (pack (mems (xs ++ [x]))) :: M) := by
  have h1 : Mem B H (.ro (pack (mems xs)) :: kPart x.w x.v x.k.ws x.k.vs :: M) := h.pack2.swap
  rw [mems_snoc]
  refine Mem.packed ?_
  have h2 := h1.unpacked
  rw [List.append_assoc]
  exact h2

theorem firstR_of {c : Cfg} (hc : cfgMay c = true) {k : Nat} (hk : (k : Int) < c.m) : firstOk c k = true := by
  obtain ⟨hm2, _⟩ := cfgMay_split hc
  unfold firstOk
  rw [hc, wrap_m hm2, within_iff.2 ⟨by omega, by omega⟩]; rfl
theorem no_state {H : Heap} : Mem H H (stOwn .nils .nils .nils .nils [] [] noSt) :=
  Mem.packed (L := rowsR .nils [] []) ((Mem.packed (L := []) ((((Mem.start H).nil 3 entC).nil 6 evC).nil 6 mrC)).nil 2 rowC)

theorem controlNew_ (H : Heap) (c : Cfg) (rv : V) (hr : Rows H rv c.rows) (hf : c.Fit) :
    ∃ w H', Call Tryz.prog 24 [.agg (cfgC c rv)] H w H' ∧ ∃ u mv sv rvs xs, w = .tup [.agg (stC (newR c).1.c u mv .nils sv), .int .i64 (newR c).2] ∧ Like rvs (newR c).1.c.rows ∧ xs.map MR.val = (newR c).1.ms ∧ Mem H H' (stOwn u mv .nils sv rvs xs (newR c).1) := by
  have l1 := hf.rows
  have l2 := hf.row
  have s0 : rv.cells = [rv] ∧ rv.isTup = false := by obtain ⟨_, h, _⟩ := hr; exact h.cells
  refine call_mem fit mixed Tryz.func24 rfl rfl rfl (by kernel_rfl) fun hM => ?_
  refine wq_seq (wq_line ?_)
  refine l_boxM T26 fun b1 H1 hM => ?_
  refine l_newM (cs := zeroSt) T59 rfl fun b2 H2 hM => ?_
  have c1 := confMay_ H2 c rv (hr.mono hM.pre) (by omega) (fun r hr => by have := l2 r hr; omega)
  unfold newR
  cases hc : cfgMay c with
  | false =>
    rw [hc] at c1
    rw [if_neg (by decide)]
    clear hc
    refine goM ?_
    refine l_callG c1 ?_
    refine goM ?_
    refine l_putM T59 fun H3 hM => ?_
    refine goM ?_
    exact end_2 (by first | exact .inl rfl | exact .inr rfl) ⟨.nils, .nils, .nils, [], [], rfl, ⟨rfl, by simp⟩, rfl, (no_state (H := H3)).low' hM.pre⟩
  | true =>
    rw [hc] at c1
    rw [if_pos rfl]
    obtain ⟨hm2, _⟩ := cfgMay_split hc
    obtain ⟨n, hn⟩ : ∃ n : Nat, c.m = n := ⟨c.m.toNat, by omega⟩
    have hn8 : n ≤ 8 := by omega
    have hlt : ∀ k : Nat, k < n → firstOk c k = true := fun k h => firstR_of hc (by omega)
    have hnew := fun i h => (new_ok hc i h).1
    have hnat : c.m.toNat = n := by omega
    have hS : newS c = ⟨c, (newF c n).1, [], (newF c n).2⟩ := by unfold newS; rw [hnat]
    rw [hS]
    clear hS hnat
    replace hn : Held (c.m = n) := hn
    refine goM ?_
    refine l_callG c1 ?_
    clear c1
    refine goM ?_
    obtain ⟨_, H3, c1, u, rvs, rfl, hlk, m1⟩ := configCopy_ H2 c rv (hr.mono hM.pre) hf
    refine l_callG c1 ?_
    have s1 : u.cells = [u] ∧ u.isTup = false := by obtain ⟨_, h, _⟩ := rows_pack (m1.fact .here) hlk; exact h.cells
    replace hM := hM.call1 m1
    clear c1 m1
    refine goM ?_
    refine l_newM (cs := zeroSt) T59 rfl fun b4 H4 hM => ?_
    refine l_putM T59 fun H5 hM => ?_
    refine goM ?_
    have hM0 : Mem H H5 [.box b4 (stC c u .nils .nils .nils), .ro (pack (mems [])), .own 6 mrC .nils [], .own 3 entC .nils [], .ro (pack (rowsR u rvs c.rows)), .box b2 zeroSt, .box b1 (cfgC c rv)] := by
      have h1 := Mem.packed (L := []) ((hM.nil 3 entC).nil 6 mrC)
      exact (h1.front (r := .box b4 (stC c u .nils .nils .nils)) (.there (.there (.there .here)))).sub (by (repeat (first | exact List.Sublist.slnil | exact List.Sublist.refl _ | refine List.Sublist.cons_cons _ ?_ | refine List.Sublist.cons _ ?_)))
    refine wq_loop (fun cc ρ h => ∃ (k : Nat) (mv sv : V) (xs : List MR), k ≤ n ∧ cc = n - k ∧ xs.map MR.val = (newF c k).1 ∧ Mem H h [.box b4 (stC c u mv .nils sv), .ro (pack (mems xs)), .own 6 mrC mv xs, .own 3 entC sv (newF c k).2, .ro (pack (rowsR u rvs c.rows)), .box b2 zeroSt, .box b1 (cfgC c rv)] ∧ ρ 1 = .ptr b1 0 ∧ ρ 2 = .ptr b2 0 ∧ ρ 4 = .ptr b4 0 ∧ ρ 17 = .int .i64 (n : Int) ∧ ρ 18 = .int .i64 (k : Int)) ⟨0, .nils, .nils, [], Nat.zero_le _, rfl, rfl, hM0, by have hn' : c.m = n := hn; simp [put_app, put_none, rho0_app, *]⟩ ?_
    repeat clear hM
    clear hM0
    rintro _ ρ h ⟨k, mv, sv, xs, hk, rfl, hval, hM, g1, g2, g4, g17, g18⟩
    have t1 := (hM.sl (v := mv) (xs := xs) (by (repeat (first | exact Has.here | apply Has.there)))).cells
    have t2 := (hM.sl (v := sv) (xs := (newF c k).2) (by (repeat (first | exact Has.here | apply Has.there)))).cells
    have hxl : xs.length = k := by rw [← List.length_map (f := MR.val), hval]; exact (hnew k (by omega)).len
    have hsl := (hnew k (by omega)).stl
    refine goM ?_
    refine cond_go (fun hb => ?_) (fun hb => ?_)
    · have hk' : k < n := by simpa using hb
      clear hb
      have hw := wrap_succ (n := k) (by omega)
      obtain ⟨_, H6, c1, a, b', rfl, m1⟩ := member_First h c rv k (hr.mono hM.pre) hf
      have hfk : firstKR c k = firstK c k := by unfold firstKR; rw [if_pos (hlt k hk')]
      have hfs : strOf (firstSR c k) = textK (firstK c k) := by unfold firstSR; rw [if_pos (hlt k hk')]; rfl
      have hfe : firstER c k = 0 := by unfold firstER; rw [if_pos (hlt k hk')]
      rw [hfk] at m1
      rw [hfk, hfs, hfe] at c1
      have s3 := (m1.sl .here).cells
      have s4 := (m1.sl (.there .here)).cells
      have hsucc : newF c (k + 1) = ((newF c k).1 ++ [(firstK c (k : Int), (putS (newF c k).2 (textK (firstK c (k : Int)))).2.1)], (putS (newF c k).2 (textK (firstK c (k : Int)))).1) := rfl
      clear hfk hfs hfe
      generalize hK : firstK c (k : Int) = K at *
      refine goM ?_
      refine l_callG c1 ?_
      replace hM := hM.call2 m1
      clear c1 m1
      refine goM ?_
      refine l_newM (cs := zeroMem) T48 rfl fun b6 H7 hM => ?_
      refine l_putM T48 fun H8 hM => ?_
      refine goM ?_
      obtain ⟨_, H9, c1, sv', rfl, m1⟩ := put15_ H8 sv (newF c k).2 (textK K) (hM.sl (v := sv) (xs := (newF c k).2) (by (repeat (first | exact Has.here | apply Has.there)))) (by omega)
      refine l_callG c1 ?_
      have s5 := (m1.sl .here).cells
      replace hM := hM.call1 m1
      clear c1 m1
      generalize putS (newF c k).2 (textK K) = o at *
      obtain ⟨st', id', er'⟩ := o
      simp only at hsucc hM ⊢
      refine goM ?_
      refine l_putM T57 fun H10 hM => ?_
      refine goM ?_
      refine l_putM T3 fun H11 hM => ?_
      refine goM ?_
      refine l_sliceM mrC [⟨a, b', K, id'⟩] (mC a b' K id') T56 rfl T48 rfl (cells_mrs [⟨a, b', K, id'⟩]) (by decide) fun e1 H12 hM => ?_
      refine goM ?_
      refine l_appM (hM.sl .here) (xs := xs) (hh := by (repeat (first | exact Has.here | apply Has.there))) (hb := by rw [hxl]; show (k + 1) * 80 ≤ _ ∧ k + 1 ≤ _; omega) fun mv' H13 hM => ?_
      have s6 := (hM.sl (v := mv') (xs := xs ++ [⟨a, b', K, id'⟩]) (by (repeat (first | exact Has.here | apply Has.there)))).cells
      refine goM ?_
      refine l_putM T56 fun H14 hM => ?_
      refine goM ?_
      have h1 := ((hM.front (r := .ro (pack (mems xs))) (by (repeat (first | exact Take.here | apply Take.there)))).front (r := .own 1 intC b' K.vs) (by (repeat (first | exact Take.here | apply Take.there)))).front (r := .own 1 intC a K.ws) (by (repeat (first | exact Take.here | apply Take.there)))
      have h2 := Mem.memsMore (x := ⟨a, b', K, id'⟩) h1
      have h3 := (((h2.front (r := .own 3 entC sv' st') (by (repeat (first | exact Take.here | apply Take.there)))).front (r := .own 6 mrC mv' (xs ++ [⟨a, b', K, id'⟩])) (by (repeat (first | exact Take.here | apply Take.there)))).front (r := .ro (pack (mems (xs ++ [⟨a, b', K, id'⟩])))) (by (repeat (first | exact Take.here | apply Take.there)))).front (r := .box b4 (stC c u mv' .nils sv')) (by (repeat (first | exact Take.here | apply Take.there)))
      refine ⟨n - (k + 1), by omega, k + 1, mv', sv', xs ++ [⟨a, b', K, id'⟩], hk', rfl, ?_, ?_, by simp [put_app, put_none, *]⟩
      · rw [hsucc, List.map_append, hval]; rfl
      · rw [hsucc]
        exact h3.sub (by (repeat (first | exact List.Sublist.slnil | exact List.Sublist.refl _ | refine List.Sublist.cons_cons _ ?_ | refine List.Sublist.cons _ ?_)))
    · have hk' : k = n := by have : ¬ k < n := by simpa using hb
                             omega
      subst hk'
      clear hb
      refine goM ?_
      refine l_putM T59 fun H6 hM => ?_
      refine goM ?_
      refine end_2 (by first | exact .inl rfl | exact .inr rfl) ⟨u, mv, sv, rvs, xs, rfl, hlk, hval, ?_⟩
      have h1 := ((hM.front (r := .own 3 entC sv (newF c k).2) (by (repeat (first | exact Take.here | apply Take.there)))).nil 6 evC)
      exact (((h1.front (r := .own 6 mrC mv xs) (by (repeat (first | exact Take.here | apply Take.there)))).front (r := .ro (pack (mems xs))) (by (repeat (first | exact Take.here | apply Take.there)))).front (r := .ro (pack (rowsR u rvs c.rows))) (by (repeat (first | exact Take.here | apply Take.there)))).sub (by unfold stOwn; (repeat (first | exact List.Sublist.slnil | exact List.Sublist.refl _ | refine List.Sublist.cons_cons _ ?_ | refine List.Sublist.cons _ ?_)))
end Go.Proofs.YtengdmagaeckoaaGreat.VM

/- The statements' helpers: copies of events, events that are lent (LinF). -/
namespace Go.Proofs.YtengdmagaeckoaaGreat.VM
open Go
set_option linter.unusedVariables false
set_option linter.unusedSimpArgs false
attribute [local irreducible] wq wqL wqD wqE wqO Th Bk EndR
set_option maxHeartbeats 8000000

end Go.Proofs.YtengdmagaeckoaaGreat.VM

/- Layer 22: the document's New; copies of states, comparisons. -/
namespace Go.Proofs.YtengdmagaeckoaaGreat.VM
open Go
set_option linter.unusedVariables false
set_option linter.unusedSimpArgs false
attribute [local irreducible] wq wqL wqD wqE wqO Th Bk EndR
set_option maxHeartbeats 8000000

theorem refNew_ (H : Heap) (c : Cfg) (rv : V) (hr : Rows H rv c.rows) (hf : c.Fit) :
    ∃ w H', Call Tryz.prog 25 [.agg (cfgC c rv)] H w H' ∧ ∃ u mv sv rvs xs, w = .tup [.agg (stC (newR c).1.c u mv .nils sv), .int .i64 (newR c).2] ∧ Like rvs (newR c).1.c.rows ∧ xs.map MR.val = (newR c).1.ms ∧ Mem H H' (stOwn u mv .nils sv rvs xs (newR c).1) := by
  have l1 := hf.rows
  have l2 := hf.row
  have s0 : rv.cells = [rv] ∧ rv.isTup = false := by obtain ⟨_, h, _⟩ := hr; exact h.cells
  refine call_mem fit mixed Tryz.func25 rfl rfl rfl (by kernel_rfl) fun hM => ?_
  refine wq_seq (wq_line ?_)
  refine l_boxM T26 fun b1 H1 hM => ?_
  refine l_newM (cs := zeroSt) T59 rfl fun b2 H2 hM => ?_
  have c1 := refConfMay_ H2 c rv (hr.mono hM.pre) (by omega) (fun r hr => by have := l2 r hr; omega)
  unfold newR
  cases hc : cfgMay c with
  | false =>
    rw [hc] at c1
    rw [if_neg (by decide)]
    clear hc
    refine goM ?_
    refine l_callG c1 ?_
    refine goM ?_
    refine l_putM T59 fun H3 hM => ?_
    refine goM ?_
    exact end_2 (by first | exact .inl rfl | exact .inr rfl) ⟨.nils, .nils, .nils, [], [], rfl, ⟨rfl, by simp⟩, rfl, (no_state (H := H3)).low' hM.pre⟩
  | true =>
    rw [hc] at c1
    rw [if_pos rfl]
    obtain ⟨hm2, _⟩ := cfgMay_split hc
    obtain ⟨n, hn⟩ : ∃ n : Nat, c.m = n := ⟨c.m.toNat, by omega⟩
    have hn8 : n ≤ 8 := by omega
    have hlt : ∀ k : Nat, k < n → firstOk c k = true := fun k h => firstR_of hc (by omega)
    have hnew := fun i h => (new_ok hc i h).1
    have hnat : c.m.toNat = n := by omega
    have hS : newS c = ⟨c, (newF c n).1, [], (newF c n).2⟩ := by unfold newS; rw [hnat]
    rw [hS]
    clear hS hnat
    replace hn : Held (c.m = n) := hn
    refine goM ?_
    refine l_callG c1 ?_
    clear c1
    refine goM ?_
    obtain ⟨_, H3, c1, u, rvs, rfl, hlk, m1⟩ := copyConfig22_ H2 c rv (hr.mono hM.pre) hf
    refine l_callG c1 ?_
    have s1 : u.cells = [u] ∧ u.isTup = false := by obtain ⟨_, h, _⟩ := rows_pack (m1.fact .here) hlk; exact h.cells
    replace hM := hM.call1 m1
    clear c1 m1
    refine goM ?_
    refine l_newM (cs := zeroSt) T59 rfl fun b4 H4 hM => ?_
    refine l_putM T59 fun H5 hM => ?_
    refine goM ?_
    have hM0 : Mem H H5 [.box b4 (stC c u .nils .nils .nils), .ro (pack (mems [])), .own 6 mrC .nils [], .own 3 entC .nils [], .ro (pack (rowsR u rvs c.rows)), .box b2 zeroSt, .box b1 (cfgC c rv)] := by
      have h1 := Mem.packed (L := []) ((hM.nil 3 entC).nil 6 mrC)
      exact (h1.front (r := .box b4 (stC c u .nils .nils .nils)) (.there (.there (.there .here)))).sub (by (repeat (first | exact List.Sublist.slnil | exact List.Sublist.refl _ | refine List.Sublist.cons_cons _ ?_ | refine List.Sublist.cons _ ?_)))
    refine wq_loop (fun cc ρ h => ∃ (k : Nat) (mv sv : V) (xs : List MR), k ≤ n ∧ cc = n - k ∧ xs.map MR.val = (newF c k).1 ∧ Mem H h [.box b4 (stC c u mv .nils sv), .ro (pack (mems xs)), .own 6 mrC mv xs, .own 3 entC sv (newF c k).2, .ro (pack (rowsR u rvs c.rows)), .box b2 zeroSt, .box b1 (cfgC c rv)] ∧ ρ 1 = .ptr b1 0 ∧ ρ 2 = .ptr b2 0 ∧ ρ 4 = .ptr b4 0 ∧ ρ 5 = .int .i64 (k : Int)) ⟨0, .nils, .nils, [], Nat.zero_le _, rfl, rfl, hM0, by simp [put_app, put_none, rho0_app, *]⟩ ?_
    repeat clear hM
    clear hM0
    rintro _ ρ h ⟨k, mv, sv, xs, hk, rfl, hval, hM, g1, g2, g4, g5⟩
    have t1 := (hM.sl (v := mv) (xs := xs) (by (repeat (first | exact Has.here | apply Has.there)))).cells
    have t2 := (hM.sl (v := sv) (xs := (newF c k).2) (by (repeat (first | exact Has.here | apply Has.there)))).cells
    have hxl : xs.length = k := by rw [← List.length_map (f := MR.val), hval]; exact (hnew k (by omega)).len
    have hsl := (hnew k (by omega)).stl
    by_cases hk' : k < n
    · have dk : decide ((k : Int) < c.m) = true := decide_eq_true (by have : c.m = (n : Int) := hn; omega)
      have hw := wrap_succ (n := k) (by omega)
      obtain ⟨_, H6, c1, a, b', rfl, m1⟩ := ref_First h c rv k (hr.mono hM.pre) hf
      have hfk : firstKR c k = firstK c k := by unfold firstKR; rw [if_pos (hlt k hk')]
      have hfs : strOf (firstSR c k) = textK (firstK c k) := by unfold firstSR; rw [if_pos (hlt k hk')]; rfl
      have hfe : firstER c k = 0 := by unfold firstER; rw [if_pos (hlt k hk')]
      rw [hfk] at m1
      rw [hfk, hfs, hfe] at c1
      have s3 := (m1.sl .here).cells
      have s4 := (m1.sl (.there .here)).cells
      have hsucc : newF c (k + 1) = ((newF c k).1 ++ [(firstK c (k : Int), (putS (newF c k).2 (textK (firstK c (k : Int)))).2.1)], (putS (newF c k).2 (textK (firstK c (k : Int)))).1) := rfl
      clear hfk hfs hfe
      generalize hK : firstK c (k : Int) = K at *
      refine goM ?_
      refine l_callG c1 ?_
      replace hM := hM.call2 m1
      clear c1 m1
      refine goM ?_
      refine l_newM (cs := zeroMem) T48 rfl fun b6 H7 hM => ?_
      refine l_putM T48 fun H8 hM => ?_
      refine goM ?_
      obtain ⟨_, H9, c1, sv', rfl, m1⟩ := refPut15_ H8 sv (newF c k).2 (textK K) (hM.sl (v := sv) (xs := (newF c k).2) (by (repeat (first | exact Has.here | apply Has.there)))) (by omega)
      refine l_callG c1 ?_
      have s5 := (m1.sl .here).cells
      replace hM := hM.call1 m1
      clear c1 m1
      generalize putS (newF c k).2 (textK K) = o at *
      obtain ⟨st', id', er'⟩ := o
      simp only at hsucc hM ⊢
      refine goM ?_
      refine l_putM T3 fun H10 hM => ?_
      refine goM ?_
      refine l_putM T57 fun H11 hM => ?_
      refine goM ?_
      refine l_sliceM mrC [⟨a, b', K, id'⟩] (mC a b' K id') T56 rfl T48 rfl (cells_mrs [⟨a, b', K, id'⟩]) (by decide) fun e1 H12 hM => ?_
      refine goM ?_
      refine l_appM (hM.sl .here) (xs := xs) (hh := by (repeat (first | exact Has.here | apply Has.there))) (hb := by rw [hxl]; show (k + 1) * 80 ≤ _ ∧ k + 1 ≤ _; omega) fun mv' H13 hM => ?_
      have s6 := (hM.sl (v := mv') (xs := xs ++ [⟨a, b', K, id'⟩]) (by (repeat (first | exact Has.here | apply Has.there)))).cells
      refine goM ?_
      refine l_putM T56 fun H14 hM => ?_
      refine goM ?_
      have h1 := ((hM.front (r := .ro (pack (mems xs))) (by (repeat (first | exact Take.here | apply Take.there)))).front (r := .own 1 intC b' K.vs) (by (repeat (first | exact Take.here | apply Take.there)))).front (r := .own 1 intC a K.ws) (by (repeat (first | exact Take.here | apply Take.there)))
      have h2 := Mem.memsMore (x := ⟨a, b', K, id'⟩) h1
      have h3 := (((h2.front (r := .own 3 entC sv' st') (by (repeat (first | exact Take.here | apply Take.there)))).front (r := .own 6 mrC mv' (xs ++ [⟨a, b', K, id'⟩])) (by (repeat (first | exact Take.here | apply Take.there)))).front (r := .ro (pack (mems (xs ++ [⟨a, b', K, id'⟩])))) (by (repeat (first | exact Take.here | apply Take.there)))).front (r := .box b4 (stC c u mv' .nils sv')) (by (repeat (first | exact Take.here | apply Take.there)))
      refine ⟨n - (k + 1), by omega, k + 1, mv', sv', xs ++ [⟨a, b', K, id'⟩], hk', rfl, ?_, ?_, by simp [put_app, put_none, *]⟩
      · rw [hsucc, List.map_append, hval]; rfl
      · rw [hsucc]
        exact h3.sub (by (repeat (first | exact List.Sublist.slnil | exact List.Sublist.refl _ | refine List.Sublist.cons_cons _ ?_ | refine List.Sublist.cons _ ?_)))
    · have dk : decide ((k : Int) < c.m) = false := decide_eq_false (by have : c.m = (n : Int) := hn; omega)
      have hk'' : k = n := by omega
      subst hk''
      refine goM ?_
      refine l_putM T59 fun H6 hM => ?_
      refine goM ?_
      refine end_2 (by first | exact .inl rfl | exact .inr rfl) ⟨u, mv, sv, rvs, xs, rfl, hlk, hval, ?_⟩
      have h1 := ((hM.front (r := .own 3 entC sv (newF c k).2) (by (repeat (first | exact Take.here | apply Take.there)))).nil 6 evC)
      exact (((h1.front (r := .own 6 mrC mv xs) (by (repeat (first | exact Take.here | apply Take.there)))).front (r := .ro (pack (mems xs))) (by (repeat (first | exact Take.here | apply Take.there)))).front (r := .ro (pack (rowsR u rvs c.rows))) (by (repeat (first | exact Take.here | apply Take.there)))).sub (by unfold stOwn; (repeat (first | exact List.Sublist.slnil | exact List.Sublist.refl _ | refine List.Sublist.cons_cons _ ?_ | refine List.Sublist.cons _ ?_)))

theorem copyState_ (H : Heap) (s : St) (rv mv ev sv : V) (xs : List MR) (ha : StAt H rv mv ev sv xs s) (hf : s.Fit) :
    ∃ w H', Call Tryz.prog 23 [.agg (stC s.c rv mv ev sv)] H w H' ∧ ∃ u mv' ev' sv' rvs xs', w = .agg (stC s.c u mv' ev' sv') ∧ Like rvs s.c.rows ∧ xs'.map MR.val = s.ms ∧ Mem H H' (stOwn u mv' ev' sv' rvs xs' s) := by
  have z1 : rv.cells = [rv] ∧ rv.isTup = false := by obtain ⟨_, h, _⟩ := ha.rows; exact h.cells
  have z2 := ha.ms.cells
  have z3 := ha.es.cells
  have z4 := ha.st.cells
  have l4 := hf.es
  have l5 := hf.st
  refine call_mem fit mixed Tryz.func23 rfl rfl rfl (by kernel_rfl) fun hM => ?_
  refine wq_seq (wq_line ?_)
  refine l_boxM T59 fun b1 H1 hM => ?_
  refine l_newM (cs := zeroSt) T59 rfl fun b2 H2 hM => ?_
  obtain ⟨n, hn⟩ : ∃ n, xs.length = n := ⟨_, rfl⟩
  have hlen := ha.ms.len T56 rfl
  rw [hn] at hlen
  have hkx := hf.kx ha
  have hnb : n * 80 ≤ 140737488351232 := by have := hf.ms; rw [← hn, ha.len]; exact this
  refine goM ?_
  have hM0 : Mem H H2 [.ro (pack (mems [])), .own 6 mrC .nils [], .box b2 zeroSt, .box b1 (stC s.c rv mv ev sv)] := Mem.packed (L := []) (hM.nil 6 mrC)
  refine wq_loop (fun cc ρ h => ∃ (k : Nat) (v : V) (ys : List MR), k ≤ n ∧ cc = n - k ∧ ys.map MR.val = (xs.take k).map MR.val ∧ Mem H h [.ro (pack (mems ys)), .own 6 mrC v ys, .box b2 zeroSt, .box b1 (stC s.c rv mv ev sv)] ∧ ρ 1 = .ptr b1 0 ∧ ρ 2 = .ptr b2 0 ∧ ρ 3 = v ∧ ρ 4 = .int .i64 (k : Int)) ⟨0, .nils, [], Nat.zero_le _, rfl, rfl, hM0, by simp [put_app, put_none, rho0_app, *]⟩ ?_
  repeat clear hM
  clear hM0
  rintro _ ρ h ⟨k, v, ys, hk, rfl, hys, hM, g1, g2, g3, g4⟩
  have t1 := (hM.sl (v := v) (xs := ys) (by (repeat (first | exact Has.here | apply Has.there)))).cells
  have hyl : ys.length = k := by have := congrArg List.length hys; simp only [List.length_map, List.length_take] at this; omega
  refine goM ?_
  refine cond_go (fun hb => ?_) (fun hb => ?_)
  · have hk' : k < n := by simpa using hb
    clear hb
    obtain ⟨x, hx⟩ : ∃ x, xs[k]? = some x := ⟨xs[k]'(by omega), by simp⟩
    have hxm := List.mem_of_getElem? hx
    have hka := ha.ks x hxm
    have hkf := hkx x hxm
    obtain ⟨bo, o, hi, lo, _, _⟩ := mr_at (ha.ms.mono hM.pre) hx
    have hw := wrap_succ (n := k) (by omega)
    have s1 := hka.ws.cells
    have s2 := hka.vs.cells
    have htk : (xs.take (k + 1)).map MR.val = (xs.take k).map MR.val ++ [x.val] := by rw [List.take_add_one, hx]; simp
    obtain ⟨xw, xv, xk, xh⟩ := x
    simp only at lo s1 s2 hka hkf
    clear hx hxm
    refine goM ?_
    refine l_newM (cs := zeroMem) T48 rfl fun b5 H4 hM => ?_
    refine l_putM T48 fun H5 hM => ?_
    refine goM ?_
    obtain ⟨_, H6, c1, a, b', rfl, m1⟩ := copyCheckM_ H5 xw xv xk (hka.mono hM.pre) hkf
    refine l_callG c1 ?_
    have s3 := (m1.sl .here).cells
    have s4 := (m1.sl (.there .here)).cells
    replace hM := hM.call2 m1
    clear c1 m1
    refine goM ?_
    refine l_putM T34 fun H7 hM => ?_
    refine goM ?_
    refine l_sliceM mrC [⟨a, b', xk, xh⟩] (mC a b' xk xh) T56 rfl T48 rfl (cells_mrs [⟨a, b', xk, xh⟩]) (by decide) fun e1 H8 hM => ?_
    refine goM ?_
    refine l_appM (hM.sl .here) (xs := ys) (hh := by (repeat (first | exact Has.here | apply Has.there))) (hb := by rw [hyl]; show (k + 1) * 80 ≤ _ ∧ k + 1 ≤ _; omega) fun v' H9 hM => ?_
    have s6 := (hM.sl (v := v') (xs := ys ++ [⟨a, b', xk, xh⟩]) (by (repeat (first | exact Has.here | apply Has.there)))).cells
    refine goM ?_
    have h1 := ((hM.front (r := .ro (pack (mems ys))) (by (repeat (first | exact Take.here | apply Take.there)))).front (r := .own 1 intC b' xk.vs) (by (repeat (first | exact Take.here | apply Take.there)))).front (r := .own 1 intC a xk.ws) (by (repeat (first | exact Take.here | apply Take.there)))
    have h2 := Mem.memsMore (x := ⟨a, b', xk, xh⟩) h1
    have h3 := (h2.front (r := .own 6 mrC v' (ys ++ [⟨a, b', xk, xh⟩])) (by (repeat (first | exact Take.here | apply Take.there)))).swap
    have h4 := h3.front (r := .ro (pack (mems (ys ++ [⟨a, b', xk, xh⟩])))) (by (repeat (first | exact Take.here | apply Take.there)))
    refine ⟨n - (k + 1), by omega, k + 1, v', ys ++ [⟨a, b', xk, xh⟩], hk', rfl, ?_, h4.sub (by (repeat (first | exact List.Sublist.slnil | exact List.Sublist.refl _ | refine List.Sublist.cons_cons _ ?_ | refine List.Sublist.cons _ ?_))), by simp [put_app, put_none, *]⟩
    rw [htk, List.map_append, hys]; rfl
  · have hk' : k = n := by have : ¬ k < n := by simpa using hb
                           omega
    subst hk'
    clear hb
    rw [List.take_of_length_le (by omega), ha.val] at hys
    refine goM ?_
    refine l_sliceM (sz := 6) evC [] [] T27 rfl T78 rfl Cells.nil (by decide) fun e1 H3 hM => ?_
    refine goM ?_
    refine l_appM (ha.es.mono hM.pre) (xs := []) (hb := by simp only [List.length_nil]; show (0 + s.es.length) * 48 ≤ _ ∧ _; omega) fun ev' H4 hM => ?_
    have s5 := (hM.sl .here).cells
    refine goM ?_
    refine l_sliceM (sz := 3) entC [] [] T57 rfl T76 rfl Cells.nil (by decide) fun e2 H5 hM => ?_
    refine goM ?_
    refine l_appM (ha.st.mono hM.pre) (xs := []) (hb := by simp only [List.length_nil]; show (0 + s.st.length) * 32 ≤ _ ∧ _; omega) fun sv' H6 hM => ?_
    have s6 := (hM.sl .here).cells
    refine goM ?_
    obtain ⟨_, H7, c1, u, rvs, rfl, hlk, m1⟩ := copyConfigO_ H6 s.c rv (ha.rows.mono hM.pre) hf.c
    refine l_callG c1 ?_
    have s7 : u.cells = [u] ∧ u.isTup = false := by obtain ⟨_, h, _⟩ := rows_pack (m1.fact .here) hlk; exact h.cells
    replace hM := hM.call1 m1
    clear c1 m1
    refine goM ?_
    refine l_putM T59 fun H8 hM => ?_
    refine goM ?_
    refine end_1 (by first | exact .inl rfl | exact .inr rfl) ⟨u, v, ev', sv', rvs, ys, rfl, hlk, hys, ?_⟩
    have h1 := (((hM.front (r := .own 3 entC sv' ([] ++ s.st)) (by (repeat (first | exact Take.here | apply Take.there)))).front (r := .own 6 evC ev' ([] ++ s.es)) (by (repeat (first | exact Take.here | apply Take.there)))).front (r := .own 6 mrC v ys) (by (repeat (first | exact Take.here | apply Take.there)))).front (r := .ro (pack (mems ys))) (by (repeat (first | exact Take.here | apply Take.there)))
    exact (h1.front (r := .ro (pack (rowsR u rvs s.c.rows))) (by (repeat (first | exact Take.here | apply Take.there)))).sub (by unfold stOwn; (repeat (first | exact List.Sublist.slnil | exact List.Sublist.refl _ | refine List.Sublist.cons_cons _ ?_ | refine List.Sublist.cons _ ?_)))

end Go.Proofs.YtengdmagaeckoaaGreat.VM

/- Layer 24: the document's turned and CopyCheck. -/
namespace Go.Proofs.YtengdmagaeckoaaGreat.VM
open Go
set_option linter.unusedVariables false
set_option linter.unusedSimpArgs false
attribute [local irreducible] wq wqL wqD wqE wqO Th Bk EndR
set_option maxHeartbeats 8000000

/-- a slice of numbers that is one of some parts, or nil -/
def Lies (W : List Res) (v : V) (xs : List Int) : Prop := (v = .nils ∧ xs = []) ∨ Res.own 1 intC v xs ∈ W
theorem Lies.more {W : List Res} {v : V} {xs : List Int} (h : Lies W v xs) (N : List Res) : Lies (N ++ W) v xs := h.imp id fun h => List.mem_append_right _ h
theorem Lies.sl {W : List Res} {v : V} {xs : List Int} (h : Lies W v xs) {H : Heap} (hW : (pack W).p H) : Sl 1 intC H v xs := by
  rcases h with ⟨rfl, rfl⟩ | h
  · exact .inl ⟨rfl, rfl⟩
  · have hm := pack_mem hW
    have h2 : Mem [] H [.own 1 intC v xs] := hm.sub (List.singleton_sublist.2 h)
    exact h2.sl .here
abbrev evV (e : Ev) : List V := [.int .i64 e.kind, .int .i64 e.member, .int .i64 e.donor, .int .i64 e.at_, .int .i64 e.rate, .int .i64 e.mom]
end Go.Proofs.YtengdmagaeckoaaGreat.VM

/- Layer 24: the document's Fold. -/
namespace Go.Proofs.YtengdmagaeckoaaGreat.VM
open Go
set_option linter.unusedVariables false
set_option linter.unusedSimpArgs false
attribute [local irreducible] wq wqL wqD wqE wqO Th Bk EndR
set_option maxHeartbeats 8000000

/-- one of many parts is taken out -/
theorem Mem.pull {B H : Heap} {L M : List Res} {i : Nat} {r : Res} (h : Mem B H (.ro (pack L) :: M)) (hr : L[i]? = some r) : Mem B H (r :: .ro (pack (L.set i (.own 1 intC .nils []))) :: M) := by
  obtain ⟨hi, rfl⟩ := List.getElem?_eq_some_iff.1 hr
  have h1 := h.unpacked.nil 1 intC
  have e : L = L.take i ++ L[i] :: L.drop (i + 1) := by rw [← List.drop_eq_getElem_cons hi, List.take_append_drop]
  have e2 : L.set i (.own 1 intC .nils ([] : List Int)) = L.take i ++ .own 1 intC .nils [] :: L.drop (i + 1) := by rw [List.set_eq_take_append_cons_drop, if_pos hi]
  have h2 : Mem B H ((L.take i ++ .own 1 intC .nils ([] : List Int) :: L.drop (i + 1)) ++ (L[i] :: M)) := by
    have p : ∀ (A D M : List Res) (x z : Res), (z :: ((A ++ x :: D) ++ M)).Perm ((A ++ z :: D) ++ x :: M) := fun A D M x z => by
      simp only [List.append_assoc, List.cons_append]
      exact (List.perm_middle.symm).trans (List.Perm.append_left A (List.Perm.cons z List.perm_middle.symm))
    refine h1.perm (List.Perm.trans ?_ (p _ _ _ _ _))
    rw [← e]
  rw [← e2] at h2
  exact h2.packed.swap

/-- a checkpoint of a history -/
structure HChk where
  w : V
  v : V
  k : Chk
def ckC (cs : List V) (x : HChk) : Prop := cs = kC x.w x.v x.k
structure HRow where
  v : V
  r : List HChk
def hrPart (x : HRow) : Res := .own 5 ckC x.v x.r
def hrs (rw : List HRow) : List Res := rw.map hrPart
end Go.Proofs.YtengdmagaeckoaaGreat.VM
