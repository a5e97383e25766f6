/- Chapter 18: the statement LineageMany. -/
import Derived.Test.YtibpfgamiilpkaaLinI
namespace Go.Proofs.Ytibpfgamiilpkaa.VM
open Go
set_option linter.unusedVariables false
set_option linter.unusedSimpArgs false
attribute [local irreducible] wq wqL wqD wqE wqO Th Bk EndR
set_option maxHeartbeats 8000000

def belowOf (es : List Ev) (k : Nat) : Nat := (es.filter fun e => decide (0 ≤ e.member) && decide (e.member < (k : Int))).length
theorem below_zero (es : List Ev) : belowOf es 0 = 0 := by
  unfold belowOf
  rw [List.length_eq_zero_iff, List.filter_eq_nil_iff]
  intro e _
  simp
theorem below_succ (es : List Ev) (k : Nat) : belowOf es (k + 1) = belowOf es k + manyOf es k := by
  induction es with
  | nil => rfl
  | cons e es ih =>
    unfold belowOf manyOf at *
    simp only [List.filter_cons]
    by_cases h1 : 0 ≤ e.member
    · by_cases h2 : e.member < (k : Int)
      · have h3 : ¬ e.member = (k : Int) := by omega
        have h4 : e.member < ((k + 1 : Nat) : Int) := by omega
        simp only [h1, h2, h3, h4, decide_true, Bool.and_self, if_true, List.length_cons, beq_iff_eq, if_false]
        omega
      · by_cases h3 : e.member = (k : Int)
        · have h4 : e.member < ((k + 1 : Nat) : Int) := by omega
          simp only [h1, h2, h4, decide_true, decide_false, Bool.and_false, Bool.false_eq_true, Bool.and_self, if_true, if_false, List.length_cons]
          rw [if_pos (by simp [h3]), List.length_cons]
          omega
        · have h4 : ¬ e.member < ((k + 1 : Nat) : Int) := by omega
          simp only [h1, h2, h3, h4, decide_true, decide_false, Bool.and_false, Bool.false_eq_true, if_false, beq_iff_eq]
          exact ih
    · have h3 : ¬ e.member = (k : Int) := by omega
      simp only [h1, h3, decide_false, Bool.false_and, Bool.false_eq_true, if_false, beq_iff_eq]
      exact ih
theorem below_le (es : List Ev) (k : Nat) : belowOf es k ≤ es.length := List.length_filter_le ..

theorem evMay_member {es : List Ev} {n : Int} {e : Ev} (h : evMay es n e = true) : 0 ≤ e.member ∧ e.member < n := by
  unfold evMay at h
  simp only [Bool.and_eq_true] at h
  have := h.1
  rw [within_lt] at this
  simpa using this
theorem below_all {es : List Ev} {n : Nat} (h : eventsMay es n = true) : belowOf es n = es.length := by
  obtain ⟨_, _, h3⟩ := eventsMay_all h
  unfold belowOf
  rw [List.filter_eq_self.2]
  intro e he
  obtain ⟨k, hk⟩ := List.mem_iff_getElem?.1 he
  have := evMay_member (h3 k e hk)
  simpa using this
theorem many_none {es : List Ev} {n m : Int} (h : eventsMay es n = true) (hm : m < 0 ∨ n ≤ m) : manyOf es m = 0 := by
  obtain ⟨_, _, h3⟩ := eventsMay_all h
  unfold manyOf
  rw [List.length_eq_zero_iff, List.filter_eq_nil_iff]
  intro e he
  obtain ⟨k, hk⟩ := List.mem_iff_getElem?.1 he
  have := evMay_member (h3 k e hk)
  simp; omega

theorem law_lineageMany {D : Type} (K : Heap) (vs : List V) (ds : List (DataW D)) (ro : Ro K) (h : RdAll T K [22, 3] vs ds) : ∃ K', Call Try.prog 5 vs K (.bool true) K' := by
  obtain ⟨v, vs, d, ds, rfl, rfl, hv, h⟩ := rdAll_cons h
  obtain ⟨u, vs, d, ds, rfl, rfl, hu, h⟩ := rdAll_cons h
  obtain ⟨rfl, rfl⟩ := rdAll_nil h
  obtain ⟨n, rfl, hn⟩ := hu.int T3 rfl
  obtain ⟨es, hes, hl⟩ := rd_events hv
  replace hl : es.length * 48 ≤ 140737488351232 := hl
  clear hv hu hn h
  refine ⟨K, ?_⟩
  refine call_plain fit mixed Try.func5 rfl rfl rfl (by kernel_rfl) rfl ?_
  have hlen := hes.len T22 rfl
  have l0 := awake_ K
  have l1 := lineageMay K v es n hes (by omega)
  have l2 := eventsMayRef K v es n hes (by omega)
  repeat (first | refine l_go ?_ | refine d_go ?_ | refine l_onG ?_ | refine l_offG ?_ | refine d_onG ?_ | refine d_offG ?_ | refine wq_seq ?_ | refine wq_line ?_ | refine wq_draw (by decide +kernel) ?_ | refine wq_block ?_ | refine l_nil ?_ | refine d_nil ?_ | refine wq_skip ?_ | refine wq_ret ?_ | refine wq_exit ?_ | refine th_normal ?_ | refine th_ret ?_ | refine th_exit ?_ | refine bk_normal ?_ | refine bk_ret ?_ | refine bk_exit ?_ | refine bk_other rfl ?_)
  refine l_callG l0 ?_
  repeat (first | refine l_go ?_ | refine d_go ?_ | refine l_onG ?_ | refine l_offG ?_ | refine d_onG ?_ | refine d_offG ?_ | refine wq_seq ?_ | refine wq_line ?_ | refine wq_draw (by decide +kernel) ?_ | refine wq_block ?_ | refine l_nil ?_ | refine d_nil ?_ | refine wq_skip ?_ | refine wq_ret ?_ | refine wq_exit ?_ | refine th_normal ?_ | refine th_ret ?_ | refine th_exit ?_ | refine bk_normal ?_ | refine bk_ret ?_ | refine bk_exit ?_ | refine bk_other rfl ?_)
  refine cond_go (fun hb => ?_) (fun hb => ?_)
  · cases hb
  · clear hb
    repeat (first | refine l_go ?_ | refine d_go ?_ | refine l_onG ?_ | refine l_offG ?_ | refine d_onG ?_ | refine d_offG ?_ | refine wq_seq ?_ | refine wq_line ?_ | refine wq_draw (by decide +kernel) ?_ | refine wq_block ?_ | refine l_nil ?_ | refine d_nil ?_ | refine wq_skip ?_ | refine wq_ret ?_ | refine wq_exit ?_ | refine th_normal ?_ | refine th_ret ?_ | refine th_exit ?_ | refine bk_normal ?_ | refine bk_ret ?_ | refine bk_exit ?_ | refine bk_other rfl ?_)
    refine l_callG l1 ?_
    cases hmay : eventsMay es n
    · rw [hmay] at l2
      repeat (first | refine l_go ?_ | refine d_go ?_ | refine l_onG ?_ | refine l_offG ?_ | refine d_onG ?_ | refine d_offG ?_ | refine wq_seq ?_ | refine wq_line ?_ | refine wq_draw (by decide +kernel) ?_ | refine wq_block ?_ | refine l_nil ?_ | refine d_nil ?_ | refine wq_skip ?_ | refine wq_ret ?_ | refine wq_exit ?_ | refine th_normal ?_ | refine th_ret ?_ | refine th_exit ?_ | refine bk_normal ?_ | refine bk_ret ?_ | refine bk_exit ?_ | refine bk_other rfl ?_)
      refine cond_go (fun hb => ?_) (fun hb => ?_)
      · repeat (first | refine l_go ?_ | refine d_go ?_ | refine l_onG ?_ | refine l_offG ?_ | refine d_onG ?_ | refine d_offG ?_ | refine wq_seq ?_ | refine wq_line ?_ | refine wq_draw (by decide +kernel) ?_ | refine wq_block ?_ | refine l_nil ?_ | refine d_nil ?_ | refine wq_skip ?_ | refine wq_ret ?_ | refine wq_exit ?_ | refine th_normal ?_ | refine th_ret ?_ | refine th_exit ?_ | refine bk_normal ?_ | refine bk_ret ?_ | refine bk_exit ?_ | refine bk_other rfl ?_)
        refine l_callG l2 ?_
        repeat (first | refine l_go ?_ | refine d_go ?_ | refine l_onG ?_ | refine l_offG ?_ | refine d_onG ?_ | refine d_offG ?_ | refine wq_seq ?_ | refine wq_line ?_ | refine wq_draw (by decide +kernel) ?_ | refine wq_block ?_ | refine l_nil ?_ | refine d_nil ?_ | refine wq_skip ?_ | refine wq_ret ?_ | refine wq_exit ?_ | refine th_normal ?_ | refine th_ret ?_ | refine th_exit ?_ | refine bk_normal ?_ | refine bk_ret ?_ | refine bk_exit ?_ | refine bk_other rfl ?_)
        refine end_ret (by simp only [resRf, resRs, resR]; first | done | rfl) ⟨?_, by first | exact List.prefix_refl _ | exact List.prefix_append _ _ | assumption | (refine List.IsPrefix.trans (by assumption) (List.prefix_append _ _)) | (simp only [List.append_assoc, List.cons_append, List.nil_append, List.set_cons_zero, List.set_cons_succ]; exact ⟨_, by simp only [List.append_assoc, List.cons_append, List.nil_append]; rfl⟩)⟩; simp [put_app, put_none, *]
      · cases hb
    · have hw := (eventsMay_all hmay).1
      simp [within] at hw
      obtain ⟨nn, rfl⟩ : ∃ nn : Nat, n = (nn : Int) := ⟨n.toNat, by omega⟩
      have hsum := below_all hmay
      have z1 := many_none (m := (nn : Int)) hmay (.inr (Int.le_refl _))
      have z2 := many_none (m := -1) hmay (.inl (by decide))
      have l3 := many K v es nn hes (by omega)
      have l4 := many K v es (-1) hes (by omega)
      rw [z1] at l3
      rw [z2] at l4
      have hnn : nn ≤ 8 := by omega
      clear z1 z2 hw l0 l1 l2 hmay
      repeat (first | refine l_go ?_ | refine d_go ?_ | refine l_onG ?_ | refine l_offG ?_ | refine d_onG ?_ | refine d_offG ?_ | refine wq_seq ?_ | refine wq_line ?_ | refine wq_draw (by decide +kernel) ?_ | refine wq_block ?_ | refine l_nil ?_ | refine d_nil ?_ | refine wq_skip ?_ | refine wq_ret ?_ | refine wq_exit ?_ | refine th_normal ?_ | refine th_ret ?_ | refine th_exit ?_ | refine bk_normal ?_ | refine bk_ret ?_ | refine bk_exit ?_ | refine bk_other rfl ?_)
      refine cond_go (fun hb => ?_) (fun hb => ?_)
      · cases hb
      · clear hb
        repeat (first | refine l_go ?_ | refine d_go ?_ | refine l_onG ?_ | refine l_offG ?_ | refine d_onG ?_ | refine d_offG ?_ | refine wq_seq ?_ | refine wq_line ?_ | refine wq_draw (by decide +kernel) ?_ | refine wq_block ?_ | refine l_nil ?_ | refine d_nil ?_ | refine wq_skip ?_ | refine wq_ret ?_ | refine wq_exit ?_ | refine th_normal ?_ | refine th_ret ?_ | refine th_exit ?_ | refine bk_normal ?_ | refine bk_ret ?_ | refine bk_exit ?_ | refine bk_other rfl ?_)
        refine wq_loop (fun c ρ h => ∃ k, k ≤ nn ∧ c = nn - k ∧ h = K ∧ ρ 0 = v ∧ ρ 1 = .int .i64 (nn : Nat) ∧ ρ 6 = .int .i64 (k : Nat) ∧ ρ 5 = .int .i64 (belowOf es k : Nat)) ⟨0, Nat.zero_le _, rfl, rfl, rfl, rfl, rfl, by rw [below_zero]; rfl⟩ ?_
        rintro _ ρ hh ⟨k, hk, rfl, rfl, h0, h1, h6, h5⟩
        repeat (first | refine l_go ?_ | refine d_go ?_ | refine l_onG ?_ | refine l_offG ?_ | refine d_onG ?_ | refine d_offG ?_ | refine wq_seq ?_ | refine wq_line ?_ | refine wq_draw (by decide +kernel) ?_ | refine wq_block ?_ | refine l_nil ?_ | refine d_nil ?_ | refine wq_skip ?_ | refine wq_ret ?_ | refine wq_exit ?_ | refine th_normal ?_ | refine th_ret ?_ | refine th_exit ?_ | refine bk_normal ?_ | refine bk_ret ?_ | refine bk_exit ?_ | refine bk_other rfl ?_)
        refine cond_go (fun hb => ?_) (fun hb => ?_)
        · have hk' : k < nn := by simpa using hb
          clear hb
          have hle := below_le es (k + 1)
          have hs := below_succ es k
          have hw := wrap_succ (n := k) (by omega)
          have hw2 : IntKind.i64.wrap ((belowOf es k : Int) + (manyOf es k : Int)) = ((belowOf es (k + 1) : Nat) : Int) := by rw [hs]; exact wrap_i64 (by omega) (by omega)
          have l5 := many _ v es k hes (by omega)
          clear hs hle hl
          repeat (first | refine l_go ?_ | refine d_go ?_ | refine l_onG ?_ | refine l_offG ?_ | refine d_onG ?_ | refine d_offG ?_ | refine wq_seq ?_ | refine wq_line ?_ | refine wq_draw (by decide +kernel) ?_ | refine wq_block ?_ | refine l_nil ?_ | refine d_nil ?_ | refine wq_skip ?_ | refine wq_ret ?_ | refine wq_exit ?_ | refine th_normal ?_ | refine th_ret ?_ | refine th_exit ?_ | refine bk_normal ?_ | refine bk_ret ?_ | refine bk_exit ?_ | refine bk_other rfl ?_)
          refine l_callG l5 ?_
          repeat (first | refine l_go ?_ | refine d_go ?_ | refine l_onG ?_ | refine l_offG ?_ | refine d_onG ?_ | refine d_offG ?_ | refine wq_seq ?_ | refine wq_line ?_ | refine wq_draw (by decide +kernel) ?_ | refine wq_block ?_ | refine l_nil ?_ | refine d_nil ?_ | refine wq_skip ?_ | refine wq_ret ?_ | refine wq_exit ?_ | refine th_normal ?_ | refine th_ret ?_ | refine th_exit ?_ | refine bk_normal ?_ | refine bk_ret ?_ | refine bk_exit ?_ | refine bk_other rfl ?_)
          refine ⟨nn - (k + 1), by omega, k + 1, hk', rfl, rfl, ?_⟩
          simp [put_app, put_none, *]
        · have hk' : k = nn := by have : ¬ k < nn := by simpa using hb
                                  omega
          subst hk'
          rw [hsum] at h5
          clear hb hsum
          repeat (first | refine l_go ?_ | refine d_go ?_ | refine l_onG ?_ | refine l_offG ?_ | refine d_onG ?_ | refine d_offG ?_ | refine wq_seq ?_ | refine wq_line ?_ | refine wq_draw (by decide +kernel) ?_ | refine wq_block ?_ | refine l_nil ?_ | refine d_nil ?_ | refine wq_skip ?_ | refine wq_ret ?_ | refine wq_exit ?_ | refine th_normal ?_ | refine th_ret ?_ | refine th_exit ?_ | refine bk_normal ?_ | refine bk_ret ?_ | refine bk_exit ?_ | refine bk_other rfl ?_)
          refine l_callG l3 ?_
          repeat (first | refine l_go ?_ | refine d_go ?_ | refine l_onG ?_ | refine l_offG ?_ | refine d_onG ?_ | refine d_offG ?_ | refine wq_seq ?_ | refine wq_line ?_ | refine wq_draw (by decide +kernel) ?_ | refine wq_block ?_ | refine l_nil ?_ | refine d_nil ?_ | refine wq_skip ?_ | refine wq_ret ?_ | refine wq_exit ?_ | refine th_normal ?_ | refine th_ret ?_ | refine th_exit ?_ | refine bk_normal ?_ | refine bk_ret ?_ | refine bk_exit ?_ | refine bk_other rfl ?_)
          refine l_callG l4 ?_
          repeat (first | refine l_go ?_ | refine d_go ?_ | refine l_onG ?_ | refine l_offG ?_ | refine d_onG ?_ | refine d_offG ?_ | refine wq_seq ?_ | refine wq_line ?_ | refine wq_draw (by decide +kernel) ?_ | refine wq_block ?_ | refine l_nil ?_ | refine d_nil ?_ | refine wq_skip ?_ | refine wq_ret ?_ | refine wq_exit ?_ | refine th_normal ?_ | refine th_ret ?_ | refine th_exit ?_ | refine bk_normal ?_ | refine bk_ret ?_ | refine bk_exit ?_ | refine bk_other rfl ?_)
          refine end_ret (by simp only [resRf, resRs, resR]; first | done | rfl) ⟨?_, by first | exact List.prefix_refl _ | exact List.prefix_append _ _ | assumption | (refine List.IsPrefix.trans (by assumption) (List.prefix_append _ _)) | (simp only [List.append_assoc, List.cons_append, List.nil_append, List.set_cons_zero, List.set_cons_succ]; exact ⟨_, by simp only [List.append_assoc, List.cons_append, List.nil_append]; rfl⟩)⟩; simp [put_app, put_none, *]
end Go.Proofs.Ytibpfgamiilpkaa.VM
