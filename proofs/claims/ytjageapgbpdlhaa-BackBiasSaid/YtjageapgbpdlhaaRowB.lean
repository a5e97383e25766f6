/- The statements' helpers: rows of data that are compared; rows and shapes that are handed in. -/
import Derived.Test.YtjageapgbpdlhaaRowA
namespace Go.Proofs.Ytjageapgbpdlhaa.VM
open Go
set_option linter.unusedVariables false
set_option linter.unusedSimpArgs false
attribute [local irreducible] wq wqL wqD wqE wqO Th Bk EndR
set_option maxHeartbeats 8000000

theorem sameRows_ (H : Heap) (u v : V) (xs ys : List (List Int × Int)) (hx : Rows H u xs) (hy : Rows H v ys) (lx : xs.length ≤ 2 ^ 47) (l1 : ∀ r ∈ xs, r.1.length ≤ 2 ^ 47) : Call Try.prog 21 [u, v] H (.bool (decide (xs = ys))) H := by
  refine call_plain fit mixed Try.func21 rfl rfl rfl (by kernel_rfl) rfl ?_
  obtain ⟨xv, hxv, hxl, hxr⟩ := hx
  obtain ⟨yv, hyv, hyl, hyr⟩ := hy
  have hlx := hxv.len T28 rfl
  have hly := hyv.len T28 rfl
  rw [hxl] at hlx
  rw [hyl] at hly
  repeat (first | refine l_go ?_ | refine d_go ?_ | refine l_onG ?_ | refine l_offG ?_ | refine d_onG ?_ | refine d_offG ?_ | refine wq_seq ?_ | refine wq_line ?_ | refine wq_draw (by decide +kernel) ?_ | refine wq_block ?_ | refine l_nil ?_ | refine d_nil ?_ | refine wq_skip ?_ | refine wq_ret ?_ | refine wq_exit ?_ | refine th_normal ?_ | refine th_ret ?_ | refine th_exit ?_ | refine bk_normal ?_ | refine bk_ret ?_ | refine bk_exit ?_ | refine bk_other rfl ?_)
  refine cond_go (fun hb => ?_) (fun hb => ?_)
  · repeat (first | refine l_go ?_ | refine d_go ?_ | refine l_onG ?_ | refine l_offG ?_ | refine d_onG ?_ | refine d_offG ?_ | refine wq_seq ?_ | refine wq_line ?_ | refine wq_draw (by decide +kernel) ?_ | refine wq_block ?_ | refine l_nil ?_ | refine d_nil ?_ | refine wq_skip ?_ | refine wq_ret ?_ | refine wq_exit ?_ | refine th_normal ?_ | refine th_ret ?_ | refine th_exit ?_ | refine bk_normal ?_ | refine bk_ret ?_ | refine bk_exit ?_ | refine bk_other rfl ?_)
    refine end_ret (by simp only [resRf, resRs, resR]; first | done | rfl) ⟨?_, by first | exact List.prefix_refl _ | exact List.prefix_append _ _ | assumption | (refine List.IsPrefix.trans (by assumption) (List.prefix_append _ _)) | (simp only [List.append_assoc, List.cons_append, List.nil_append, List.set_cons_zero, List.set_cons_succ]; exact ⟨_, by simp only [List.append_assoc, List.cons_append, List.nil_append]; rfl⟩)⟩; simp [put_app, put_none, *]
    intro e
    subst e
    simp at hb
  · have hl : xs.length = ys.length := by simp at hb; omega
    repeat (first | refine l_go ?_ | refine d_go ?_ | refine l_onG ?_ | refine l_offG ?_ | refine d_onG ?_ | refine d_offG ?_ | refine wq_seq ?_ | refine wq_line ?_ | refine wq_draw (by decide +kernel) ?_ | refine wq_block ?_ | refine l_nil ?_ | refine d_nil ?_ | refine wq_skip ?_ | refine wq_ret ?_ | refine wq_exit ?_ | refine th_normal ?_ | refine th_ret ?_ | refine th_exit ?_ | refine bk_normal ?_ | refine bk_ret ?_ | refine bk_exit ?_ | refine bk_other rfl ?_)
    refine wq_loop (fun c ρ h => ∃ k, k ≤ xs.length ∧ c = xs.length - k ∧ h = H ∧ xs.take k = ys.take k ∧ ρ 0 = u ∧ ρ 1 = v ∧ ρ 5 = .int .i64 (k : Nat)) ⟨0, Nat.zero_le _, rfl, rfl, by simp, rfl, rfl, rfl⟩ ?_
    rintro _ ρ h ⟨k, hk, rfl, rfl, hsame, h0, h1, h5⟩
    clear hb
    repeat (first | refine l_go ?_ | refine d_go ?_ | refine l_onG ?_ | refine l_offG ?_ | refine d_onG ?_ | refine d_offG ?_ | refine wq_seq ?_ | refine wq_line ?_ | refine wq_draw (by decide +kernel) ?_ | refine wq_block ?_ | refine l_nil ?_ | refine d_nil ?_ | refine wq_skip ?_ | refine wq_ret ?_ | refine wq_exit ?_ | refine th_normal ?_ | refine th_ret ?_ | refine th_exit ?_ | refine bk_normal ?_ | refine bk_ret ?_ | refine bk_exit ?_ | refine bk_other rfl ?_)
    refine cond_go (fun hb => ?_) (fun hb => ?_)
    · have hk' : k < xs.length := by simp at hb; omega
      clear hb
      obtain ⟨⟨px, a⟩, hpk⟩ : ∃ p, xv[k]? = some p := ⟨xv[k]'(by omega), by simp⟩
      obtain ⟨⟨al, a'⟩, hxk⟩ : ∃ r, xs[k]? = some r := ⟨xs[k], by simp [hk']⟩
      obtain ⟨⟨qx, c⟩, hqk⟩ : ∃ p, yv[k]? = some p := ⟨yv[k]'(by omega), by simp⟩
      obtain ⟨⟨cs, c'⟩, hyk⟩ : ∃ r, ys[k]? = some r := ⟨ys[k]'(by omega), by simp⟩
      obtain ⟨s1, e1⟩ := hxr k _ _ hpk hxk
      obtain rfl : a = a' := e1
      obtain ⟨s2, e2⟩ := hyr k _ _ hqk hyk
      obtain rfl : c = c' := e2
      obtain ⟨b, o, _, hi, rfl, _, _, hlo⟩ := hxv.get T28 rfl T26 rfl hpk
      obtain ⟨b2, o2, _, hi2, rfl, _, _, hlo2⟩ := hyv.get T28 rfl T26 rfl hqk
      have q0 : loadV T 24 h b o = some px := loadV_one T24 rfl (hlo 0 _ rfl)
      have q1 : loadV T 3 h b (o + 1) = some (.int .i64 a) := loadV_one T3 rfl (hlo 1 _ rfl)
      have r0 : loadV T 24 h b2 o2 = some qx := loadV_one T24 rfl (hlo2 0 _ rfl)
      have r1 : loadV T 3 h b2 (o2 + 1) = some (.int .i64 c) := loadV_one T3 rfl (hlo2 1 _ rfl)
      have c1 := sameInts_ h px qx al cs s1 s2 (l1 _ (List.mem_iff_getElem?.2 ⟨k, hxk⟩))
      have hw := wrap_succ (n := k) (by omega)
      by_cases hac : a = c
      · subst hac
        by_cases hcs : al = cs
        · subst hcs
          rw [decide_eq_true rfl] at c1
          have hnext := take_step hsame hxk hyk rfl
          clear hlo hlo2 hxk hyk hpk hqk s1 s2 hsame
          repeat (first | refine l_go ?_ | refine d_go ?_ | refine l_onG ?_ | refine l_offG ?_ | refine d_onG ?_ | refine d_offG ?_ | refine wq_seq ?_ | refine wq_line ?_ | refine wq_draw (by decide +kernel) ?_ | refine wq_block ?_ | refine l_nil ?_ | refine d_nil ?_ | refine wq_skip ?_ | refine wq_ret ?_ | refine wq_exit ?_ | refine th_normal ?_ | refine th_ret ?_ | refine th_exit ?_ | refine bk_normal ?_ | refine bk_ret ?_ | refine bk_exit ?_ | refine bk_other rfl ?_)
          refine d_call0G c1 ?_
          repeat (first | refine l_go ?_ | refine d_go ?_ | refine l_onG ?_ | refine l_offG ?_ | refine d_onG ?_ | refine d_offG ?_ | refine wq_seq ?_ | refine wq_line ?_ | refine wq_draw (by decide +kernel) ?_ | refine wq_block ?_ | refine l_nil ?_ | refine d_nil ?_ | refine wq_skip ?_ | refine wq_ret ?_ | refine wq_exit ?_ | refine th_normal ?_ | refine th_ret ?_ | refine th_exit ?_ | refine bk_normal ?_ | refine bk_ret ?_ | refine bk_exit ?_ | refine bk_other rfl ?_)
          refine cond_go (fun hb => ?_) (fun hb => ?_)
          · cases hb
          · repeat (first | refine l_go ?_ | refine d_go ?_ | refine l_onG ?_ | refine l_offG ?_ | refine d_onG ?_ | refine d_offG ?_ | refine wq_seq ?_ | refine wq_line ?_ | refine wq_draw (by decide +kernel) ?_ | refine wq_block ?_ | refine l_nil ?_ | refine d_nil ?_ | refine wq_skip ?_ | refine wq_ret ?_ | refine wq_exit ?_ | refine th_normal ?_ | refine th_ret ?_ | refine th_exit ?_ | refine bk_normal ?_ | refine bk_ret ?_ | refine bk_exit ?_ | refine bk_other rfl ?_)
            refine ⟨xs.length - (k + 1), by omega, k + 1, hk', rfl, rfl, hnext, ?_⟩
            simp [put_app, put_none, *]
        · rw [decide_eq_false hcs] at c1
          have hno : decide (xs = ys) = false := decide_eq_false fun e => by
            subst e; rw [hxk] at hyk; cases hyk; exact hcs rfl
          clear hlo hlo2 hxk hyk hpk hqk s1 s2 hsame hcs
          repeat (first | refine l_go ?_ | refine d_go ?_ | refine l_onG ?_ | refine l_offG ?_ | refine d_onG ?_ | refine d_offG ?_ | refine wq_seq ?_ | refine wq_line ?_ | refine wq_draw (by decide +kernel) ?_ | refine wq_block ?_ | refine l_nil ?_ | refine d_nil ?_ | refine wq_skip ?_ | refine wq_ret ?_ | refine wq_exit ?_ | refine th_normal ?_ | refine th_ret ?_ | refine th_exit ?_ | refine bk_normal ?_ | refine bk_ret ?_ | refine bk_exit ?_ | refine bk_other rfl ?_)
          refine d_call0G c1 ?_
          repeat (first | refine l_go ?_ | refine d_go ?_ | refine l_onG ?_ | refine l_offG ?_ | refine d_onG ?_ | refine d_offG ?_ | refine wq_seq ?_ | refine wq_line ?_ | refine wq_draw (by decide +kernel) ?_ | refine wq_block ?_ | refine l_nil ?_ | refine d_nil ?_ | refine wq_skip ?_ | refine wq_ret ?_ | refine wq_exit ?_ | refine th_normal ?_ | refine th_ret ?_ | refine th_exit ?_ | refine bk_normal ?_ | refine bk_ret ?_ | refine bk_exit ?_ | refine bk_other rfl ?_)
          refine cond_go (fun hb => ?_) (fun hb => ?_)
          · repeat (first | refine l_go ?_ | refine d_go ?_ | refine l_onG ?_ | refine l_offG ?_ | refine d_onG ?_ | refine d_offG ?_ | refine wq_seq ?_ | refine wq_line ?_ | refine wq_draw (by decide +kernel) ?_ | refine wq_block ?_ | refine l_nil ?_ | refine d_nil ?_ | refine wq_skip ?_ | refine wq_ret ?_ | refine wq_exit ?_ | refine th_normal ?_ | refine th_ret ?_ | refine th_exit ?_ | refine bk_normal ?_ | refine bk_ret ?_ | refine bk_exit ?_ | refine bk_other rfl ?_)
            refine end_ret (by simp only [resRf, resRs, resR]; first | done | rfl) ⟨?_, by first | exact List.prefix_refl _ | exact List.prefix_append _ _ | assumption | (refine List.IsPrefix.trans (by assumption) (List.prefix_append _ _)) | (simp only [List.append_assoc, List.cons_append, List.nil_append, List.set_cons_zero, List.set_cons_succ]; exact ⟨_, by simp only [List.append_assoc, List.cons_append, List.nil_append]; rfl⟩)⟩
            rw [hno]
            simp [put_app, put_none]
          · cases hb
      · have hne : (a != c) = true := by simp [hac]
        have hno : decide (xs = ys) = false := decide_eq_false fun e => by
          subst e; rw [hxk] at hyk; cases hyk; exact hac rfl
        clear hlo hlo2 hxk hyk hpk hqk s1 s2 hsame c1 hac
        repeat (first | refine l_go ?_ | refine d_go ?_ | refine l_onG ?_ | refine l_offG ?_ | refine d_onG ?_ | refine d_offG ?_ | refine wq_seq ?_ | refine wq_line ?_ | refine wq_draw (by decide +kernel) ?_ | refine wq_block ?_ | refine l_nil ?_ | refine d_nil ?_ | refine wq_skip ?_ | refine wq_ret ?_ | refine wq_exit ?_ | refine th_normal ?_ | refine th_ret ?_ | refine th_exit ?_ | refine bk_normal ?_ | refine bk_ret ?_ | refine bk_exit ?_ | refine bk_other rfl ?_)
        refine cond_go (fun hb => ?_) (fun hb => ?_)
        · repeat (first | refine l_go ?_ | refine d_go ?_ | refine l_onG ?_ | refine l_offG ?_ | refine d_onG ?_ | refine d_offG ?_ | refine wq_seq ?_ | refine wq_line ?_ | refine wq_draw (by decide +kernel) ?_ | refine wq_block ?_ | refine l_nil ?_ | refine d_nil ?_ | refine wq_skip ?_ | refine wq_ret ?_ | refine wq_exit ?_ | refine th_normal ?_ | refine th_ret ?_ | refine th_exit ?_ | refine bk_normal ?_ | refine bk_ret ?_ | refine bk_exit ?_ | refine bk_other rfl ?_)
          refine end_ret (by simp only [resRf, resRs, resR]; first | done | rfl) ⟨?_, by first | exact List.prefix_refl _ | exact List.prefix_append _ _ | assumption | (refine List.IsPrefix.trans (by assumption) (List.prefix_append _ _)) | (simp only [List.append_assoc, List.cons_append, List.nil_append, List.set_cons_zero, List.set_cons_succ]; exact ⟨_, by simp only [List.append_assoc, List.cons_append, List.nil_append]; rfl⟩)⟩
          rw [hno]
          simp [put_app, put_none]
        · cases hb
    · have hk' : k = xs.length := by simp at hb; omega
      subst hk'
      clear hb
      repeat (first | refine l_go ?_ | refine d_go ?_ | refine l_onG ?_ | refine l_offG ?_ | refine d_onG ?_ | refine d_offG ?_ | refine wq_seq ?_ | refine wq_line ?_ | refine wq_draw (by decide +kernel) ?_ | refine wq_block ?_ | refine l_nil ?_ | refine d_nil ?_ | refine wq_skip ?_ | refine wq_ret ?_ | refine wq_exit ?_ | refine th_normal ?_ | refine th_ret ?_ | refine th_exit ?_ | refine bk_normal ?_ | refine bk_ret ?_ | refine bk_exit ?_ | refine bk_other rfl ?_)
      refine end_ret (by simp only [resRf, resRs, resR]; first | done | rfl) ⟨?_, by first | exact List.prefix_refl _ | exact List.prefix_append _ _ | assumption | (refine List.IsPrefix.trans (by assumption) (List.prefix_append _ _)) | (simp only [List.append_assoc, List.cons_append, List.nil_append, List.set_cons_zero, List.set_cons_succ]; exact ⟨_, by simp only [List.append_assoc, List.cons_append, List.nil_append]; rfl⟩)⟩
      rw [List.take_of_length_le (Nat.le_refl _), List.take_of_length_le (by omega)] at hsame
      rw [decide_eq_true hsame]
      simp [put_app, put_none]

-- what is handed in
theorem rd_ints {K : Heap} {D : Type} {v : V} {d : DataW D} (h : RdV T K 24 v d) : ∃ xs, Sl 1 intC K v xs ∧ xs.length * 8 ≤ reachBytes :=
  (h.plain T24 rfl).isSlice T24 rfl T3 fun cs x hx => by
    obtain ⟨n, h1, _⟩ := hx.isInt T3 rfl
    exact ⟨n, h1⟩
theorem rd_shape {K : Heap} {D : Type} {v : V} {d : DataW D} (h : RdV T K 23 v d) : ∃ i j, v = .agg [.int .i64 i, .int .i64 j] := by
  obtain ⟨vs, rfl, hr⟩ := h.agg T23 rfl
  obtain ⟨hl, hf⟩ := hr.field T23 rfl
  replace hl : vs.length = 2 := hl
  obtain ⟨x0, h0⟩ := hf 0 _ _ rfl T3
  obtain ⟨x1, h1⟩ := hf 1 _ _ rfl T3
  obtain ⟨n0, e0, _⟩ := h0.isInt T3 rfl
  obtain ⟨n1, e1, _⟩ := h1.isInt T3 rfl
  match vs, hl, e0, e1 with
  | [a, b], _, e0, e1 =>
    simp at e0 e1
    subst e0; subst e1
    exact ⟨n0, n1, rfl⟩
theorem rd_rowcells {K : Heap} {D : Type} {vs : List V} {d : DataW D} (hr : Rd T K 26 vs d) : ∃ x xs y, vs = [x, .int .i64 y] ∧ Sl 1 intC K x xs ∧ xs.length * 8 ≤ reachBytes := by
  obtain ⟨hl, hf⟩ := hr.field T26 rfl
  replace hl : vs.length = 2 := hl
  obtain ⟨x0, h0⟩ := hf 0 _ _ rfl T24
  obtain ⟨x1, h1⟩ := hf 1 _ _ rfl T3
  obtain ⟨n1, e1, _⟩ := h1.isInt T3 rfl
  match vs, hl, h0, e1 with
  | [a, b], _, h0, e1 =>
    simp at e1
    subst e1
    obtain ⟨xs, h2, h3⟩ := rd_ints ⟨_, T24, .inr ⟨rfl, h0⟩⟩
    exact ⟨a, xs, n1, rfl, h2, h3⟩
theorem rd_row {K : Heap} {D : Type} {v : V} {d : DataW D} (h : RdV T K 26 v d) : ∃ x xs y, v = .agg [x, .int .i64 y] ∧ Sl 1 intC K x xs ∧ xs.length * 8 ≤ reachBytes := by
  obtain ⟨vs, rfl, hr⟩ := h.agg T26 rfl
  obtain ⟨x, xs, y, rfl, h1, h2⟩ := rd_rowcells hr
  exact ⟨x, xs, y, rfl, h1, h2⟩
end Go.Proofs.Ytjageapgbpdlhaa.VM
