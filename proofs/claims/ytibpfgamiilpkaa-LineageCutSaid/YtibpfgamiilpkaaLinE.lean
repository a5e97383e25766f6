/- Chapter 18: the program's events that may be. -/
import Derived.Test.YtibpfgamiilpkaaLinD
namespace Go.Proofs.Ytibpfgamiilpkaa.VM
open Go
set_option linter.unusedVariables false
set_option linter.unusedSimpArgs false
attribute [local irreducible] wq wqL wqD wqE wqO Th Bk EndR
set_option maxHeartbeats 8000000

theorem tally0 : TallyC (List.replicate 16 (.int .i64 0)) [] := by
  refine ⟨by simp, fun m hm => ?_⟩
  constructor
  · rw [List.getElem?_replicate, if_pos (by omega)]; rfl
  · rw [List.getElem?_replicate, if_pos (by omega)]; rfl

theorem lineageMay (H : Heap) (v : V) (es : List Ev) (n : Int) (hes : Sl 6 evC H v es) (hl : es.length ≤ 2 ^ 47) : Call Try.prog 9 [v, .int .i64 n] H (.bool (eventsMay es n)) H := by
  refine call_plain fit mixed Try.func9 rfl rfl rfl (by kernel_rfl) rfl ?_
  have hlen := hes.len T22 rfl
  by_cases hbad : within n 1 8 = true ∧ es.length ≤ 1024
  · obtain ⟨hn, hl'⟩ := hbad
    have hn' := hn
    simp [within] at hn'
    have q1 : decide (n < 1) = false := by simp; omega
    have q2 : decide (n > 8) = false := by simp; omega
    have q3 : decide ((es.length : Int) > 1024) = false := by simp; omega
    repeat (first | refine l_go ?_ | refine d_go ?_ | refine l_onG ?_ | refine l_offG ?_ | refine d_onG ?_ | refine d_offG ?_ | refine wq_seq ?_ | refine wq_line ?_ | refine wq_draw (by decide +kernel) ?_ | refine wq_block ?_ | refine l_nil ?_ | refine d_nil ?_ | refine wq_skip ?_ | refine wq_ret ?_ | refine wq_exit ?_ | refine th_normal ?_ | refine th_ret ?_ | refine th_exit ?_ | refine bk_normal ?_ | refine bk_ret ?_ | refine bk_exit ?_ | refine bk_other rfl ?_)
    refine cond_go (fun hb => ?_) (fun hb => ?_)
    · cases hb
    · clear hb
      repeat (first | refine l_go ?_ | refine d_go ?_ | refine l_onG ?_ | refine l_offG ?_ | refine d_onG ?_ | refine d_offG ?_ | refine wq_seq ?_ | refine wq_line ?_ | refine wq_draw (by decide +kernel) ?_ | refine wq_block ?_ | refine l_nil ?_ | refine d_nil ?_ | refine wq_skip ?_ | refine wq_ret ?_ | refine wq_exit ?_ | refine th_normal ?_ | refine th_ret ?_ | refine th_exit ?_ | refine bk_normal ?_ | refine bk_ret ?_ | refine bk_exit ?_ | refine bk_other rfl ?_)
      refine wq_loop (fun c ρ h => ∃ k cs, k ≤ es.length ∧ c = es.length - k ∧ h = H ++ [.row cs true] ∧ TallyC cs (es.take k) ∧ (∀ (j : Nat) e, j < k → es[j]? = some e → evMay (es.take j) n e = true) ∧ ρ 0 = v ∧ ρ 1 = .int .i64 n ∧ ρ 5 = .ptr H.length 0 ∧ ρ 21 = .int .i64 es.length ∧ ρ 22 = .int .i64 (k : Nat)) ⟨0, _, Nat.zero_le _, rfl, rfl, tally0, by intro j e hj; omega, rfl, rfl, rfl, rfl, rfl⟩ ?_
      rintro _ ρ h ⟨k, cs, hk, rfl, rfl, htal, hall, h0, h1, h5, h21, h22⟩
      repeat (first | refine l_go ?_ | refine d_go ?_ | refine l_onG ?_ | refine l_offG ?_ | refine d_onG ?_ | refine d_offG ?_ | refine wq_seq ?_ | refine wq_line ?_ | refine wq_draw (by decide +kernel) ?_ | refine wq_block ?_ | refine l_nil ?_ | refine d_nil ?_ | refine wq_skip ?_ | refine wq_ret ?_ | refine wq_exit ?_ | refine th_normal ?_ | refine th_ret ?_ | refine th_exit ?_ | refine bk_normal ?_ | refine bk_ret ?_ | refine bk_exit ?_ | refine bk_other rfl ?_)
      refine cond_go (fun hb => ?_) (fun hb => ?_)
      · have hk' : k < es.length := by simp at hb; omega
        clear hb
        obtain ⟨e, he⟩ : ∃ e, es[k]? = some e := ⟨es[k], by simp [hk']⟩
        obtain ⟨b, o, cs', hi, rfl, _, hlo, hlc⟩ := hes.get T22 rfl T34 rfl he
        have hw := wrap_succ (n := k) (by omega)
        have hul : (es.take k).length ≤ 2 ^ 47 := by rw [List.length_take]; omega
        have hmay := mayT H cs (es.take k) e n b o hn' htal hul (fun l => loadN_pre (List.prefix_append H l) hlo) (fun l j c hj => loadN_pre (List.prefix_append H l) (hlc j c hj))
        repeat (first | refine l_go ?_ | refine d_go ?_ | refine l_onG ?_ | refine l_offG ?_ | refine d_onG ?_ | refine d_offG ?_ | refine wq_seq ?_ | refine wq_line ?_ | refine wq_draw (by decide +kernel) ?_ | refine wq_block ?_ | refine l_nil ?_ | refine d_nil ?_ | refine wq_skip ?_ | refine wq_ret ?_ | refine wq_exit ?_ | refine th_normal ?_ | refine th_ret ?_ | refine th_exit ?_ | refine bk_normal ?_ | refine bk_ret ?_ | refine bk_exit ?_ | refine bk_other rfl ?_)
        refine l_callG hmay ?_
        repeat (first | refine l_go ?_ | refine d_go ?_ | refine l_onG ?_ | refine l_offG ?_ | refine d_onG ?_ | refine d_offG ?_ | refine wq_seq ?_ | refine wq_line ?_ | refine wq_draw (by decide +kernel) ?_ | refine wq_block ?_ | refine l_nil ?_ | refine d_nil ?_ | refine wq_skip ?_ | refine wq_ret ?_ | refine wq_exit ?_ | refine th_normal ?_ | refine th_ret ?_ | refine th_exit ?_ | refine bk_normal ?_ | refine bk_ret ?_ | refine bk_exit ?_ | refine bk_other rfl ?_)
        refine cond_go (fun hc => ?_) (fun hc => ?_)
        · simp at hc
          repeat (first | refine l_go ?_ | refine d_go ?_ | refine l_onG ?_ | refine l_offG ?_ | refine d_onG ?_ | refine d_offG ?_ | refine wq_seq ?_ | refine wq_line ?_ | refine wq_draw (by decide +kernel) ?_ | refine wq_block ?_ | refine l_nil ?_ | refine d_nil ?_ | refine wq_skip ?_ | refine wq_ret ?_ | refine wq_exit ?_ | refine th_normal ?_ | refine th_ret ?_ | refine th_exit ?_ | refine bk_normal ?_ | refine bk_ret ?_ | refine bk_exit ?_ | refine bk_other rfl ?_)
          refine end_ret (by simp only [resRf, resRs, resR]; first | done | rfl) (no_more he (by simp [put_app, put_none, *]) hc (by first | exact List.prefix_refl _ | exact List.prefix_append _ _ | assumption | (refine List.IsPrefix.trans (by assumption) (List.prefix_append _ _)) | (simp only [List.append_assoc, List.cons_append, List.nil_append, List.set_cons_zero, List.set_cons_succ]; exact ⟨_, by simp only [List.append_assoc, List.cons_append, List.nil_append]; rfl⟩)))
        · simp at hc
          have hm : 0 ≤ e.member ∧ e.member < n := by
            have hx : within e.member 0 (n - 1) = true := by
              unfold evMay at hc
              simp only [Bool.and_eq_true] at hc
              exact hc.1
            simpa [within_lt] using hx
          obtain ⟨q, hq⟩ : ∃ q : Nat, e.member = (q : Int) := ⟨e.member.toNat, by omega⟩
          obtain ⟨cs2, ht2, hcall⟩ := take_ H cs (es.take k) e q b o (by omega) hq htal hul (fun l => loadN_pre (List.prefix_append H l) (hlc 0 _ rfl)) (fun l => loadN_pre (List.prefix_append H l) (hlc 1 _ rfl))
          clear hm hq
          repeat (first | refine l_go ?_ | refine d_go ?_ | refine l_onG ?_ | refine l_offG ?_ | refine d_onG ?_ | refine d_offG ?_ | refine wq_seq ?_ | refine wq_line ?_ | refine wq_draw (by decide +kernel) ?_ | refine wq_block ?_ | refine l_nil ?_ | refine d_nil ?_ | refine wq_skip ?_ | refine wq_ret ?_ | refine wq_exit ?_ | refine th_normal ?_ | refine th_ret ?_ | refine th_exit ?_ | refine bk_normal ?_ | refine bk_ret ?_ | refine bk_exit ?_ | refine bk_other rfl ?_)
          refine l_callG hcall ?_
          repeat (first | refine l_go ?_ | refine d_go ?_ | refine l_onG ?_ | refine l_offG ?_ | refine d_onG ?_ | refine d_offG ?_ | refine wq_seq ?_ | refine wq_line ?_ | refine wq_draw (by decide +kernel) ?_ | refine wq_block ?_ | refine l_nil ?_ | refine d_nil ?_ | refine wq_skip ?_ | refine wq_ret ?_ | refine wq_exit ?_ | refine th_normal ?_ | refine th_ret ?_ | refine th_exit ?_ | refine bk_normal ?_ | refine bk_ret ?_ | refine bk_exit ?_ | refine bk_other rfl ?_)
          refine ⟨es.length - (k + 1), by omega, k + 1, cs2, hk', rfl, rfl, ?_, all_succ hall he hc, ?_⟩
          · rw [List.take_add_one, he]; exact ht2
          · simp [put_app, put_none, *]
      · have hk' : k = es.length := by simp at hb; omega
        subst hk'
        repeat (first | refine l_go ?_ | refine d_go ?_ | refine l_onG ?_ | refine l_offG ?_ | refine d_onG ?_ | refine d_offG ?_ | refine wq_seq ?_ | refine wq_line ?_ | refine wq_draw (by decide +kernel) ?_ | refine wq_block ?_ | refine l_nil ?_ | refine d_nil ?_ | refine wq_skip ?_ | refine wq_ret ?_ | refine wq_exit ?_ | refine th_normal ?_ | refine th_ret ?_ | refine th_exit ?_ | refine bk_normal ?_ | refine bk_ret ?_ | refine bk_exit ?_ | refine bk_other rfl ?_)
        refine end_ret (by simp only [resRf, resRs, resR]; first | done | rfl) ⟨?_, by first | exact List.prefix_refl _ | exact List.prefix_append _ _ | assumption | (refine List.IsPrefix.trans (by assumption) (List.prefix_append _ _)) | (simp only [List.append_assoc, List.cons_append, List.nil_append, List.set_cons_zero, List.set_cons_succ]; exact ⟨_, by simp only [List.append_assoc, List.cons_append, List.nil_append]; rfl⟩)⟩
        rw [eventsMay_yes hn hl' fun j e he => hall j e (List.getElem?_eq_some_iff.1 he).1 he]
        simp [put_app, put_none, *]
  · have hno : eventsMay es n = false := by
      unfold eventsMay
      cases h1 : within n 1 8 with
      | false => simp
      | true =>
        have : ¬ es.length ≤ 1024 := fun h => hbad ⟨h1, h⟩
        simp [this]
    repeat' (first | refine l_go ?_ | refine d_go ?_ | refine l_onG ?_ | refine l_offG ?_ | refine d_onG ?_ | refine d_offG ?_ | refine wq_seq ?_ | refine wq_line ?_ | refine wq_draw (by decide +kernel) ?_ | refine wq_block ?_ | refine l_nil ?_ | refine d_nil ?_ | refine wq_skip ?_ | refine wq_ret ?_ | refine wq_exit ?_ | refine th_normal ?_ | refine th_ret ?_ | refine th_exit ?_ | refine bk_normal ?_ | refine bk_ret ?_ | refine bk_exit ?_ | refine bk_other rfl ?_ | first | refine l_partG (fun hb => ?_) (fun hb => ?_) | refine d_partG (fun hb => ?_) (fun hb => ?_))
    all_goals refine cond_go (fun hb => ?_) (fun hb => ?_)
    all_goals first
      | (cases hb; done)
      | ((repeat (first | refine l_go ?_ | refine d_go ?_ | refine l_onG ?_ | refine l_offG ?_ | refine d_onG ?_ | refine d_offG ?_ | refine wq_seq ?_ | refine wq_line ?_ | refine wq_draw (by decide +kernel) ?_ | refine wq_block ?_ | refine l_nil ?_ | refine d_nil ?_ | refine wq_skip ?_ | refine wq_ret ?_ | refine wq_exit ?_ | refine th_normal ?_ | refine th_ret ?_ | refine th_exit ?_ | refine bk_normal ?_ | refine bk_ret ?_ | refine bk_exit ?_ | refine bk_other rfl ?_)); refine end_ret (by simp only [resRf, resRs, resR]; first | done | rfl) ⟨?_, by first | exact List.prefix_refl _ | exact List.prefix_append _ _ | assumption | (refine List.IsPrefix.trans (by assumption) (List.prefix_append _ _)) | (simp only [List.append_assoc, List.cons_append, List.nil_append, List.set_cons_zero, List.set_cons_succ]; exact ⟨_, by simp only [List.append_assoc, List.cons_append, List.nil_append]; rfl⟩)⟩; simp [put_app, put_none, hno]; done)
      | (exfalso; apply hbad; clear hno hbad hlen; simp_all [within]; done)
      | (exfalso; apply hbad; clear hno hbad hlen; simp_all [within]; omega)
end Go.Proofs.Ytibpfgamiilpkaa.VM
