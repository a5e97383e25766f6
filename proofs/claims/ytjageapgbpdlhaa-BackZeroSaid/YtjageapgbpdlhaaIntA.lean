/- The statements' helpers: numbers that are copied, lent, compared, written over. -/
import Derived.Test.YtjageapgbpdlhaaNum
import Derived.Test.YtjageapgbpdlhaaTab
namespace Go.Proofs.Ytjageapgbpdlhaa.VM
open Go
set_option linter.unusedVariables false
set_option linter.unusedSimpArgs false
attribute [local irreducible] wq wqL wqD wqE wqO Th Bk EndR
set_option maxHeartbeats 8000000

theorem num_ (H : Heap) (n : Int) : Call Try.prog 18 [.int .i64 n] H (.int .i64 n) H := by
  refine call_plain fit mixed Try.func18 rfl rfl rfl (by kernel_rfl) rfl ?_
  repeat (first | refine l_go ?_ | refine d_go ?_ | refine l_onG ?_ | refine l_offG ?_ | refine d_onG ?_ | refine d_offG ?_ | refine wq_seq ?_ | refine wq_line ?_ | refine wq_draw (by decide +kernel) ?_ | refine wq_block ?_ | refine l_nil ?_ | refine d_nil ?_ | refine wq_skip ?_ | refine wq_ret ?_ | refine wq_exit ?_ | refine th_normal ?_ | refine th_ret ?_ | refine th_exit ?_ | refine bk_normal ?_ | refine bk_ret ?_ | refine bk_exit ?_ | refine bk_other rfl ?_)
  refine end_ret (by simp only [resRf, resRs, resR]; first | done | rfl) ⟨?_, by first | exact List.prefix_refl _ | exact List.prefix_append _ _ | assumption | (refine List.IsPrefix.trans (by assumption) (List.prefix_append _ _)) | (simp only [List.append_assoc, List.cons_append, List.nil_append, List.set_cons_zero, List.set_cons_succ]; exact ⟨_, by simp only [List.append_assoc, List.cons_append, List.nil_append]; rfl⟩)⟩; simp [put_app, put_none, *]

theorem int_news {H : Heap} {w : V} {ys : List Int} (h : Sl 1 intC H w ys) : ∃ news, newsOf T (T 3).get! 24 w H = some (ys.length, news) ∧ Cells 1 intC news ys := h.news T24 rfl (ie := (T 3).get!) rfl

theorem int_copy (H : Heap) (w : V) (ys : List Int) (h : Sl 1 intC H w ys) (hl : ys.length * 8 ≤ 2 ^ 47) :
    ∃ news v H', newsOf T (T 3).get! 24 w (H ++ [.row [] true]) = some (ys.length, news) ∧ appendV (T 3).get! (.slc H.length 0 0 0 true 1) ys.length news (H ++ [.row [] true]) = some (v, H') ∧ Mine 1 intC H H' v ys ∧ ∃ b, v.blk = some b ∧ H.length ≤ b := by
  obtain ⟨news, hn, hc⟩ := int_news (h.mono (List.prefix_append H [.row [] true]))
  obtain ⟨u, b, H', ha, ho, hf, hb⟩ := own_append (ie := (T 3).get!) (own_make (t := true) H Cells.nil) rfl hc ⟨by show (0 + ys.length) * 8 ≤ _; omega, by show 0 + ys.length ≤ _; omega⟩
  have hb' : H.length ≤ b := by simp at hb; omega
  refine ⟨news, u, H', hn, ha, ⟨hf.pre (List.prefix_append _ _) (Nat.le_refl _), .inr ⟨b, hb', ho⟩⟩, b, ?_, hb'⟩
  obtain ⟨cap, t, cs, rfl, _⟩ := ho
  rfl

theorem copyInts_ (H : Heap) (v : V) (es : List Int) (hes : Sl 1 intC H v es) (hl : es.length * 8 ≤ 2 ^ 47) : ∃ u H', Call Try.prog 41 [v] H u H' ∧ Mine 1 intC H H' u es ∧ ∃ b, u.blk = some b ∧ H.length ≤ b := by
  suffices h : ∃ u H', (Mine 1 intC H H' u es ∧ ∃ b, u.blk = some b ∧ H.length ≤ b) ∧ Call Try.prog 41 [v] H u H' by
    obtain ⟨u, H', h1, h2⟩ := h
    exact ⟨u, H', h2, h1⟩
  refine call_wq fit mixed Try.func41 rfl rfl rfl (by kernel_rfl) ?_
  obtain ⟨news, u, H', n1, a1, hm⟩ := int_copy H v es hes hl
  clear hes hl
  repeat (first | refine l_go ?_ | refine d_go ?_ | refine l_onG ?_ | refine l_offG ?_ | refine d_onG ?_ | refine d_offG ?_ | refine wq_seq ?_ | refine wq_line ?_ | refine wq_draw (by decide +kernel) ?_ | refine wq_block ?_ | refine l_nil ?_ | refine d_nil ?_ | refine wq_skip ?_ | refine wq_ret ?_ | refine wq_exit ?_ | refine th_normal ?_ | refine th_ret ?_ | refine th_exit ?_ | refine bk_normal ?_ | refine bk_ret ?_ | refine bk_exit ?_ | refine bk_other rfl ?_)
  refine l_appendG n1 a1 ?_
  repeat (first | refine l_go ?_ | refine d_go ?_ | refine l_onG ?_ | refine l_offG ?_ | refine d_onG ?_ | refine d_offG ?_ | refine wq_seq ?_ | refine wq_line ?_ | refine wq_draw (by decide +kernel) ?_ | refine wq_block ?_ | refine l_nil ?_ | refine d_nil ?_ | refine wq_skip ?_ | refine wq_ret ?_ | refine wq_exit ?_ | refine th_normal ?_ | refine th_ret ?_ | refine th_exit ?_ | refine bk_normal ?_ | refine bk_ret ?_ | refine bk_exit ?_ | refine bk_other rfl ?_)
  refine end_ret (by simp only [resRf, resRs, resR]; first | done | rfl) hm

theorem lendInts_ (H : Heap) (v : V) (es : List Int) (hes : Sl 1 intC H v es) (hl : (es.length + 2) * 8 ≤ 2 ^ 47) : ∃ u H', Call Try.prog 13 [v] H u H' ∧ H <+: H' ∧ Lent 1 intC H' u es [-7777, -8888] := by
  suffices h : ∃ u H', (H <+: H' ∧ Lent 1 intC H' u es [-7777, -8888]) ∧ Call Try.prog 13 [v] H u H' by
    obtain ⟨u, H', ⟨h1, h2⟩, h4⟩ := h
    exact ⟨u, H', h4, h1, h2⟩
  refine call_wq fit mixed Try.func13 rfl rfl rfl (by kernel_rfl) ?_
  have hlen := hes.len T24 rfl
  obtain ⟨u1, H1, hcall, hm1, b1, hb1, hb2⟩ := copyInts_ H v es hes (by omega)
  have hm : Cells 1 intC [.int .i64 (-7777), .int .i64 (-8888)] [-7777, -8888] := Cells.cons (cs := [_]) rfl rfl (Cells.one rfl rfl)
  obtain ⟨hp1, hm1⟩ := hm1
  rcases hm1 with ⟨rfl, _⟩ | ⟨b, hb, ho1⟩
  · cases hb1
  have ho1' := ho1.pre (List.prefix_append H1 [.row [.int .i64 (-7777), .int .i64 (-8888)] true])
  obtain ⟨u2, b2, H2, ha, ho2, hf, hb2⟩ := own_append (ie := (T 3).get!) ho1' rfl hm ⟨hl, by simp; omega⟩
  have hp2 : H <+: H2 := hf.pre (hp1.trans (List.prefix_append _ _)) hb
  obtain ⟨u, hu, hlent⟩ := ho2.lend
  clear hes hl
  repeat (first | refine l_go ?_ | refine d_go ?_ | refine l_onG ?_ | refine l_offG ?_ | refine d_onG ?_ | refine d_offG ?_ | refine wq_seq ?_ | refine wq_line ?_ | refine wq_draw (by decide +kernel) ?_ | refine wq_block ?_ | refine l_nil ?_ | refine d_nil ?_ | refine wq_skip ?_ | refine wq_ret ?_ | refine wq_exit ?_ | refine th_normal ?_ | refine th_ret ?_ | refine th_exit ?_ | refine bk_normal ?_ | refine bk_ret ?_ | refine bk_exit ?_ | refine bk_other rfl ?_)
  refine l_callG hcall ?_
  repeat (first | refine l_go ?_ | refine d_go ?_ | refine l_onG ?_ | refine l_offG ?_ | refine d_onG ?_ | refine d_offG ?_ | refine wq_seq ?_ | refine wq_line ?_ | refine wq_draw (by decide +kernel) ?_ | refine wq_block ?_ | refine l_nil ?_ | refine d_nil ?_ | refine wq_skip ?_ | refine wq_ret ?_ | refine wq_exit ?_ | refine th_normal ?_ | refine th_ret ?_ | refine th_exit ?_ | refine bk_normal ?_ | refine bk_ret ?_ | refine bk_exit ?_ | refine bk_other rfl ?_)
  refine l_appendG (news_row T24 rfl (by decide) rfl) ha ?_
  repeat (first | refine l_go ?_ | refine d_go ?_ | refine l_onG ?_ | refine l_offG ?_ | refine d_onG ?_ | refine d_offG ?_ | refine wq_seq ?_ | refine wq_line ?_ | refine wq_draw (by decide +kernel) ?_ | refine wq_block ?_ | refine l_nil ?_ | refine d_nil ?_ | refine wq_skip ?_ | refine wq_ret ?_ | refine wq_exit ?_ | refine th_normal ?_ | refine th_ret ?_ | refine th_exit ?_ | refine bk_normal ?_ | refine bk_ret ?_ | refine bk_exit ?_ | refine bk_other rfl ?_)
  refine end_ret (by simp only [resRf, resRs, resR]; first | done | rfl) ⟨hp2, hlent⟩

theorem take_step {α : Type} {xs ys : List α} {k : Nat} {x y : α} (h : xs.take k = ys.take k) (hx : xs[k]? = some x) (hy : ys[k]? = some y) (e : x = y) : xs.take (k + 1) = ys.take (k + 1) := by
  rw [List.take_add_one, List.take_add_one, h, hx, hy, e]

theorem sameInts_ (H : Heap) (u v : V) (xs ys : List Int) (hx : Sl 1 intC H u xs) (hy : Sl 1 intC H v ys) (lx : xs.length ≤ 2 ^ 47) : Call Try.prog 17 [u, v] H (.bool (decide (xs = ys))) H := by
  refine call_plain fit mixed Try.func17 rfl rfl rfl (by kernel_rfl) rfl ?_
  have hlx := hx.len T24 rfl
  have hly := hy.len T24 rfl
  repeat (first | refine l_go ?_ | refine d_go ?_ | refine l_onG ?_ | refine l_offG ?_ | refine d_onG ?_ | refine d_offG ?_ | refine wq_seq ?_ | refine wq_line ?_ | refine wq_draw (by decide +kernel) ?_ | refine wq_block ?_ | refine l_nil ?_ | refine d_nil ?_ | refine wq_skip ?_ | refine wq_ret ?_ | refine wq_exit ?_ | refine th_normal ?_ | refine th_ret ?_ | refine th_exit ?_ | refine bk_normal ?_ | refine bk_ret ?_ | refine bk_exit ?_ | refine bk_other rfl ?_)
  refine cond_go (fun hb => ?_) (fun hb => ?_)
  · repeat (first | refine l_go ?_ | refine d_go ?_ | refine l_onG ?_ | refine l_offG ?_ | refine d_onG ?_ | refine d_offG ?_ | refine wq_seq ?_ | refine wq_line ?_ | refine wq_draw (by decide +kernel) ?_ | refine wq_block ?_ | refine l_nil ?_ | refine d_nil ?_ | refine wq_skip ?_ | refine wq_ret ?_ | refine wq_exit ?_ | refine th_normal ?_ | refine th_ret ?_ | refine th_exit ?_ | refine bk_normal ?_ | refine bk_ret ?_ | refine bk_exit ?_ | refine bk_other rfl ?_)
    refine end_ret (by simp only [resRf, resRs, resR]; first | done | rfl) ⟨?_, by first | exact List.prefix_refl _ | exact List.prefix_append _ _ | assumption | (refine List.IsPrefix.trans (by assumption) (List.prefix_append _ _)) | (simp only [List.append_assoc, List.cons_append, List.nil_append, List.set_cons_zero, List.set_cons_succ]; exact ⟨_, by simp only [List.append_assoc, List.cons_append, List.nil_append]; rfl⟩)⟩; simp [put_app, put_none, *]
    intro e
    subst e
    simp at hb
  · have hl : xs.length = ys.length := by simp at hb; omega
    repeat (first | refine l_go ?_ | refine d_go ?_ | refine l_onG ?_ | refine l_offG ?_ | refine d_onG ?_ | refine d_offG ?_ | refine wq_seq ?_ | refine wq_line ?_ | refine wq_draw (by decide +kernel) ?_ | refine wq_block ?_ | refine l_nil ?_ | refine d_nil ?_ | refine wq_skip ?_ | refine wq_ret ?_ | refine wq_exit ?_ | refine th_normal ?_ | refine th_ret ?_ | refine th_exit ?_ | refine bk_normal ?_ | refine bk_ret ?_ | refine bk_exit ?_ | refine bk_other rfl ?_)
    refine wq_loop (fun c ρ h => ∃ k, k ≤ xs.length ∧ c = xs.length - k ∧ h = H ∧ xs.take k = ys.take k ∧ ρ 0 = u ∧ ρ 1 = v ∧ ρ 5 = .int .i64 (k : Nat)) ⟨0, Nat.zero_le _, rfl, rfl, by simp, rfl, rfl, rfl⟩ ?_
    rintro _ ρ h ⟨k, hk, rfl, rfl, hsame, h0, h1, h5⟩
    repeat (first | refine l_go ?_ | refine d_go ?_ | refine l_onG ?_ | refine l_offG ?_ | refine d_onG ?_ | refine d_offG ?_ | refine wq_seq ?_ | refine wq_line ?_ | refine wq_draw (by decide +kernel) ?_ | refine wq_block ?_ | refine l_nil ?_ | refine d_nil ?_ | refine wq_skip ?_ | refine wq_ret ?_ | refine wq_exit ?_ | refine th_normal ?_ | refine th_ret ?_ | refine th_exit ?_ | refine bk_normal ?_ | refine bk_ret ?_ | refine bk_exit ?_ | refine bk_other rfl ?_)
    refine cond_go (fun hb => ?_) (fun hb => ?_)
    · have hk' : k < xs.length := by simp at hb; omega
      obtain ⟨x, hxk⟩ : ∃ e, xs[k]? = some e := ⟨xs[k], by simp [hk']⟩
      obtain ⟨y, hyk⟩ : ∃ e, ys[k]? = some e := ⟨ys[k]'(by omega), by simp⟩
      obtain ⟨b, o, cs, hi, rfl, _, hlo, _⟩ := hx.get T24 rfl T3 rfl hxk
      obtain ⟨b2, o2, cs, hi2, rfl, _, hlo2, _⟩ := hy.get T24 rfl T3 rfl hyk
      have ho := loadV_one T3 rfl hlo
      have ho2 := loadV_one T3 rfl hlo2
      have hw := wrap_succ (n := k) (by omega)
      repeat (first | refine l_go ?_ | refine d_go ?_ | refine l_onG ?_ | refine l_offG ?_ | refine d_onG ?_ | refine d_offG ?_ | refine wq_seq ?_ | refine wq_line ?_ | refine wq_draw (by decide +kernel) ?_ | refine wq_block ?_ | refine l_nil ?_ | refine d_nil ?_ | refine wq_skip ?_ | refine wq_ret ?_ | refine wq_exit ?_ | refine th_normal ?_ | refine th_ret ?_ | refine th_exit ?_ | refine bk_normal ?_ | refine bk_ret ?_ | refine bk_exit ?_ | refine bk_other rfl ?_)
      refine cond_go (fun hc => ?_) (fun hc => ?_)
      all_goals simp at hc
      · repeat (first | refine l_go ?_ | refine d_go ?_ | refine l_onG ?_ | refine l_offG ?_ | refine d_onG ?_ | refine d_offG ?_ | refine wq_seq ?_ | refine wq_line ?_ | refine wq_draw (by decide +kernel) ?_ | refine wq_block ?_ | refine l_nil ?_ | refine d_nil ?_ | refine wq_skip ?_ | refine wq_ret ?_ | refine wq_exit ?_ | refine th_normal ?_ | refine th_ret ?_ | refine th_exit ?_ | refine bk_normal ?_ | refine bk_ret ?_ | refine bk_exit ?_ | refine bk_other rfl ?_)
        refine end_ret (by simp only [resRf, resRs, resR]; first | done | rfl) ⟨?_, by first | exact List.prefix_refl _ | exact List.prefix_append _ _ | assumption | (refine List.IsPrefix.trans (by assumption) (List.prefix_append _ _)) | (simp only [List.append_assoc, List.cons_append, List.nil_append, List.set_cons_zero, List.set_cons_succ]; exact ⟨_, by simp only [List.append_assoc, List.cons_append, List.nil_append]; rfl⟩)⟩; simp [put_app, put_none, *]
        intro e
        subst e
        rw [hxk] at hyk
        exact hc (Option.some.inj hyk)
      · repeat (first | refine l_go ?_ | refine d_go ?_ | refine l_onG ?_ | refine l_offG ?_ | refine d_onG ?_ | refine d_offG ?_ | refine wq_seq ?_ | refine wq_line ?_ | refine wq_draw (by decide +kernel) ?_ | refine wq_block ?_ | refine l_nil ?_ | refine d_nil ?_ | refine wq_skip ?_ | refine wq_ret ?_ | refine wq_exit ?_ | refine th_normal ?_ | refine th_ret ?_ | refine th_exit ?_ | refine bk_normal ?_ | refine bk_ret ?_ | refine bk_exit ?_ | refine bk_other rfl ?_)
        refine ⟨xs.length - (k + 1), by omega, k + 1, hk', rfl, rfl, take_step hsame hxk hyk hc, ?_⟩
        simp [put_app, put_none, *]
    · have hk' : k = xs.length := by simp at hb; omega
      subst hk'
      repeat (first | refine l_go ?_ | refine d_go ?_ | refine l_onG ?_ | refine l_offG ?_ | refine d_onG ?_ | refine d_offG ?_ | refine wq_seq ?_ | refine wq_line ?_ | refine wq_draw (by decide +kernel) ?_ | refine wq_block ?_ | refine l_nil ?_ | refine d_nil ?_ | refine wq_skip ?_ | refine wq_ret ?_ | refine wq_exit ?_ | refine th_normal ?_ | refine th_ret ?_ | refine th_exit ?_ | refine bk_normal ?_ | refine bk_ret ?_ | refine bk_exit ?_ | refine bk_other rfl ?_)
      refine end_ret (by simp only [resRf, resRs, resR]; first | done | rfl) ⟨?_, by first | exact List.prefix_refl _ | exact List.prefix_append _ _ | assumption | (refine List.IsPrefix.trans (by assumption) (List.prefix_append _ _)) | (simp only [List.append_assoc, List.cons_append, List.nil_append, List.set_cons_zero, List.set_cons_succ]; exact ⟨_, by simp only [List.append_assoc, List.cons_append, List.nil_append]; rfl⟩)⟩; simp [put_app, put_none, *]
      rw [List.take_of_length_le (Nat.le_refl _), List.take_of_length_le (by omega)] at hsame
      exact hsame

theorem keptInts_ (H : Heap) (u v : V) (xs ys : List Int) (hu : Lent 1 intC H u xs [-7777, -8888]) (hv : Sl 1 intC H v ys) (lx : xs.length ≤ 2 ^ 47) : Call Try.prog 20 [u, v] H (.bool (decide (xs = ys))) H := by
  refine call_plain fit mixed Try.func20 rfl rfl rfl (by kernel_rfl) rfl ?_
  have hlx := hu.sl.len T24 rfl
  have hly := hv.len T24 rfl
  have hw : IntKind.i64.wrap ((xs.length : Int) + 2) = (xs.length : Int) + 2 := wrap_i64 (by omega) (by omega)
  have hw1 : IntKind.i64.wrap ((xs.length : Int) + 1) = (xs.length : Int) + 1 := wrap_i64 (by omega) (by omega)
  obtain ⟨f, hf, hfs⟩ := hu.full (n := (xs.length : Int) + 2) (by simp)
  have hsame := sameInts_ H u v xs ys hu.sl hv lx
  obtain ⟨b1, o1, _, hi1, rfl, _, hl1, _⟩ := hfs.get T24 rfl T3 rfl (k := xs.length) (x := -7777) (by simp)
  obtain ⟨b2, o2, _, hi2, rfl, _, hl2, _⟩ := hfs.get T24 rfl T3 rfl (k := xs.length + 1) (x := -8888) (by simp)
  have ho1 := loadV_one T3 rfl hl1
  have ho2 := loadV_one T3 rfl hl2
  simp only [Int.natCast_add, Int.cast_ofNat_Int] at hi2
  clear hl1 hl2 hfs lx hu hv
  repeat (first | refine l_go ?_ | refine d_go ?_ | refine l_onG ?_ | refine l_offG ?_ | refine d_onG ?_ | refine d_offG ?_ | refine wq_seq ?_ | refine wq_line ?_ | refine wq_draw (by decide +kernel) ?_ | refine wq_block ?_ | refine l_nil ?_ | refine d_nil ?_ | refine wq_skip ?_ | refine wq_ret ?_ | refine wq_exit ?_ | refine th_normal ?_ | refine th_ret ?_ | refine th_exit ?_ | refine bk_normal ?_ | refine bk_ret ?_ | refine bk_exit ?_ | refine bk_other rfl ?_)
  refine l_callG hsame ?_
  repeat (first | refine l_go ?_ | refine d_go ?_ | refine l_onG ?_ | refine l_offG ?_ | refine d_onG ?_ | refine d_offG ?_ | refine wq_seq ?_ | refine wq_line ?_ | refine wq_draw (by decide +kernel) ?_ | refine wq_block ?_ | refine l_nil ?_ | refine d_nil ?_ | refine wq_skip ?_ | refine wq_ret ?_ | refine wq_exit ?_ | refine th_normal ?_ | refine th_ret ?_ | refine th_exit ?_ | refine bk_normal ?_ | refine bk_ret ?_ | refine bk_exit ?_ | refine bk_other rfl ?_)
  first | refine l_partG (fun hb => ?_) (fun hb => ?_) | refine d_partG (fun hb => ?_) (fun hb => ?_)
  · have he : xs = ys := of_decide_eq_true hb
    rw [← he] at hly
    clear he
    repeat (first | refine l_go ?_ | refine d_go ?_ | refine l_onG ?_ | refine l_offG ?_ | refine d_onG ?_ | refine d_offG ?_ | refine wq_seq ?_ | refine wq_line ?_ | refine wq_draw (by decide +kernel) ?_ | refine wq_block ?_ | refine l_nil ?_ | refine d_nil ?_ | refine wq_skip ?_ | refine wq_ret ?_ | refine wq_exit ?_ | refine th_normal ?_ | refine th_ret ?_ | refine th_exit ?_ | refine bk_normal ?_ | refine bk_ret ?_ | refine bk_exit ?_ | refine bk_other rfl ?_)
    refine end_ret (by simp only [resRf, resRs, resR]; first | done | rfl) ⟨?_, by first | exact List.prefix_refl _ | exact List.prefix_append _ _ | assumption | (refine List.IsPrefix.trans (by assumption) (List.prefix_append _ _)) | (simp only [List.append_assoc, List.cons_append, List.nil_append, List.set_cons_zero, List.set_cons_succ]; exact ⟨_, by simp only [List.append_assoc, List.cons_append, List.nil_append]; rfl⟩)⟩; simp [put_app, put_none, *]
  · repeat (first | refine l_go ?_ | refine d_go ?_ | refine l_onG ?_ | refine l_offG ?_ | refine d_onG ?_ | refine d_offG ?_ | refine wq_seq ?_ | refine wq_line ?_ | refine wq_draw (by decide +kernel) ?_ | refine wq_block ?_ | refine l_nil ?_ | refine d_nil ?_ | refine wq_skip ?_ | refine wq_ret ?_ | refine wq_exit ?_ | refine th_normal ?_ | refine th_ret ?_ | refine th_exit ?_ | refine bk_normal ?_ | refine bk_ret ?_ | refine bk_exit ?_ | refine bk_other rfl ?_)
    refine end_ret (by simp only [resRf, resRs, resR]; first | done | rfl) ⟨?_, by first | exact List.prefix_refl _ | exact List.prefix_append _ _ | assumption | (refine List.IsPrefix.trans (by assumption) (List.prefix_append _ _)) | (simp only [List.append_assoc, List.cons_append, List.nil_append, List.set_cons_zero, List.set_cons_succ]; exact ⟨_, by simp only [List.append_assoc, List.cons_append, List.nil_append]; rfl⟩)⟩; simp [put_app, put_none, *]

theorem spoilInts_ (B H : Heap) (v : V) (xs : List Int) (hm : Mine 1 intC B H v xs) (lx : xs.length ≤ 2 ^ 47) : ∃ H', Call Try.prog 19 [v] H (.tup []) H' ∧ B <+: H' := by
  suffices h : ∃ u H', (u = .tup [] ∧ B <+: H') ∧ Call Try.prog 19 [v] H u H' by
    obtain ⟨_, H', ⟨rfl, h1⟩, h2⟩ := h
    exact ⟨H', h2, h1⟩
  refine call_wq fit mixed Try.func19 rfl rfl rfl (by kernel_rfl) ?_
  obtain ⟨n, hn⟩ : ∃ n, xs.length = n := ⟨_, rfl⟩
  repeat (first | refine l_go ?_ | refine d_go ?_ | refine l_onG ?_ | refine l_offG ?_ | refine d_onG ?_ | refine d_offG ?_ | refine wq_seq ?_ | refine wq_line ?_ | refine wq_draw (by decide +kernel) ?_ | refine wq_block ?_ | refine l_nil ?_ | refine d_nil ?_ | refine wq_skip ?_ | refine wq_ret ?_ | refine wq_exit ?_ | refine th_normal ?_ | refine th_ret ?_ | refine th_exit ?_ | refine bk_normal ?_ | refine bk_ret ?_ | refine bk_exit ?_ | refine bk_other rfl ?_)
  refine wq_loop (fun c ρ hp => ∃ k ys, k ≤ n ∧ c = n - k ∧ ys.length = n ∧ Mine 1 intC B hp v ys ∧ ρ 0 = v ∧ ρ 2 = .int .i64 (k : Nat)) ⟨0, xs, Nat.zero_le _, rfl, hn, hm, rfl, rfl⟩ ?_
  rintro _ ρ hp ⟨k, ys, hk, rfl, hys, hm, h0, h2⟩
  have hlen := hm.sl.len T24 rfl
  rw [hys] at hlen
  repeat (first | refine l_go ?_ | refine d_go ?_ | refine l_onG ?_ | refine l_offG ?_ | refine d_onG ?_ | refine d_offG ?_ | refine wq_seq ?_ | refine wq_line ?_ | refine wq_draw (by decide +kernel) ?_ | refine wq_block ?_ | refine l_nil ?_ | refine d_nil ?_ | refine wq_skip ?_ | refine wq_ret ?_ | refine wq_exit ?_ | refine th_normal ?_ | refine th_ret ?_ | refine th_exit ?_ | refine bk_normal ?_ | refine bk_ret ?_ | refine bk_exit ?_ | refine bk_other rfl ?_)
  refine cond_go (fun hb => ?_) (fun hb => ?_)
  · have hk' : k < n := by simpa using hb
    clear hb
    obtain ⟨x, hxk⟩ : ∃ e, ys[k]? = some e := ⟨ys[k]'(by omega), by simp⟩
    obtain ⟨b, o, cs, hi, rfl, _, hlo, _⟩ := hm.sl.get T24 rfl T3 rfl hxk
    have ho := loadV_one T3 rfl hlo
    obtain ⟨b2, o2, h1, h2'⟩ := hm.store T24 rfl T3 rfl (k := k) (by omega)
    rw [hi] at h1
    cases h1
    obtain ⟨H', hst, hm2⟩ := h2' (.int .i64 (IntKind.i64.wrap (-9 - x))) _ rfl rfl rfl
    have hw := wrap_succ (n := k) (by omega)
    clear hxk hlo hm h2'
    repeat (first | refine l_go ?_ | refine d_go ?_ | refine l_onG ?_ | refine l_offG ?_ | refine d_onG ?_ | refine d_offG ?_ | refine wq_seq ?_ | refine wq_line ?_ | refine wq_draw (by decide +kernel) ?_ | refine wq_block ?_ | refine l_nil ?_ | refine d_nil ?_ | refine wq_skip ?_ | refine wq_ret ?_ | refine wq_exit ?_ | refine th_normal ?_ | refine th_ret ?_ | refine th_exit ?_ | refine bk_normal ?_ | refine bk_ret ?_ | refine bk_exit ?_ | refine bk_other rfl ?_)
    refine ⟨n - (k + 1), by omega, k + 1, _, hk', rfl, by simpa using hys, hm2, ?_⟩
    simp [put_app, put_none, *]
  · clear hb
    have hp' := hm.1
    repeat (first | refine l_go ?_ | refine d_go ?_ | refine l_onG ?_ | refine l_offG ?_ | refine d_onG ?_ | refine d_offG ?_ | refine wq_seq ?_ | refine wq_line ?_ | refine wq_draw (by decide +kernel) ?_ | refine wq_block ?_ | refine l_nil ?_ | refine d_nil ?_ | refine wq_skip ?_ | refine wq_ret ?_ | refine wq_exit ?_ | refine th_normal ?_ | refine th_ret ?_ | refine th_exit ?_ | refine bk_normal ?_ | refine bk_ret ?_ | refine bk_exit ?_ | refine bk_other rfl ?_)
    refine end_normal (by simp only [resRf, resRs, resR]; first | done | rfl) ⟨rfl, hp'⟩
end Go.Proofs.Ytjageapgbpdlhaa.VM
