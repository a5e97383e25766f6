/- Chapter 18: the statements' helpers: copies of events, events that are lent. -/
import Derived.Test.YtibpfgamiilpkaaLinB
import Derived.Test.YtibpfgamiilpkaaVmV
namespace Go.Proofs.Ytibpfgamiilpkaa.VM
open Go
set_option linter.unusedVariables false
set_option linter.unusedSimpArgs false
attribute [local irreducible] wq wqL wqD wqE wqO Th Bk EndR
set_option maxHeartbeats 8000000

theorem num0 (H : Heap) (n : Int) : Call Try.prog 16 [.int .i64 n] H (.int .i64 n) H := by
  refine call_plain fit mixed Try.func16 rfl rfl rfl (by kernel_rfl) rfl ?_
  repeat (first | refine l_go ?_ | refine d_go ?_ | refine l_onG ?_ | refine l_offG ?_ | refine d_onG ?_ | refine d_offG ?_ | refine wq_seq ?_ | refine wq_line ?_ | refine wq_draw (by decide +kernel) ?_ | refine wq_block ?_ | refine l_nil ?_ | refine d_nil ?_ | refine wq_skip ?_ | refine wq_ret ?_ | refine wq_exit ?_ | refine th_normal ?_ | refine th_ret ?_ | refine th_exit ?_ | refine bk_normal ?_ | refine bk_ret ?_ | refine bk_exit ?_ | refine bk_other rfl ?_)
  refine end_ret (by simp only [resRf, resRs, resR]; first | done | rfl) ⟨?_, by first | exact List.prefix_refl _ | exact List.prefix_append _ _ | assumption | (refine List.IsPrefix.trans (by assumption) (List.prefix_append _ _)) | (simp only [List.append_assoc, List.cons_append, List.nil_append, List.set_cons_zero, List.set_cons_succ]; exact ⟨_, by simp only [List.append_assoc, List.cons_append, List.nil_append]; rfl⟩)⟩; simp [put_app, put_none, *]

theorem copyEvents (H : Heap) (v : V) (es : List Ev) (hes : Sl 6 evC H v es) (hl : es.length * 48 ≤ 2 ^ 47) : ∃ u H' b, Call Try.prog 17 [v] H u H' ∧ H <+: H' ∧ H.length ≤ b ∧ Own 6 evC H' b u es := by
  suffices h : ∃ u H', (H <+: H' ∧ ∃ b, H.length ≤ b ∧ Own 6 evC H' b u es) ∧ Call Try.prog 17 [v] H u H' by
    obtain ⟨u, H', ⟨h1, b, h2, h3⟩, h4⟩ := h
    exact ⟨u, H', b, h4, h1, h2, h3⟩
  refine call_wq fit mixed Try.func17 rfl rfl rfl (by kernel_rfl) ?_
  have hes' := hes.mono (List.prefix_append H [.row [] true])
  obtain ⟨news, hn, hc⟩ := hes'.news T22 rfl (ie := (T 34).get!) rfl
  obtain ⟨u, b, H', ha, ho, hf, hb⟩ := own_append (ie := (T 34).get!) (own_make (t := true) H Cells.nil) rfl hc ⟨by show (0 + es.length) * 48 ≤ _; omega, by show 0 + es.length ≤ _; omega⟩
  have hp : H <+: H' := hf.pre (List.prefix_append _ _) (Nat.le_refl _)
  repeat (first | refine l_go ?_ | refine d_go ?_ | refine l_onG ?_ | refine l_offG ?_ | refine d_onG ?_ | refine d_offG ?_ | refine wq_seq ?_ | refine wq_line ?_ | refine wq_draw (by decide +kernel) ?_ | refine wq_block ?_ | refine l_nil ?_ | refine d_nil ?_ | refine wq_skip ?_ | refine wq_ret ?_ | refine wq_exit ?_ | refine th_normal ?_ | refine th_ret ?_ | refine th_exit ?_ | refine bk_normal ?_ | refine bk_ret ?_ | refine bk_exit ?_ | refine bk_other rfl ?_)
  refine l_appendG hn ha ?_
  repeat (first | refine l_go ?_ | refine d_go ?_ | refine l_onG ?_ | refine l_offG ?_ | refine d_onG ?_ | refine d_offG ?_ | refine wq_seq ?_ | refine wq_line ?_ | refine wq_draw (by decide +kernel) ?_ | refine wq_block ?_ | refine l_nil ?_ | refine d_nil ?_ | refine wq_skip ?_ | refine wq_ret ?_ | refine wq_exit ?_ | refine th_normal ?_ | refine th_ret ?_ | refine th_exit ?_ | refine bk_normal ?_ | refine bk_ret ?_ | refine bk_exit ?_ | refine bk_other rfl ?_)
  refine end_ret (by simp only [resRf, resRs, resR]; first | done | rfl) ⟨hp, b, by simp at hb; omega, ho⟩

def mark : Ev := ⟨0, 0, 0, 77777, 0, 0⟩

theorem lendEvents (H : Heap) (v : V) (es : List Ev) (hes : Sl 6 evC H v es) (hl : (es.length + 2) * 48 ≤ 2 ^ 47) : ∃ u H', Call Try.prog 8 [v] H u H' ∧ H <+: H' ∧ Lent 6 evC H' u es [mark, mark] := by
  suffices h : ∃ u H', (H <+: H' ∧ Lent 6 evC H' u es [mark, mark]) ∧ Call Try.prog 8 [v] H u H' by
    obtain ⟨u, H', ⟨h1, h2⟩, h4⟩ := h
    exact ⟨u, H', h4, h1, h2⟩
  refine call_wq fit mixed Try.func8 rfl rfl rfl (by kernel_rfl) ?_
  have hlen := hes.len T22 rfl
  obtain ⟨u1, H1, b1, hcall, hp1, hb1, ho1⟩ := copyEvents H v es hes (by omega)
  have hm : Cells 6 evC [.int .i64 0, .int .i64 0, .int .i64 0, .int .i64 77777, .int .i64 0, .int .i64 0, .int .i64 0, .int .i64 0, .int .i64 0, .int .i64 77777, .int .i64 0, .int .i64 0] [mark, mark] := Cells.cons (cs := [_, _, _, _, _, _]) rfl rfl (Cells.one rfl rfl)
  have ho1' := ho1.pre (List.prefix_append H1 [.row [.int .i64 0, .int .i64 0, .int .i64 0, .int .i64 77777, .int .i64 0, .int .i64 0, .int .i64 0, .int .i64 0, .int .i64 0, .int .i64 77777, .int .i64 0, .int .i64 0] true])
  obtain ⟨u2, b2, H2, ha, ho2, hf, hb2⟩ := own_append (ie := (T 34).get!) ho1' rfl hm ⟨hl, by simp; omega⟩
  have hp2 : H <+: H2 := hf.pre (hp1.trans (List.prefix_append _ _)) hb1
  obtain ⟨u, hu, hlent⟩ := ho2.lend
  repeat (first | refine l_go ?_ | refine d_go ?_ | refine l_onG ?_ | refine l_offG ?_ | refine d_onG ?_ | refine d_offG ?_ | refine wq_seq ?_ | refine wq_line ?_ | refine wq_draw (by decide +kernel) ?_ | refine wq_block ?_ | refine l_nil ?_ | refine d_nil ?_ | refine wq_skip ?_ | refine wq_ret ?_ | refine wq_exit ?_ | refine th_normal ?_ | refine th_ret ?_ | refine th_exit ?_ | refine bk_normal ?_ | refine bk_ret ?_ | refine bk_exit ?_ | refine bk_other rfl ?_)
  refine l_callG hcall ?_
  repeat (first | refine l_go ?_ | refine d_go ?_ | refine l_onG ?_ | refine l_offG ?_ | refine d_onG ?_ | refine d_offG ?_ | refine wq_seq ?_ | refine wq_line ?_ | refine wq_draw (by decide +kernel) ?_ | refine wq_block ?_ | refine l_nil ?_ | refine d_nil ?_ | refine wq_skip ?_ | refine wq_ret ?_ | refine wq_exit ?_ | refine th_normal ?_ | refine th_ret ?_ | refine th_exit ?_ | refine bk_normal ?_ | refine bk_ret ?_ | refine bk_exit ?_ | refine bk_other rfl ?_)
  refine l_appendG (news_row T22 rfl (by decide) rfl) ha ?_
  repeat (first | refine l_go ?_ | refine d_go ?_ | refine l_onG ?_ | refine l_offG ?_ | refine d_onG ?_ | refine d_offG ?_ | refine wq_seq ?_ | refine wq_line ?_ | refine wq_draw (by decide +kernel) ?_ | refine wq_block ?_ | refine l_nil ?_ | refine d_nil ?_ | refine wq_skip ?_ | refine wq_ret ?_ | refine wq_exit ?_ | refine th_normal ?_ | refine th_ret ?_ | refine th_exit ?_ | refine bk_normal ?_ | refine bk_ret ?_ | refine bk_exit ?_ | refine bk_other rfl ?_)
  refine end_ret (by simp only [resRf, resRs, resR]; first | done | rfl) ⟨hp2, hlent⟩

theorem keptEvents (H : Heap) (u v : V) (xs ys : List Ev) (hu : Lent 6 evC H u xs [mark, mark]) (hv : Sl 6 evC H v ys) (lx : xs.length ≤ 2 ^ 47) : Call Try.prog 13 [u, v] H (.bool (decide (xs = ys))) H := by
  refine call_plain fit mixed Try.func13 rfl rfl rfl (by kernel_rfl) rfl ?_
  have hlx := hu.sl.len T22 rfl
  have hly := hv.len T22 rfl
  have hw : IntKind.i64.wrap ((xs.length : Int) + 2) = (xs.length : Int) + 2 := wrap_i64 (by omega) (by omega)
  have hw1 : IntKind.i64.wrap ((xs.length : Int) + 1) = (xs.length : Int) + 1 := wrap_i64 (by omega) (by omega)
  obtain ⟨f, hf, hfs⟩ := hu.full (n := (xs.length : Int) + 2) (by simp)
  have hsame := sameEvents H u v xs ys hu.sl hv lx
  obtain ⟨b1, o1, _, hi1, rfl, _, hl1, _⟩ := hfs.get T22 rfl T34 rfl (k := xs.length) (x := mark) (by simp)
  obtain ⟨b2, o2, _, hi2, rfl, _, hl2, _⟩ := hfs.get T22 rfl T34 rfl (k := xs.length + 1) (x := mark) (by simp)
  have ho1 := loadV_agg T34 rfl hl1
  have ho2 := loadV_agg T34 rfl hl2
  simp only [Int.natCast_add, Int.cast_ofNat_Int] at hi2
  simp only [mark] at ho1 ho2
  repeat (first | refine l_go ?_ | refine d_go ?_ | refine l_onG ?_ | refine l_offG ?_ | refine d_onG ?_ | refine d_offG ?_ | refine wq_seq ?_ | refine wq_line ?_ | refine wq_draw (by decide +kernel) ?_ | refine wq_block ?_ | refine l_nil ?_ | refine d_nil ?_ | refine wq_skip ?_ | refine wq_ret ?_ | refine wq_exit ?_ | refine th_normal ?_ | refine th_ret ?_ | refine th_exit ?_ | refine bk_normal ?_ | refine bk_ret ?_ | refine bk_exit ?_ | refine bk_other rfl ?_)
  refine l_callG hsame ?_
  repeat (first | refine l_go ?_ | refine d_go ?_ | refine l_onG ?_ | refine l_offG ?_ | refine d_onG ?_ | refine d_offG ?_ | refine wq_seq ?_ | refine wq_line ?_ | refine wq_draw (by decide +kernel) ?_ | refine wq_block ?_ | refine l_nil ?_ | refine d_nil ?_ | refine wq_skip ?_ | refine wq_ret ?_ | refine wq_exit ?_ | refine th_normal ?_ | refine th_ret ?_ | refine th_exit ?_ | refine bk_normal ?_ | refine bk_ret ?_ | refine bk_exit ?_ | refine bk_other rfl ?_)
  first | refine l_partG (fun hb => ?_) (fun hb => ?_) | refine d_partG (fun hb => ?_) (fun hb => ?_)
  · have he : xs = ys := of_decide_eq_true hb
    rw [← he] at hly
    clear he
    repeat (first | refine l_go ?_ | refine d_go ?_ | refine l_onG ?_ | refine l_offG ?_ | refine d_onG ?_ | refine d_offG ?_ | refine wq_seq ?_ | refine wq_line ?_ | refine wq_draw (by decide +kernel) ?_ | refine wq_block ?_ | refine l_nil ?_ | refine d_nil ?_ | refine wq_skip ?_ | refine wq_ret ?_ | refine wq_exit ?_ | refine th_normal ?_ | refine th_ret ?_ | refine th_exit ?_ | refine bk_normal ?_ | refine bk_ret ?_ | refine bk_exit ?_ | refine bk_other rfl ?_)
    refine end_ret (by simp only [resRf, resRs, resR]; first | done | rfl) ⟨?_, by first | exact List.prefix_refl _ | exact List.prefix_append _ _ | assumption | (refine List.IsPrefix.trans (by assumption) (List.prefix_append _ _)) | (simp only [List.append_assoc, List.cons_append, List.nil_append, List.set_cons_zero, List.set_cons_succ]; exact ⟨_, by simp only [List.append_assoc, List.cons_append, List.nil_append]; rfl⟩)⟩; simp [put_app, put_none, *]
  · repeat (first | refine l_go ?_ | refine d_go ?_ | refine l_onG ?_ | refine l_offG ?_ | refine d_onG ?_ | refine d_offG ?_ | refine wq_seq ?_ | refine wq_line ?_ | refine wq_draw (by decide +kernel) ?_ | refine wq_block ?_ | refine l_nil ?_ | refine d_nil ?_ | refine wq_skip ?_ | refine wq_ret ?_ | refine wq_exit ?_ | refine th_normal ?_ | refine th_ret ?_ | refine th_exit ?_ | refine bk_normal ?_ | refine bk_ret ?_ | refine bk_exit ?_ | refine bk_other rfl ?_)
    refine end_ret (by simp only [resRf, resRs, resR]; first | done | rfl) ⟨?_, by first | exact List.prefix_refl _ | exact List.prefix_append _ _ | assumption | (refine List.IsPrefix.trans (by assumption) (List.prefix_append _ _)) | (simp only [List.append_assoc, List.cons_append, List.nil_append, List.set_cons_zero, List.set_cons_succ]; exact ⟨_, by simp only [List.append_assoc, List.cons_append, List.nil_append]; rfl⟩)⟩; simp [put_app, put_none, *]
end Go.Proofs.Ytibpfgamiilpkaa.VM
