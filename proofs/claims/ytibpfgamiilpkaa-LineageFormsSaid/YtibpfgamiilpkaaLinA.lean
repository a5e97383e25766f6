/- Chapter 18: how many events are a member s own; hypers that may be: what the program and the document answer. -/
import Derived.Test.YtibpfgamiilpkaaVmY
import Derived.Test.YtibpfgamiilpkaaTab
namespace Go.Proofs.Ytibpfgamiilpkaa.VM
open Go
set_option linter.unusedVariables false
set_option linter.unusedSimpArgs false
attribute [local irreducible] wq wqL wqD wqO Th Bk EndR

structure Ev where
  kind : Int
  member : Int
  donor : Int
  at_ : Int
  rate : Int
  mom : Int
  deriving DecidableEq, Inhabited
def Ev.cells (e : Ev) : List V := [.int .i64 e.kind, .int .i64 e.member, .int .i64 e.donor, .int .i64 e.at_, .int .i64 e.rate, .int .i64 e.mom]
def evC (cs : List V) (e : Ev) : Prop := cs = [.int .i64 e.kind, .int .i64 e.member, .int .i64 e.donor, .int .i64 e.at_, .int .i64 e.rate, .int .i64 e.mom]

def manyOf (es : List Ev) (m : Int) : Nat := (es.filter fun e => e.member == m).length

theorem manyOf_succ {es : List Ev} {m : Int} {k : Nat} {e : Ev} (he : es[k]? = some e) : manyOf (es.take (k + 1)) m = manyOf (es.take k) m + if e.member = m then 1 else 0 := by
  unfold manyOf
  rw [List.take_add_one, he, List.filter_append, List.length_append]
  simp only [Option.toList_some, List.filter_cons, List.filter_nil]
  by_cases h : e.member = m <;> simp [h]
theorem manyOf_le (es : List Ev) (m : Int) : manyOf es m ≤ es.length := List.length_filter_le ..

theorem many (H : Heap) (v : V) (es : List Ev) (m : Int) (hes : Sl 6 evC H v es) (hl : es.length ≤ 2 ^ 47) : Call Try.prog 11 [v, .int .i64 m] H (.int .i64 (manyOf es m)) H := by
  refine call_plain fit mixed Try.func11 rfl rfl rfl (by kernel_rfl) rfl ?_
  have hlen := hes.len T22 rfl
  repeat (first | refine l_go ?_ | refine d_go ?_ | refine l_onG ?_ | refine l_offG ?_ | refine d_onG ?_ | refine d_offG ?_ | refine wq_seq ?_ | refine wq_line ?_ | refine wq_draw (by decide +kernel) ?_ | refine wq_block ?_ | refine l_nil ?_ | refine d_nil ?_ | refine wq_skip ?_ | refine wq_ret ?_ | refine wq_exit ?_ | refine th_normal ?_ | refine th_ret ?_ | refine th_exit ?_ | refine bk_normal ?_ | refine bk_ret ?_ | refine bk_exit ?_ | refine bk_other rfl ?_)
  refine wq_loop (fun c ρ h => ∃ k, k ≤ es.length ∧ c = es.length - k ∧ H <+: h ∧ ρ 0 = v ∧ ρ 1 = .int .i64 m ∧ ρ 8 = v ∧ ρ 9 = .int .i64 es.length ∧ ρ 10 = .int .i64 (k : Nat) ∧ ρ 5 = .int .i64 (manyOf (es.take k) m)) ⟨0, Nat.zero_le _, rfl, List.prefix_refl _, rfl, rfl, rfl, rfl, rfl, rfl⟩ ?_
  rintro _ ρ h ⟨k, hk, rfl, hp, h0, h1, h8, h9, h10, h5⟩
  repeat (first | refine l_go ?_ | refine d_go ?_ | refine l_onG ?_ | refine l_offG ?_ | refine d_onG ?_ | refine d_offG ?_ | refine wq_seq ?_ | refine wq_line ?_ | refine wq_draw (by decide +kernel) ?_ | refine wq_block ?_ | refine l_nil ?_ | refine d_nil ?_ | refine wq_skip ?_ | refine wq_ret ?_ | refine wq_exit ?_ | refine th_normal ?_ | refine th_ret ?_ | refine th_exit ?_ | refine bk_normal ?_ | refine bk_ret ?_ | refine bk_exit ?_ | refine bk_other rfl ?_)
  refine cond_go (fun hb => ?_) (fun hb => ?_)
  · have hk' : k < es.length := by simpa using hb
    obtain ⟨e, he⟩ : ∃ e, es[k]? = some e := ⟨es[k], by simp [hk']⟩
    obtain ⟨b, o, cs, hi, rfl, _, hlo, hlc⟩ := (hes.mono hp).get T22 rfl T34 rfl he
    have ho := loadV_agg T34 rfl hlo
    have hle := manyOf_le (es.take k) m
    rw [List.length_take] at hle
    have hw := wrap_succ (n := k) (by omega)
    have hw2 := wrap_succ (n := manyOf (es.take k) m) (by omega)
    have hs := manyOf_succ (m := m) he
    repeat (first | refine l_go ?_ | refine d_go ?_ | refine l_onG ?_ | refine l_offG ?_ | refine d_onG ?_ | refine d_offG ?_ | refine wq_seq ?_ | refine wq_line ?_ | refine wq_draw (by decide +kernel) ?_ | refine wq_block ?_ | refine l_nil ?_ | refine d_nil ?_ | refine wq_skip ?_ | refine wq_ret ?_ | refine wq_exit ?_ | refine th_normal ?_ | refine th_ret ?_ | refine th_exit ?_ | refine bk_normal ?_ | refine bk_ret ?_ | refine bk_exit ?_ | refine bk_other rfl ?_)
    refine cond_go (fun hc => ?_) (fun hc => ?_)
    all_goals repeat (first | refine l_go ?_ | refine d_go ?_ | refine l_onG ?_ | refine l_offG ?_ | refine d_onG ?_ | refine d_offG ?_ | refine wq_seq ?_ | refine wq_line ?_ | refine wq_draw (by decide +kernel) ?_ | refine wq_block ?_ | refine l_nil ?_ | refine d_nil ?_ | refine wq_skip ?_ | refine wq_ret ?_ | refine wq_exit ?_ | refine th_normal ?_ | refine th_ret ?_ | refine th_exit ?_ | refine bk_normal ?_ | refine bk_ret ?_ | refine bk_exit ?_ | refine bk_other rfl ?_)
    all_goals refine ⟨es.length - (k + 1), by omega, k + 1, hk', rfl, hp.trans (List.prefix_append ..), ?_⟩
    all_goals simp at hc
    all_goals simp [put_app, put_none, *]
  · have hk' : k = es.length := by have : ¬ k < es.length := by simpa using hb
                                   omega
    subst hk'
    repeat (first | refine l_go ?_ | refine d_go ?_ | refine l_onG ?_ | refine l_offG ?_ | refine d_onG ?_ | refine d_offG ?_ | refine wq_seq ?_ | refine wq_line ?_ | refine wq_draw (by decide +kernel) ?_ | refine wq_block ?_ | refine l_nil ?_ | refine d_nil ?_ | refine wq_skip ?_ | refine wq_ret ?_ | refine wq_exit ?_ | refine th_normal ?_ | refine th_ret ?_ | refine th_exit ?_ | refine bk_normal ?_ | refine bk_ret ?_ | refine bk_exit ?_ | refine bk_other rfl ?_)
    refine end_ret (by simp only [resRf, resRs, resR]; first | done | rfl) ⟨?_, hp⟩
    simp [put_app, put_none, *]

theorem manyRef (H : Heap) (v : V) (es : List Ev) (m : Int) (hes : Sl 6 evC H v es) (hl : es.length ≤ 2 ^ 47) : Call Try.prog 12 [v, .int .i64 m] H (.int .i64 (manyOf es m)) H := by
  refine call_plain fit mixed Try.func12 rfl rfl rfl (by kernel_rfl) rfl ?_
  have hlen := hes.len T22 rfl
  repeat (first | refine l_go ?_ | refine d_go ?_ | refine l_onG ?_ | refine l_offG ?_ | refine d_onG ?_ | refine d_offG ?_ | refine wq_seq ?_ | refine wq_line ?_ | refine wq_draw (by decide +kernel) ?_ | refine wq_block ?_ | refine l_nil ?_ | refine d_nil ?_ | refine wq_skip ?_ | refine wq_ret ?_ | refine wq_exit ?_ | refine th_normal ?_ | refine th_ret ?_ | refine th_exit ?_ | refine bk_normal ?_ | refine bk_ret ?_ | refine bk_exit ?_ | refine bk_other rfl ?_)
  refine wq_loop (fun c ρ h => ∃ k, k ≤ es.length ∧ c = es.length - k ∧ h = H ∧ ρ 0 = v ∧ ρ 1 = .int .i64 m ∧ ρ 6 = .int .i64 (k : Nat) ∧ ρ 5 = .int .i64 (manyOf (es.take k) m)) ⟨0, Nat.zero_le _, rfl, rfl, rfl, rfl, rfl, rfl⟩ ?_
  rintro _ ρ h ⟨k, hk, rfl, rfl, h0, h1, h6, h5⟩
  repeat (first | refine l_go ?_ | refine d_go ?_ | refine l_onG ?_ | refine l_offG ?_ | refine d_onG ?_ | refine d_offG ?_ | refine wq_seq ?_ | refine wq_line ?_ | refine wq_draw (by decide +kernel) ?_ | refine wq_block ?_ | refine l_nil ?_ | refine d_nil ?_ | refine wq_skip ?_ | refine wq_ret ?_ | refine wq_exit ?_ | refine th_normal ?_ | refine th_ret ?_ | refine th_exit ?_ | refine bk_normal ?_ | refine bk_ret ?_ | refine bk_exit ?_ | refine bk_other rfl ?_)
  refine cond_go (fun hb => ?_) (fun hb => ?_)
  · have hk' : k < es.length := by simpa using hb
    obtain ⟨e, he⟩ : ∃ e, es[k]? = some e := ⟨es[k], by simp [hk']⟩
    obtain ⟨b, o, cs, hi, rfl, _, hlo, hlc⟩ := hes.get T22 rfl T34 rfl he
    have ho := loadV_one T3 rfl (hlc 1 _ rfl)
    have hle := manyOf_le (es.take k) m
    rw [List.length_take] at hle
    have hw := wrap_succ (n := k) (by omega)
    have hw2 := wrap_succ (n := manyOf (es.take k) m) (by omega)
    have hs := manyOf_succ (m := m) he
    repeat (first | refine l_go ?_ | refine d_go ?_ | refine l_onG ?_ | refine l_offG ?_ | refine d_onG ?_ | refine d_offG ?_ | refine wq_seq ?_ | refine wq_line ?_ | refine wq_draw (by decide +kernel) ?_ | refine wq_block ?_ | refine l_nil ?_ | refine d_nil ?_ | refine wq_skip ?_ | refine wq_ret ?_ | refine wq_exit ?_ | refine th_normal ?_ | refine th_ret ?_ | refine th_exit ?_ | refine bk_normal ?_ | refine bk_ret ?_ | refine bk_exit ?_ | refine bk_other rfl ?_)
    refine cond_go (fun hc => ?_) (fun hc => ?_)
    all_goals repeat (first | refine l_go ?_ | refine d_go ?_ | refine l_onG ?_ | refine l_offG ?_ | refine d_onG ?_ | refine d_offG ?_ | refine wq_seq ?_ | refine wq_line ?_ | refine wq_draw (by decide +kernel) ?_ | refine wq_block ?_ | refine l_nil ?_ | refine d_nil ?_ | refine wq_skip ?_ | refine wq_ret ?_ | refine wq_exit ?_ | refine th_normal ?_ | refine th_ret ?_ | refine th_exit ?_ | refine bk_normal ?_ | refine bk_ret ?_ | refine bk_exit ?_ | refine bk_other rfl ?_)
    all_goals refine ⟨es.length - (k + 1), by omega, k + 1, hk', rfl, rfl, ?_⟩
    all_goals simp at hc
    all_goals simp [put_app, put_none, *]
  · have hk' : k = es.length := by have : ¬ k < es.length := by simpa using hb
                                   omega
    subst hk'
    repeat (first | refine l_go ?_ | refine d_go ?_ | refine l_onG ?_ | refine l_offG ?_ | refine d_onG ?_ | refine d_offG ?_ | refine wq_seq ?_ | refine wq_line ?_ | refine wq_draw (by decide +kernel) ?_ | refine wq_block ?_ | refine l_nil ?_ | refine d_nil ?_ | refine wq_skip ?_ | refine wq_ret ?_ | refine wq_exit ?_ | refine th_normal ?_ | refine th_ret ?_ | refine th_exit ?_ | refine bk_normal ?_ | refine bk_ret ?_ | refine bk_exit ?_ | refine bk_other rfl ?_)
    refine end_ret (by simp only [resRf, resRs, resR]; first | done | rfl) ⟨?_, List.prefix_refl _⟩
    simp [put_app, put_none, *]
def within (x a b : Int) : Bool := decide (x ≥ a) && decide (x ≤ b)

theorem upTo12 (H : Heap) (x a b : Int) : Call Try.prog 20 [.int .i64 x, .int .i64 a, .int .i64 b] H (.bool (within x a b)) H := by
  refine call_plain fit mixed Try.func20 rfl rfl rfl (by kernel_rfl) rfl ?_
  repeat' (first | refine l_go ?_ | refine d_go ?_ | refine l_onG ?_ | refine l_offG ?_ | refine d_onG ?_ | refine d_offG ?_ | refine wq_seq ?_ | refine wq_line ?_ | refine wq_draw (by decide +kernel) ?_ | refine wq_block ?_ | refine l_nil ?_ | refine d_nil ?_ | refine wq_skip ?_ | refine wq_ret ?_ | refine wq_exit ?_ | refine th_normal ?_ | refine th_ret ?_ | refine th_exit ?_ | refine bk_normal ?_ | refine bk_ret ?_ | refine bk_exit ?_ | refine bk_other rfl ?_ | first | refine l_partG (fun hb => ?_) (fun hb => ?_) | refine d_partG (fun hb => ?_) (fun hb => ?_))
  all_goals refine end_ret (by simp only [resRf, resRs, resR]; first | done | rfl) ⟨?_, by first | exact List.prefix_refl _ | exact List.prefix_append _ _ | assumption | (refine List.IsPrefix.trans (by assumption) (List.prefix_append _ _)) | (simp only [List.append_assoc, List.cons_append, List.nil_append, List.set_cons_zero, List.set_cons_succ]; exact ⟨_, by simp only [List.append_assoc, List.cons_append, List.nil_append]; rfl⟩)⟩; simp [put_app, put_none, *]
  all_goals simp_all [within]
  all_goals (first | done | omega)

theorem upTo1 (H : Heap) (x a b : Int) : Call Try.prog 26 [.int .i64 x, .int .i64 a, .int .i64 b] H (.bool (within x a b)) H := by
  refine call_plain fit mixed Try.func26 rfl rfl rfl (by kernel_rfl) rfl ?_
  repeat' (first | refine l_go ?_ | refine d_go ?_ | refine l_onG ?_ | refine l_offG ?_ | refine d_onG ?_ | refine d_offG ?_ | refine wq_seq ?_ | refine wq_line ?_ | refine wq_draw (by decide +kernel) ?_ | refine wq_block ?_ | refine l_nil ?_ | refine d_nil ?_ | refine wq_skip ?_ | refine wq_ret ?_ | refine wq_exit ?_ | refine th_normal ?_ | refine th_ret ?_ | refine th_exit ?_ | refine bk_normal ?_ | refine bk_ret ?_ | refine bk_exit ?_ | refine bk_other rfl ?_ | first | refine l_partG (fun hb => ?_) (fun hb => ?_) | refine d_partG (fun hb => ?_) (fun hb => ?_))
  all_goals refine end_ret (by simp only [resRf, resRs, resR]; first | done | rfl) ⟨?_, by first | exact List.prefix_refl _ | exact List.prefix_append _ _ | assumption | (refine List.IsPrefix.trans (by assumption) (List.prefix_append _ _)) | (simp only [List.append_assoc, List.cons_append, List.nil_append, List.set_cons_zero, List.set_cons_succ]; exact ⟨_, by simp only [List.append_assoc, List.cons_append, List.nil_append]; rfl⟩)⟩; simp [put_app, put_none, *]
  all_goals simp_all [within]
  all_goals (first | done | omega)

def hyperMay (r m : Int) : Bool := within r 64 16384 && within m 0 58982

theorem hyperMay1 (H : Heap) (r m : Int) : Call Try.prog 21 [.agg [.int .i64 r, .int .i64 m]] H (.bool (hyperMay r m)) H := by
  refine call_plain fit mixed Try.func21 rfl rfl rfl (by kernel_rfl) rfl ?_
  repeat (first | refine l_go ?_ | refine d_go ?_ | refine l_onG ?_ | refine l_offG ?_ | refine d_onG ?_ | refine d_offG ?_ | refine wq_seq ?_ | refine wq_line ?_ | refine wq_draw (by decide +kernel) ?_ | refine wq_block ?_ | refine l_nil ?_ | refine d_nil ?_ | refine wq_skip ?_ | refine wq_ret ?_ | refine wq_exit ?_ | refine th_normal ?_ | refine th_ret ?_ | refine th_exit ?_ | refine bk_normal ?_ | refine bk_ret ?_ | refine bk_exit ?_ | refine bk_other rfl ?_)
  refine l_callG (upTo1 ..) ?_
  repeat (first | refine l_go ?_ | refine d_go ?_ | refine l_onG ?_ | refine l_offG ?_ | refine d_onG ?_ | refine d_offG ?_ | refine wq_seq ?_ | refine wq_line ?_ | refine wq_draw (by decide +kernel) ?_ | refine wq_block ?_ | refine l_nil ?_ | refine d_nil ?_ | refine wq_skip ?_ | refine wq_ret ?_ | refine wq_exit ?_ | refine th_normal ?_ | refine th_ret ?_ | refine th_exit ?_ | refine bk_normal ?_ | refine bk_ret ?_ | refine bk_exit ?_ | refine bk_other rfl ?_)
  first | refine l_partG (fun hb => ?_) (fun hb => ?_) | refine d_partG (fun hb => ?_) (fun hb => ?_)
  · repeat (first | refine l_go ?_ | refine d_go ?_ | refine l_onG ?_ | refine l_offG ?_ | refine d_onG ?_ | refine d_offG ?_ | refine wq_seq ?_ | refine wq_line ?_ | refine wq_draw (by decide +kernel) ?_ | refine wq_block ?_ | refine l_nil ?_ | refine d_nil ?_ | refine wq_skip ?_ | refine wq_ret ?_ | refine wq_exit ?_ | refine th_normal ?_ | refine th_ret ?_ | refine th_exit ?_ | refine bk_normal ?_ | refine bk_ret ?_ | refine bk_exit ?_ | refine bk_other rfl ?_)
    refine l_callG (upTo1 ..) ?_
    repeat (first | refine l_go ?_ | refine d_go ?_ | refine l_onG ?_ | refine l_offG ?_ | refine d_onG ?_ | refine d_offG ?_ | refine wq_seq ?_ | refine wq_line ?_ | refine wq_draw (by decide +kernel) ?_ | refine wq_block ?_ | refine l_nil ?_ | refine d_nil ?_ | refine wq_skip ?_ | refine wq_ret ?_ | refine wq_exit ?_ | refine th_normal ?_ | refine th_ret ?_ | refine th_exit ?_ | refine bk_normal ?_ | refine bk_ret ?_ | refine bk_exit ?_ | refine bk_other rfl ?_)
    refine end_ret (by simp only [resRf, resRs, resR]; first | done | rfl) ⟨?_, by first | exact List.prefix_refl _ | exact List.prefix_append _ _ | assumption | (refine List.IsPrefix.trans (by assumption) (List.prefix_append _ _)) | (simp only [List.append_assoc, List.cons_append, List.nil_append, List.set_cons_zero, List.set_cons_succ]; exact ⟨_, by simp only [List.append_assoc, List.cons_append, List.nil_append]; rfl⟩)⟩; simp [put_app, put_none, *]
    simp_all [hyperMay]
  · repeat (first | refine l_go ?_ | refine d_go ?_ | refine l_onG ?_ | refine l_offG ?_ | refine d_onG ?_ | refine d_offG ?_ | refine wq_seq ?_ | refine wq_line ?_ | refine wq_draw (by decide +kernel) ?_ | refine wq_block ?_ | refine l_nil ?_ | refine d_nil ?_ | refine wq_skip ?_ | refine wq_ret ?_ | refine wq_exit ?_ | refine th_normal ?_ | refine th_ret ?_ | refine th_exit ?_ | refine bk_normal ?_ | refine bk_ret ?_ | refine bk_exit ?_ | refine bk_other rfl ?_)
    refine end_ret (by simp only [resRf, resRs, resR]; first | done | rfl) ⟨?_, by first | exact List.prefix_refl _ | exact List.prefix_append _ _ | assumption | (refine List.IsPrefix.trans (by assumption) (List.prefix_append _ _)) | (simp only [List.append_assoc, List.cons_append, List.nil_append, List.set_cons_zero, List.set_cons_succ]; exact ⟨_, by simp only [List.append_assoc, List.cons_append, List.nil_append]; rfl⟩)⟩; simp [put_app, put_none, *]
    simp_all [hyperMay]

theorem optimMay (H : Heap) (r m : Int) : Call Try.prog 27 [.agg [.int .i64 r, .int .i64 m]] H (.bool (hyperMay r m)) H := by
  refine call_plain fit mixed Try.func27 rfl rfl rfl (by kernel_rfl) rfl ?_
  repeat' (first | refine l_go ?_ | refine d_go ?_ | refine l_onG ?_ | refine l_offG ?_ | refine d_onG ?_ | refine d_offG ?_ | refine wq_seq ?_ | refine wq_line ?_ | refine wq_draw (by decide +kernel) ?_ | refine wq_block ?_ | refine l_nil ?_ | refine d_nil ?_ | refine wq_skip ?_ | refine wq_ret ?_ | refine wq_exit ?_ | refine th_normal ?_ | refine th_ret ?_ | refine th_exit ?_ | refine bk_normal ?_ | refine bk_ret ?_ | refine bk_exit ?_ | refine bk_other rfl ?_ | first | refine l_partG (fun hb => ?_) (fun hb => ?_) | refine d_partG (fun hb => ?_) (fun hb => ?_))
  all_goals refine end_ret (by simp only [resRf, resRs, resR]; first | done | rfl) ⟨?_, by first | exact List.prefix_refl _ | exact List.prefix_append _ _ | assumption | (refine List.IsPrefix.trans (by assumption) (List.prefix_append _ _)) | (simp only [List.append_assoc, List.cons_append, List.nil_append, List.set_cons_zero, List.set_cons_succ]; exact ⟨_, by simp only [List.append_assoc, List.cons_append, List.nil_append]; rfl⟩)⟩; simp [put_app, put_none, *]
  all_goals simp_all [hyperMay, within]
  all_goals (first | done | omega)

theorem hyperMayP (H : Heap) (r m : Int) : Call Try.prog 25 [.agg [.int .i64 r, .int .i64 m]] H (.bool (hyperMay r m)) H := by
  refine call_plain fit mixed Try.func25 rfl rfl rfl (by kernel_rfl) rfl ?_
  repeat (first | refine l_go ?_ | refine d_go ?_ | refine l_onG ?_ | refine l_offG ?_ | refine d_onG ?_ | refine d_offG ?_ | refine wq_seq ?_ | refine wq_line ?_ | refine wq_draw (by decide +kernel) ?_ | refine wq_block ?_ | refine l_nil ?_ | refine d_nil ?_ | refine wq_skip ?_ | refine wq_ret ?_ | refine wq_exit ?_ | refine th_normal ?_ | refine th_ret ?_ | refine th_exit ?_ | refine bk_normal ?_ | refine bk_ret ?_ | refine bk_exit ?_ | refine bk_other rfl ?_)
  refine l_callG (optimMay ..) ?_
  repeat (first | refine l_go ?_ | refine d_go ?_ | refine l_onG ?_ | refine l_offG ?_ | refine d_onG ?_ | refine d_offG ?_ | refine wq_seq ?_ | refine wq_line ?_ | refine wq_draw (by decide +kernel) ?_ | refine wq_block ?_ | refine l_nil ?_ | refine d_nil ?_ | refine wq_skip ?_ | refine wq_ret ?_ | refine wq_exit ?_ | refine th_normal ?_ | refine th_ret ?_ | refine th_exit ?_ | refine bk_normal ?_ | refine bk_ret ?_ | refine bk_exit ?_ | refine bk_other rfl ?_)
  refine end_ret (by simp only [resRf, resRs, resR]; first | done | rfl) ⟨?_, by first | exact List.prefix_refl _ | exact List.prefix_append _ _ | assumption | (refine List.IsPrefix.trans (by assumption) (List.prefix_append _ _)) | (simp only [List.append_assoc, List.cons_append, List.nil_append, List.set_cons_zero, List.set_cons_succ]; exact ⟨_, by simp only [List.append_assoc, List.cons_append, List.nil_append]; rfl⟩)⟩; simp [put_app, put_none, *]
end Go.Proofs.Ytibpfgamiilpkaa.VM
