/- Chapter 18: events that are alike; the document's events that may be. -/
import Derived.Test.YtibpfgamiilpkaaLinA
namespace Go.Proofs.Ytibpfgamiilpkaa.VM
open Go
set_option linter.unusedVariables false
set_option linter.unusedSimpArgs false
attribute [local irreducible] wq wqL wqD wqE wqO Th Bk EndR
set_option maxHeartbeats 8000000

theorem ev_eq (a b : Ev) : (a.kind == b.kind && (a.member == b.member && (a.donor == b.donor && (a.at_ == b.at_ && (a.rate == b.rate && (a.mom == b.mom && true)))))) = decide (a = b) := by
  obtain ⟨_, _, _, _, _, _⟩ := a
  obtain ⟨_, _, _, _, _, _⟩ := b
  apply Bool.eq_iff_iff.2
  simp [Ev.mk.injEq]

theorem take_succ_eq {α : Type} {xs ys : List α} {k : Nat} {x y : α} (h : xs.take k = ys.take k) (hx : xs[k]? = some x) (hy : ys[k]? = some y) (e : x = y) : xs.take (k + 1) = ys.take (k + 1) := by
  rw [List.take_add_one, List.take_add_one, h, hx, hy, e]

theorem sameEvents (H : Heap) (u v : V) (xs ys : List Ev) (hx : Sl 6 evC H u xs) (hy : Sl 6 evC H v ys) (lx : xs.length ≤ 2 ^ 47) : Call Try.prog 23 [u, v] H (.bool (decide (xs = ys))) H := by
  refine call_plain fit mixed Try.func23 rfl rfl rfl (by kernel_rfl) rfl ?_
  have hlx := hx.len T22 rfl
  have hly := hy.len T22 rfl
  repeat (first | refine l_go ?_ | refine d_go ?_ | refine l_onG ?_ | refine l_offG ?_ | refine d_onG ?_ | refine d_offG ?_ | refine wq_seq ?_ | refine wq_line ?_ | refine wq_draw (by decide +kernel) ?_ | refine wq_block ?_ | refine l_nil ?_ | refine d_nil ?_ | refine wq_skip ?_ | refine wq_ret ?_ | refine wq_exit ?_ | refine th_normal ?_ | refine th_ret ?_ | refine th_exit ?_ | refine bk_normal ?_ | refine bk_ret ?_ | refine bk_exit ?_ | refine bk_other rfl ?_)
  refine cond_go (fun hb => ?_) (fun hb => ?_)
  · repeat (first | refine l_go ?_ | refine d_go ?_ | refine l_onG ?_ | refine l_offG ?_ | refine d_onG ?_ | refine d_offG ?_ | refine wq_seq ?_ | refine wq_line ?_ | refine wq_draw (by decide +kernel) ?_ | refine wq_block ?_ | refine l_nil ?_ | refine d_nil ?_ | refine wq_skip ?_ | refine wq_ret ?_ | refine wq_exit ?_ | refine th_normal ?_ | refine th_ret ?_ | refine th_exit ?_ | refine bk_normal ?_ | refine bk_ret ?_ | refine bk_exit ?_ | refine bk_other rfl ?_)
    refine end_ret (by simp only [resRf, resRs, resR]; first | done | rfl) ⟨?_, by first | exact List.prefix_refl _ | exact List.prefix_append _ _ | assumption | (refine List.IsPrefix.trans (by assumption) (List.prefix_append _ _)) | (simp only [List.append_assoc, List.cons_append, List.nil_append, List.set_cons_zero, List.set_cons_succ]; exact ⟨_, by simp only [List.append_assoc, List.cons_append, List.nil_append]; rfl⟩)⟩; simp [put_app, put_none, *]
    intro e
    subst e
    simp at hb
  · have hl : xs.length = ys.length := by simp at hb; omega
    repeat (first | refine l_go ?_ | refine d_go ?_ | refine l_onG ?_ | refine l_offG ?_ | refine d_onG ?_ | refine d_offG ?_ | refine wq_seq ?_ | refine wq_line ?_ | refine wq_draw (by decide +kernel) ?_ | refine wq_block ?_ | refine l_nil ?_ | refine d_nil ?_ | refine wq_skip ?_ | refine wq_ret ?_ | refine wq_exit ?_ | refine th_normal ?_ | refine th_ret ?_ | refine th_exit ?_ | refine bk_normal ?_ | refine bk_ret ?_ | refine bk_exit ?_ | refine bk_other rfl ?_)
    refine wq_loop (fun c ρ h => ∃ k, k ≤ xs.length ∧ c = xs.length - k ∧ h = H ∧ xs.take k = ys.take k ∧ ρ 0 = u ∧ ρ 1 = v ∧ ρ 5 = .int .i64 (k : Nat)) ⟨0, Nat.zero_le _, rfl, rfl, by simp, rfl, rfl, rfl⟩ ?_
    rintro _ ρ h ⟨k, hk, rfl, rfl, hsame, h0, h1, h5⟩
    repeat (first | refine l_go ?_ | refine d_go ?_ | refine l_onG ?_ | refine l_offG ?_ | refine d_onG ?_ | refine d_offG ?_ | refine wq_seq ?_ | refine wq_line ?_ | refine wq_draw (by decide +kernel) ?_ | refine wq_block ?_ | refine l_nil ?_ | refine d_nil ?_ | refine wq_skip ?_ | refine wq_ret ?_ | refine wq_exit ?_ | refine th_normal ?_ | refine th_ret ?_ | refine th_exit ?_ | refine bk_normal ?_ | refine bk_ret ?_ | refine bk_exit ?_ | refine bk_other rfl ?_)
    refine cond_go (fun hb => ?_) (fun hb => ?_)
    · have hk' : k < xs.length := by simp at hb; omega
      obtain ⟨x, hxk⟩ : ∃ e, xs[k]? = some e := ⟨xs[k], by simp [hk']⟩
      obtain ⟨y, hyk⟩ : ∃ e, ys[k]? = some e := ⟨ys[k]'(by omega), by simp⟩
      obtain ⟨b, o, cs, hi, rfl, _, hlo, _⟩ := hx.get T22 rfl T34 rfl hxk
      obtain ⟨b2, o2, cs, hi2, rfl, _, hlo2, _⟩ := hy.get T22 rfl T34 rfl hyk
      have ho := loadV_agg T34 rfl hlo
      have ho2 := loadV_agg T34 rfl hlo2
      have hw := wrap_succ (n := k) (by omega)
      repeat (first | refine l_go ?_ | refine d_go ?_ | refine l_onG ?_ | refine l_offG ?_ | refine d_onG ?_ | refine d_offG ?_ | refine wq_seq ?_ | refine wq_line ?_ | refine wq_draw (by decide +kernel) ?_ | refine wq_block ?_ | refine l_nil ?_ | refine d_nil ?_ | refine wq_skip ?_ | refine wq_ret ?_ | refine wq_exit ?_ | refine th_normal ?_ | refine th_ret ?_ | refine th_exit ?_ | refine bk_normal ?_ | refine bk_ret ?_ | refine bk_exit ?_ | refine bk_other rfl ?_)
      refine cond_go (fun hc => ?_) (fun hc => ?_)
      all_goals rw [ev_eq] at hc
      all_goals simp at hc
      · repeat (first | refine l_go ?_ | refine d_go ?_ | refine l_onG ?_ | refine l_offG ?_ | refine d_onG ?_ | refine d_offG ?_ | refine wq_seq ?_ | refine wq_line ?_ | refine wq_draw (by decide +kernel) ?_ | refine wq_block ?_ | refine l_nil ?_ | refine d_nil ?_ | refine wq_skip ?_ | refine wq_ret ?_ | refine wq_exit ?_ | refine th_normal ?_ | refine th_ret ?_ | refine th_exit ?_ | refine bk_normal ?_ | refine bk_ret ?_ | refine bk_exit ?_ | refine bk_other rfl ?_)
        refine end_ret (by simp only [resRf, resRs, resR]; first | done | rfl) ⟨?_, by first | exact List.prefix_refl _ | exact List.prefix_append _ _ | assumption | (refine List.IsPrefix.trans (by assumption) (List.prefix_append _ _)) | (simp only [List.append_assoc, List.cons_append, List.nil_append, List.set_cons_zero, List.set_cons_succ]; exact ⟨_, by simp only [List.append_assoc, List.cons_append, List.nil_append]; rfl⟩)⟩; simp [put_app, put_none, *]
        intro e
        subst e
        rw [hxk] at hyk
        exact hc (Option.some.inj hyk)
      · repeat (first | refine l_go ?_ | refine d_go ?_ | refine l_onG ?_ | refine l_offG ?_ | refine d_onG ?_ | refine d_offG ?_ | refine wq_seq ?_ | refine wq_line ?_ | refine wq_draw (by decide +kernel) ?_ | refine wq_block ?_ | refine l_nil ?_ | refine d_nil ?_ | refine wq_skip ?_ | refine wq_ret ?_ | refine wq_exit ?_ | refine th_normal ?_ | refine th_ret ?_ | refine th_exit ?_ | refine bk_normal ?_ | refine bk_ret ?_ | refine bk_exit ?_ | refine bk_other rfl ?_)
        refine ⟨xs.length - (k + 1), by omega, k + 1, hk', rfl, rfl, take_succ_eq hsame hxk hyk hc, ?_⟩
        simp [put_app, put_none, *]
    · have hk' : k = xs.length := by simp at hb; omega
      subst hk'
      repeat (first | refine l_go ?_ | refine d_go ?_ | refine l_onG ?_ | refine l_offG ?_ | refine d_onG ?_ | refine d_offG ?_ | refine wq_seq ?_ | refine wq_line ?_ | refine wq_draw (by decide +kernel) ?_ | refine wq_block ?_ | refine l_nil ?_ | refine d_nil ?_ | refine wq_skip ?_ | refine wq_ret ?_ | refine wq_exit ?_ | refine th_normal ?_ | refine th_ret ?_ | refine th_exit ?_ | refine bk_normal ?_ | refine bk_ret ?_ | refine bk_exit ?_ | refine bk_other rfl ?_)
      refine end_ret (by simp only [resRf, resRs, resR]; first | done | rfl) ⟨?_, by first | exact List.prefix_refl _ | exact List.prefix_append _ _ | assumption | (refine List.IsPrefix.trans (by assumption) (List.prefix_append _ _)) | (simp only [List.append_assoc, List.cons_append, List.nil_append, List.set_cons_zero, List.set_cons_succ]; exact ⟨_, by simp only [List.append_assoc, List.cons_append, List.nil_append]; rfl⟩)⟩; simp [put_app, put_none, *]
      rw [List.take_of_length_le (Nat.le_refl _), List.take_of_length_le (by omega)] at hsame
      exact hsame

def explored (es : List Ev) (m : Int) : Bool :=
  match es.reverse.find? fun e => e.member == m with
  | some e => e.kind == 1
  | none => false

theorem explored_succ {es : List Ev} {m : Int} {k : Nat} {e : Ev} (he : es[k]? = some e) : explored (es.take (k + 1)) m = if e.member = m then e.kind == 1 else explored (es.take k) m := by
  unfold explored
  rw [List.take_add_one, he]
  simp only [Option.toList_some, List.reverse_append, List.reverse_cons, List.reverse_nil, List.nil_append, List.cons_append, List.find?_cons]
  by_cases h : e.member = m
  · simp [h]
  · rw [if_neg h]
    have : (e.member == m) = false := by simpa using h
    rw [this]

theorem exploredRef (H : Heap) (v : V) (es : List Ev) (m : Int) (hes : Sl 6 evC H v es) (hl : es.length ≤ 2 ^ 47) : Call Try.prog 22 [v, .int .i64 m] H (.bool (explored es m)) H := by
  refine call_plain fit mixed Try.func22 rfl rfl rfl (by kernel_rfl) rfl ?_
  have hlen := hes.len T22 rfl
  have hw0 : IntKind.i64.wrap ((es.length : Int) - 1) = (es.length : Int) - 1 := wrap_i64 (by omega) (by omega)
  repeat (first | refine l_go ?_ | refine d_go ?_ | refine l_onG ?_ | refine l_offG ?_ | refine d_onG ?_ | refine d_offG ?_ | refine wq_seq ?_ | refine wq_line ?_ | refine wq_draw (by decide +kernel) ?_ | refine wq_block ?_ | refine l_nil ?_ | refine d_nil ?_ | refine wq_skip ?_ | refine wq_ret ?_ | refine wq_exit ?_ | refine th_normal ?_ | refine th_ret ?_ | refine th_exit ?_ | refine bk_normal ?_ | refine bk_ret ?_ | refine bk_exit ?_ | refine bk_other rfl ?_)
  refine wq_loop (fun c ρ h => c ≤ es.length ∧ h = H ∧ explored es m = explored (es.take c) m ∧ ρ 0 = v ∧ ρ 1 = .int .i64 m ∧ ρ 5 = .int .i64 ((c : Int) - 1)) (m := es.length) ⟨Nat.le_refl _, rfl, by simp, rfl, rfl, by simp [put_app, put_none, *]⟩ ?_
  rintro c ρ h ⟨hc, rfl, hsame, h0, h1, h5⟩
  repeat (first | refine l_go ?_ | refine d_go ?_ | refine l_onG ?_ | refine l_offG ?_ | refine d_onG ?_ | refine d_offG ?_ | refine wq_seq ?_ | refine wq_line ?_ | refine wq_draw (by decide +kernel) ?_ | refine wq_block ?_ | refine l_nil ?_ | refine d_nil ?_ | refine wq_skip ?_ | refine wq_ret ?_ | refine wq_exit ?_ | refine th_normal ?_ | refine th_ret ?_ | refine th_exit ?_ | refine bk_normal ?_ | refine bk_ret ?_ | refine bk_exit ?_ | refine bk_other rfl ?_)
  refine cond_go (fun hb => ?_) (fun hb => ?_)
  · have hk' : 0 < c := by have : (0 : Int) ≤ (c : Int) - 1 := by simpa using hb
                           omega
    obtain ⟨k, rfl⟩ : ∃ k, c = k + 1 := ⟨c - 1, by omega⟩
    replace h5 : ρ 5 = .int .i64 (k : Int) := by rw [h5]; congr 1; omega
    obtain ⟨e, he⟩ : ∃ e, es[k]? = some e := ⟨es[k]'(by omega), by simp⟩
    obtain ⟨b, o, cs, hi, rfl, _, hlo, hlc⟩ := hes.get T22 rfl T34 rfl he
    have ho := loadV_one T3 rfl (hlc 1 _ rfl)
    have ho0 : loadV T 3 h b o = some (.int .i64 e.kind) := loadV_one T3 rfl (hlc 0 _ rfl)
    have hw : IntKind.i64.wrap ((k : Int) - 1) = (k : Int) - 1 := wrap_i64 (by omega) (by omega)
    rw [explored_succ he] at hsame
    repeat (first | refine l_go ?_ | refine d_go ?_ | refine l_onG ?_ | refine l_offG ?_ | refine d_onG ?_ | refine d_offG ?_ | refine wq_seq ?_ | refine wq_line ?_ | refine wq_draw (by decide +kernel) ?_ | refine wq_block ?_ | refine l_nil ?_ | refine d_nil ?_ | refine wq_skip ?_ | refine wq_ret ?_ | refine wq_exit ?_ | refine th_normal ?_ | refine th_ret ?_ | refine th_exit ?_ | refine bk_normal ?_ | refine bk_ret ?_ | refine bk_exit ?_ | refine bk_other rfl ?_)
    refine cond_go (fun hc => ?_) (fun hc => ?_)
    all_goals simp at hc
    · repeat (first | refine l_go ?_ | refine d_go ?_ | refine l_onG ?_ | refine l_offG ?_ | refine d_onG ?_ | refine d_offG ?_ | refine wq_seq ?_ | refine wq_line ?_ | refine wq_draw (by decide +kernel) ?_ | refine wq_block ?_ | refine l_nil ?_ | refine d_nil ?_ | refine wq_skip ?_ | refine wq_ret ?_ | refine wq_exit ?_ | refine th_normal ?_ | refine th_ret ?_ | refine th_exit ?_ | refine bk_normal ?_ | refine bk_ret ?_ | refine bk_exit ?_ | refine bk_other rfl ?_)
      refine end_ret (by simp only [resRf, resRs, resR]; first | done | rfl) ⟨?_, by first | exact List.prefix_refl _ | exact List.prefix_append _ _ | assumption | (refine List.IsPrefix.trans (by assumption) (List.prefix_append _ _)) | (simp only [List.append_assoc, List.cons_append, List.nil_append, List.set_cons_zero, List.set_cons_succ]; exact ⟨_, by simp only [List.append_assoc, List.cons_append, List.nil_append]; rfl⟩)⟩; simp [put_app, put_none, *]
    · repeat (first | refine l_go ?_ | refine d_go ?_ | refine l_onG ?_ | refine l_offG ?_ | refine d_onG ?_ | refine d_offG ?_ | refine wq_seq ?_ | refine wq_line ?_ | refine wq_draw (by decide +kernel) ?_ | refine wq_block ?_ | refine l_nil ?_ | refine d_nil ?_ | refine wq_skip ?_ | refine wq_ret ?_ | refine wq_exit ?_ | refine th_normal ?_ | refine th_ret ?_ | refine th_exit ?_ | refine bk_normal ?_ | refine bk_ret ?_ | refine bk_exit ?_ | refine bk_other rfl ?_)
      refine ⟨k, by omega, by omega, rfl, by rw [hsame, if_neg hc], ?_⟩
      simp [put_app, put_none, *]
  · have hk' : c = 0 := by have : ¬ (0 : Int) ≤ (c : Int) - 1 := by simpa using hb
                           omega
    subst hk'
    repeat (first | refine l_go ?_ | refine d_go ?_ | refine l_onG ?_ | refine l_offG ?_ | refine d_onG ?_ | refine d_offG ?_ | refine wq_seq ?_ | refine wq_line ?_ | refine wq_draw (by decide +kernel) ?_ | refine wq_block ?_ | refine l_nil ?_ | refine d_nil ?_ | refine wq_skip ?_ | refine wq_ret ?_ | refine wq_exit ?_ | refine th_normal ?_ | refine th_ret ?_ | refine th_exit ?_ | refine bk_normal ?_ | refine bk_ret ?_ | refine bk_exit ?_ | refine bk_other rfl ?_)
    refine end_ret (by simp only [resRf, resRs, resR]; first | done | rfl) ⟨?_, by first | exact List.prefix_refl _ | exact List.prefix_append _ _ | assumption | (refine List.IsPrefix.trans (by assumption) (List.prefix_append _ _)) | (simp only [List.append_assoc, List.cons_append, List.nil_append, List.set_cons_zero, List.set_cons_succ]; exact ⟨_, by simp only [List.append_assoc, List.cons_append, List.nil_append]; rfl⟩)⟩; simp [put_app, put_none, *]
    rfl

def evMay (es : List Ev) (n : Int) (e : Ev) : Bool :=
  within e.member 0 (n - 1) &&
  (if e.kind = 0 then e.donor == 0 && e.at_ == 0 && (e.rate == 0 && e.mom == 0)
   else if e.kind = 1 then within e.donor 0 (n - 1) && e.donor != e.member && e.at_ == (manyOf es e.donor : Int) && (e.rate == 0 && e.mom == 0)
   else if e.kind = 2 then e.donor == 0 && e.at_ == 0 && hyperMay e.rate e.mom && explored es e.member
   else false)

def eventsMay (es : List Ev) (n : Int) : Bool :=
  within n 1 8 && decide (es.length ≤ 1024) && (List.range es.length).all fun k => match es[k]? with | some e => evMay (es.take k) n e | none => true

theorem eventsMay_no {es : List Ev} {n : Int} {k : Nat} {e : Ev} (he : es[k]? = some e) (h : evMay (es.take k) n e = false) : eventsMay es n = false := by
  have hk : k < es.length := (List.getElem?_eq_some_iff.1 he).1
  unfold eventsMay
  rw [Bool.and_eq_false_iff]
  right
  rw [List.all_eq_false]
  exact ⟨k, by simp [hk], by simp [he, h]⟩
theorem eventsMay_yes {es : List Ev} {n : Int} (hn : within n 1 8 = true) (hl : es.length ≤ 1024) (h : ∀ (k : Nat) e, es[k]? = some e → evMay (es.take k) n e = true) : eventsMay es n = true := by
  unfold eventsMay
  simp only [hn, hl, decide_true, Bool.true_and, List.all_eq_true, List.mem_range]
  intro k hk
  have : es[k]? = some es[k] := by simp [hk]
  rw [this]
  exact h k _ this

theorem all_succ {es : List Ev} {p : Nat → Ev → Prop} {k : Nat} {e0 : Ev} (hall : ∀ (j : Nat) e, j < k → es[j]? = some e → p j e) (he : es[k]? = some e0) (h : p k e0) : ∀ (j : Nat) e, j < k + 1 → es[j]? = some e → p j e := fun j e hj hje => by
  by_cases hjk : j = k
  · subst hjk; rw [he] at hje; cases hje; exact h
  · exact hall j e (by omega) hje

theorem no_more {es : List Ev} {n : Int} {k : Nat} {e : Ev} {H h' : Heap} {v' : V} (he : es[k]? = some e) (e1 : v' = .bool false) (e2 : evMay (es.take k) n e = false) (e3 : H <+: h') : v' = .bool (eventsMay es n) ∧ H <+: h' := ⟨by rw [e1, eventsMay_no he e2], e3⟩

theorem evMay_0 {es : List Ev} {n : Int} {e : Ev} (h : e.kind = 0) : evMay es n e = (within e.member 0 (n - 1) && (e.donor == 0 && e.at_ == 0 && (e.rate == 0 && e.mom == 0))) := by simp [evMay, h]
theorem evMay_1 {es : List Ev} {n : Int} {e : Ev} (h : e.kind = 1) : evMay es n e = (within e.member 0 (n - 1) && (within e.donor 0 (n - 1) && e.donor != e.member && e.at_ == (manyOf es e.donor : Int) && (e.rate == 0 && e.mom == 0))) := by simp [evMay, h]
theorem evMay_2 {es : List Ev} {n : Int} {e : Ev} (h : e.kind = 2) : evMay es n e = (within e.member 0 (n - 1) && (e.donor == 0 && e.at_ == 0 && hyperMay e.rate e.mom && explored es e.member)) := by simp [evMay, h]
theorem evMay_3 {es : List Ev} {n : Int} {e : Ev} (h0 : e.kind ≠ 0) (h1 : e.kind ≠ 1) (h2 : e.kind ≠ 2) : evMay es n e = false := by simp [evMay, h0, h1, h2]


end Go.Proofs.Ytibpfgamiilpkaa.VM
