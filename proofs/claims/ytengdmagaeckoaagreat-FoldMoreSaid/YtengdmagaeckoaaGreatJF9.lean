/- Joined texts: EvB, FoldW, EvD, FoldU, FoldX, FoldR, FoldY, EvF, EvG, FoldZ. -/
import Derived.Test.YtengdmagaeckoaaGreatJF8
/- Layer 18: the document's events that may be (LinB, LinC). -/
namespace Go.Proofs.YtengdmagaeckoaaGreat.VM
open Go
set_option linter.unusedVariables false
set_option linter.unusedSimpArgs false
attribute [local irreducible] wq wqL wqD wqE wqO Th Bk EndR
set_option maxHeartbeats 8000000

theorem exploredRef (H : Heap) (v : V) (es : List Ev) (m : Int) (hes : Sl 6 evC H v es) (hl : es.length ≤ 2 ^ 47) : Call Tryz.prog 57 [v, .int .i64 m] H (.bool (explored es m)) H := by
  refine call_plain fit mixed Tryz.func57 rfl rfl rfl (by kernel_rfl) rfl ?_
  have hlen := hes.len T27 rfl
  have hw0 : IntKind.i64.wrap ((es.length : Int) - 1) = (es.length : Int) - 1 := wrap_i64 (by omega) (by omega)
  refine goW ?_
  refine wq_loop (fun c ρ h => c ≤ es.length ∧ h = H ∧ explored es m = explored (es.take c) m ∧ ρ 0 = v ∧ ρ 1 = .int .i64 m ∧ ρ 5 = .int .i64 ((c : Int) - 1)) (m := es.length) ⟨Nat.le_refl _, rfl, by simp, rfl, rfl, by simp [put_app, put_none, *]⟩ ?_
  rintro c ρ h ⟨hc, rfl, hsame, h0, h1, h5⟩
  refine goW ?_
  refine cond_go (fun hb => ?_) (fun hb => ?_)
  · have hk' : 0 < c := by have : (0 : Int) ≤ (c : Int) - 1 := by simpa using hb
                           omega
    obtain ⟨k, rfl⟩ : ∃ k, c = k + 1 := ⟨c - 1, by omega⟩
    replace h5 : ρ 5 = .int .i64 (k : Int) := by rw [h5]; congr 1; omega
    obtain ⟨e, he⟩ : ∃ e, es[k]? = some e := ⟨es[k]'(by omega), by simp⟩
    obtain ⟨b, o, cs, hi, rfl, _, hlo, hlc⟩ := hes.get T27 rfl T78 rfl he
    have ho := loadV_one T3 rfl (hlc 1 _ rfl)
    have ho0 : loadV T 3 h b o = some (.int .i64 e.kind) := loadV_one T3 rfl (hlc 0 _ rfl)
    have hw : IntKind.i64.wrap ((k : Int) - 1) = (k : Int) - 1 := wrap_i64 (by omega) (by omega)
    rw [explored_succ he] at hsame
    refine goW ?_
    refine cond_go (fun hc => ?_) (fun hc => ?_)
    all_goals simp at hc
    · refine goW ?_
      refine end_finG ?_; simp [put_app, put_none, *]
    · refine goW ?_
      refine ⟨k, by omega, by omega, rfl, by rw [hsame, if_neg hc], ?_⟩
      simp [put_app, put_none, *]
  · have hk' : c = 0 := by have : ¬ (0 : Int) ≤ (c : Int) - 1 := by simpa using hb
                           omega
    subst hk'
    refine goW ?_
    refine end_finG ?_; simp [put_app, put_none, *]
    rfl
theorem eventsMayRef (H : Heap) (v : V) (es : List Ev) (n : Int) (hes : Sl 6 evC H v es) (hl : es.length ≤ 2 ^ 47) : Call Tryz.prog 21 [v, .int .i64 n] H (.bool (eventsMay es n)) H := by
  refine call_plain fit mixed Tryz.func21 rfl rfl rfl (by kernel_rfl) rfl ?_
  have hlen := hes.len T27 rfl
  repeat' (first | (refine l_pl ?_; refine l_go ?_) | (refine d_pl ?_; refine d_go ?_) | (refine l_gd ?_; first | refine l_onG ?_ | refine l_offG ?_) | (refine d_gd ?_; first | refine d_onG ?_ | refine d_offG ?_) | refine wq_seq ?_ | refine wq_line ?_ | refine wq_draw (by decide +kernel) ?_ | refine wq_block ?_ | refine l_nil ?_ | refine d_nil ?_ | refine wq_skip ?_ | refine wq_ret ?_ | refine wq_exit ?_ | refine th_normal ?_ | refine th_ret ?_ | refine th_exit ?_ | refine bk_normal ?_ | refine bk_ret ?_ | refine bk_exit ?_ | refine bk_other rfl ?_ | first | refine l_partG (fun hb => ?_) (fun hb => ?_) | refine d_partG (fun hb => ?_) (fun hb => ?_) | refine l_callG (upTo12 ..) ?_)
  · refine cond_go (fun hb => ?_) (fun hb => ?_)
    · refine goW ?_
      refine end_finG ?_; simp [put_app, put_none, *]
      simp at hb
      unfold eventsMay
      have : ¬ es.length ≤ 1024 := by omega
      simp [this]
    · rename_i hn
      have hn : within n 1 8 = true := by simpa using hn
      have hl' : es.length ≤ 1024 := by simp at hb; omega
      refine goW ?_
      have hn' := hn
      simp [within] at hn'
      have hwn : IntKind.i64.wrap (n - 1) = n - 1 := wrap_i64 (by omega) (by omega)
      refine wq_loop (fun c ρ h => ∃ k, k ≤ es.length ∧ c = es.length - k ∧ H <+: h ∧ (∀ (j : Nat) e, j < k → es[j]? = some e → evMay (es.take j) n e = true) ∧ ρ 0 = v ∧ ρ 1 = .int .i64 n ∧ ρ 5 = .int .i64 (k : Nat)) ⟨0, Nat.zero_le _, rfl, List.prefix_refl _, by intro j e hj; omega, rfl, rfl, rfl⟩ ?_
      rintro _ ρ h ⟨k, hk, rfl, hp, hall, h0, h1, h5⟩
      refine goW ?_
      refine cond_go (fun hb => ?_) (fun hb => ?_)
      · have hk' : k < es.length := by simp at hb; omega
        obtain ⟨e, he⟩ : ∃ e, es[k]? = some e := ⟨es[k], by simp [hk']⟩
        obtain ⟨b, o, cs, hi, rfl, _, hlo, hlc⟩ := (hes.mono hp).get T27 rfl T78 rfl he
        have ho := loadV_agg T78 rfl hlo
        have hw := wrap_succ (n := k) (by omega)
        obtain ⟨u, hsl, hu⟩ := hes.take hk
        have hul : (es.take k).length ≤ 2 ^ 47 := by rw [List.length_take]; omega
        clear hb
        repeat' (first | (refine l_pl ?_; refine l_go ?_) | (refine d_pl ?_; refine d_go ?_) | (refine l_gd ?_; first | refine l_onG ?_ | refine l_offG ?_) | (refine d_gd ?_; first | refine d_onG ?_ | refine d_offG ?_) | refine wq_seq ?_ | refine wq_line ?_ | refine wq_draw (by decide +kernel) ?_ | refine wq_block ?_ | refine l_nil ?_ | refine d_nil ?_ | refine wq_skip ?_ | refine wq_ret ?_ | refine wq_exit ?_ | refine th_normal ?_ | refine th_ret ?_ | refine th_exit ?_ | refine bk_normal ?_ | refine bk_ret ?_ | refine bk_exit ?_ | refine bk_other rfl ?_ | refine l_callG (upTo12 ..) ?_)
        refine cond_go (fun hc => ?_) (fun hc => ?_)
        · simp at hc
          have hev := evMay_0 (es := es.take k) (n := n) hc
          repeat' (first | (refine l_pl ?_; refine l_go ?_) | (refine d_pl ?_; refine d_go ?_) | (refine l_gd ?_; first | refine l_onG ?_ | refine l_offG ?_) | (refine d_gd ?_; first | refine d_onG ?_ | refine d_offG ?_) | refine wq_seq ?_ | refine wq_line ?_ | refine wq_draw (by decide +kernel) ?_ | refine wq_block ?_ | refine l_nil ?_ | refine d_nil ?_ | refine wq_skip ?_ | refine wq_ret ?_ | refine wq_exit ?_ | refine th_normal ?_ | refine th_ret ?_ | refine th_exit ?_ | refine bk_normal ?_ | refine bk_ret ?_ | refine bk_exit ?_ | refine bk_other rfl ?_ | first | refine l_partG (fun hb => ?_) (fun hb => ?_) | refine d_partG (fun hb => ?_) (fun hb => ?_) | refine cond_go (fun hb => ?_) (fun hb => ?_))
          all_goals first
            | (refine end_ret (by simp only [resRf, resRs, resR]; first | done | rfl) (no_more he (by simp [put_app, put_none, *]) (by rw [hev]; first | (simp_all; done) | (simp_all; omega)) (by first | exact List.prefix_refl _ | exact List.prefix_append _ _ | assumption | (refine List.IsPrefix.trans (by assumption) (List.prefix_append _ _)) | (simp only [List.append_assoc, List.cons_append, List.nil_append, List.set_cons_zero, List.set_cons_succ]; exact ⟨_, by simp only [List.append_assoc, List.cons_append, List.nil_append]; rfl⟩))); done)
            | (refine ⟨es.length - (k + 1), by omega, k + 1, hk', rfl, by first | exact List.prefix_refl _ | exact List.prefix_append _ _ | assumption | (refine List.IsPrefix.trans (by assumption) (List.prefix_append _ _)) | (simp only [List.append_assoc, List.cons_append, List.nil_append, List.set_cons_zero, List.set_cons_succ]; exact ⟨_, by simp only [List.append_assoc, List.cons_append, List.nil_append]; rfl⟩), all_succ hall he (by rw [hev]; first | (simp_all; done) | (simp_all; omega)), ?_⟩; simp [put_app, put_none, *]; done)
        · simp at hc
          repeat' (first | (refine l_pl ?_; refine l_go ?_) | (refine d_pl ?_; refine d_go ?_) | (refine l_gd ?_; first | refine l_onG ?_ | refine l_offG ?_) | (refine d_gd ?_; first | refine d_onG ?_ | refine d_offG ?_) | refine wq_seq ?_ | refine wq_line ?_ | refine wq_draw (by decide +kernel) ?_ | refine wq_block ?_ | refine l_nil ?_ | refine d_nil ?_ | refine wq_skip ?_ | refine wq_ret ?_ | refine wq_exit ?_ | refine th_normal ?_ | refine th_ret ?_ | refine th_exit ?_ | refine bk_normal ?_ | refine bk_ret ?_ | refine bk_exit ?_ | refine bk_other rfl ?_)
          refine cond_go (fun hc1 => ?_) (fun hc1 => ?_)
          · simp at hc1
            have hev := evMay_1 (es := es.take k) (n := n) hc1
            have hcall := fun H' (hp' : H <+: H') m => manyRef H' u (es.take k) m (hu.mono hp') hul
            repeat' (first | (refine l_pl ?_; refine l_go ?_) | (refine d_pl ?_; refine d_go ?_) | (refine l_gd ?_; first | refine l_onG ?_ | refine l_offG ?_) | (refine d_gd ?_; first | refine d_onG ?_ | refine d_offG ?_) | refine wq_seq ?_ | refine wq_line ?_ | refine wq_draw (by decide +kernel) ?_ | refine wq_block ?_ | refine l_nil ?_ | refine d_nil ?_ | refine wq_skip ?_ | refine wq_ret ?_ | refine wq_exit ?_ | refine th_normal ?_ | refine th_ret ?_ | refine th_exit ?_ | refine bk_normal ?_ | refine bk_ret ?_ | refine bk_exit ?_ | refine bk_other rfl ?_ | refine d_call0G (upTo12 ..) ?_ | refine d_call0G (hcall _ (by first | exact List.prefix_refl _ | exact List.prefix_append _ _ | assumption | (refine List.IsPrefix.trans (by assumption) (List.prefix_append _ _)) | (simp only [List.append_assoc, List.cons_append, List.nil_append, List.set_cons_zero, List.set_cons_succ]; exact ⟨_, by simp only [List.append_assoc, List.cons_append, List.nil_append]; rfl⟩)) _) ?_ | first | refine l_partG (fun hb => ?_) (fun hb => ?_) | refine d_partG (fun hb => ?_) (fun hb => ?_) | refine cond_go (fun hb => ?_) (fun hb => ?_))
            all_goals first
              | (refine end_ret (by simp only [resRf, resRs, resR]; first | done | rfl) (no_more he (by simp [put_app, put_none, *]) (by rw [hev]; first | (simp_all; done) | (simp_all; omega)) (by first | exact List.prefix_refl _ | exact List.prefix_append _ _ | assumption | (refine List.IsPrefix.trans (by assumption) (List.prefix_append _ _)) | (simp only [List.append_assoc, List.cons_append, List.nil_append, List.set_cons_zero, List.set_cons_succ]; exact ⟨_, by simp only [List.append_assoc, List.cons_append, List.nil_append]; rfl⟩))); done)
              | (refine ⟨es.length - (k + 1), by omega, k + 1, hk', rfl, by first | exact List.prefix_refl _ | exact List.prefix_append _ _ | assumption | (refine List.IsPrefix.trans (by assumption) (List.prefix_append _ _)) | (simp only [List.append_assoc, List.cons_append, List.nil_append, List.set_cons_zero, List.set_cons_succ]; exact ⟨_, by simp only [List.append_assoc, List.cons_append, List.nil_append]; rfl⟩), all_succ hall he (by rw [hev]; first | (simp_all; done) | (simp_all; omega)), ?_⟩; simp [put_app, put_none, *]; done)
          · simp at hc1
            repeat' (first | (refine l_pl ?_; refine l_go ?_) | (refine d_pl ?_; refine d_go ?_) | (refine l_gd ?_; first | refine l_onG ?_ | refine l_offG ?_) | (refine d_gd ?_; first | refine d_onG ?_ | refine d_offG ?_) | refine wq_seq ?_ | refine wq_line ?_ | refine wq_draw (by decide +kernel) ?_ | refine wq_block ?_ | refine l_nil ?_ | refine d_nil ?_ | refine wq_skip ?_ | refine wq_ret ?_ | refine wq_exit ?_ | refine th_normal ?_ | refine th_ret ?_ | refine th_exit ?_ | refine bk_normal ?_ | refine bk_ret ?_ | refine bk_exit ?_ | refine bk_other rfl ?_)
            refine cond_go (fun hc2 => ?_) (fun hc2 => ?_)
            · simp at hc2
              have hev := evMay_2 (es := es.take k) (n := n) hc2
              have hcall := fun H' (hp' : H <+: H') m => exploredRef H' u (es.take k) m (hu.mono hp') hul
              repeat' (first | (refine l_pl ?_; refine l_go ?_) | (refine d_pl ?_; refine d_go ?_) | (refine l_gd ?_; first | refine l_onG ?_ | refine l_offG ?_) | (refine d_gd ?_; first | refine d_onG ?_ | refine d_offG ?_) | refine wq_seq ?_ | refine wq_line ?_ | refine wq_draw (by decide +kernel) ?_ | refine wq_block ?_ | refine l_nil ?_ | refine d_nil ?_ | refine wq_skip ?_ | refine wq_ret ?_ | refine wq_exit ?_ | refine th_normal ?_ | refine th_ret ?_ | refine th_exit ?_ | refine bk_normal ?_ | refine bk_ret ?_ | refine bk_exit ?_ | refine bk_other rfl ?_ | refine d_call0G (hyperMay1 ..) ?_ | refine d_call0G (hcall _ (by first | exact List.prefix_refl _ | exact List.prefix_append _ _ | assumption | (refine List.IsPrefix.trans (by assumption) (List.prefix_append _ _)) | (simp only [List.append_assoc, List.cons_append, List.nil_append, List.set_cons_zero, List.set_cons_succ]; exact ⟨_, by simp only [List.append_assoc, List.cons_append, List.nil_append]; rfl⟩)) _) ?_ | first | refine l_partG (fun hb => ?_) (fun hb => ?_) | refine d_partG (fun hb => ?_) (fun hb => ?_) | refine cond_go (fun hb => ?_) (fun hb => ?_))
              all_goals first
                | (refine end_ret (by simp only [resRf, resRs, resR]; first | done | rfl) (no_more he (by simp [put_app, put_none, *]) (by rw [hev]; first | (simp_all; done) | (simp_all; omega)) (by first | exact List.prefix_refl _ | exact List.prefix_append _ _ | assumption | (refine List.IsPrefix.trans (by assumption) (List.prefix_append _ _)) | (simp only [List.append_assoc, List.cons_append, List.nil_append, List.set_cons_zero, List.set_cons_succ]; exact ⟨_, by simp only [List.append_assoc, List.cons_append, List.nil_append]; rfl⟩))); done)
                | (refine ⟨es.length - (k + 1), by omega, k + 1, hk', rfl, by first | exact List.prefix_refl _ | exact List.prefix_append _ _ | assumption | (refine List.IsPrefix.trans (by assumption) (List.prefix_append _ _)) | (simp only [List.append_assoc, List.cons_append, List.nil_append, List.set_cons_zero, List.set_cons_succ]; exact ⟨_, by simp only [List.append_assoc, List.cons_append, List.nil_append]; rfl⟩), all_succ hall he (by rw [hev]; first | (simp_all; done) | (simp_all; omega)), ?_⟩; simp [put_app, put_none, *]; done)
            · simp at hc2
              have hev := evMay_3 (es := es.take k) (n := n) hc hc1 hc2
              repeat' (first | (refine l_pl ?_; refine l_go ?_) | (refine d_pl ?_; refine d_go ?_) | (refine l_gd ?_; first | refine l_onG ?_ | refine l_offG ?_) | (refine d_gd ?_; first | refine d_onG ?_ | refine d_offG ?_) | refine wq_seq ?_ | refine wq_line ?_ | refine wq_draw (by decide +kernel) ?_ | refine wq_block ?_ | refine l_nil ?_ | refine d_nil ?_ | refine wq_skip ?_ | refine wq_ret ?_ | refine wq_exit ?_ | refine th_normal ?_ | refine th_ret ?_ | refine th_exit ?_ | refine bk_normal ?_ | refine bk_ret ?_ | refine bk_exit ?_ | refine bk_other rfl ?_ | refine cond_go (fun hb => ?_) (fun hb => ?_))
              all_goals first
                | (refine end_ret (by simp only [resRf, resRs, resR]; first | done | rfl) (no_more he (by simp [put_app, put_none, *]) (by rw [hev]) (by first | exact List.prefix_refl _ | exact List.prefix_append _ _ | assumption | (refine List.IsPrefix.trans (by assumption) (List.prefix_append _ _)) | (simp only [List.append_assoc, List.cons_append, List.nil_append, List.set_cons_zero, List.set_cons_succ]; exact ⟨_, by simp only [List.append_assoc, List.cons_append, List.nil_append]; rfl⟩))); done)
                | (simp at hb; done)
      · have hk' : k = es.length := by simp at hb; omega
        subst hk'
        refine goW ?_
        refine end_finG ?_; simp [put_app, put_none, *]
        exact (eventsMay_yes hn hl' fun j e he => hall j e (List.getElem?_eq_some_iff.1 he).1 he)
  · have hn : within n 1 8 = false := by simpa using hb
    repeat' (first | (refine l_pl ?_; refine l_go ?_) | (refine d_pl ?_; refine d_go ?_) | (refine l_gd ?_; first | refine l_onG ?_ | refine l_offG ?_) | (refine d_gd ?_; first | refine d_onG ?_ | refine d_offG ?_) | refine wq_seq ?_ | refine wq_line ?_ | refine wq_draw (by decide +kernel) ?_ | refine wq_block ?_ | refine l_nil ?_ | refine d_nil ?_ | refine wq_skip ?_ | refine wq_ret ?_ | refine wq_exit ?_ | refine th_normal ?_ | refine th_ret ?_ | refine th_exit ?_ | refine bk_normal ?_ | refine bk_ret ?_ | refine bk_exit ?_ | refine bk_other rfl ?_ | refine cond_go (fun hb => ?_) (fun hb => ?_))
    all_goals first
      | (simp at hb; done)
      | (refine end_finG ?_; simp [put_app, put_none, *]; simp [eventsMay, hn]; done)
end Go.Proofs.YtengdmagaeckoaaGreat.VM

/- Layer 24: the document's Fold. -/
namespace Go.Proofs.YtengdmagaeckoaaGreat.VM
open Go
set_option linter.unusedVariables false
set_option linter.unusedSimpArgs false
attribute [local irreducible] wq wqL wqD wqE wqO Th Bk EndR
set_option maxHeartbeats 8000000

/-- one of many parts is taken out -/
theorem Mem.pull {B H : Heap} {L M : List Res} {i : Nat} {r : Res} (h : Mem B H (.ro (pack L) :: M)) (hr : L[i]? = some r) : Mem B H (r :: .ro (pack (L.set i (.own 1 intC .nils []))) :: M) := by
  obtain ⟨hi, rfl⟩ := List.getElem?_eq_some_iff.1 hr
  have h1 := h.unpacked.nil 1 intC
  have e : L = L.take i ++ L[i] :: L.drop (i + 1) := by rw [← List.drop_eq_getElem_cons hi, List.take_append_drop]
  have e2 : L.set i (.own 1 intC .nils ([] : List Int)) = L.take i ++ .own 1 intC .nils [] :: L.drop (i + 1) := by rw [List.set_eq_take_append_cons_drop, if_pos hi]
  have h2 : Mem B H ((L.take i ++ .own 1 intC .nils ([] : List Int) :: L.drop (i + 1)) ++ (L[i] :: M)) := by
    have p : ∀ (A D M : List Res) (x z : Res), (z :: ((A ++ x :: D) ++ M)).Perm ((A ++ z :: D) ++ x :: M) := fun A D M x z => by
      simp only [List.append_assoc, List.cons_append]
      exact (List.perm_middle.symm).trans (List.Perm.append_left A (List.Perm.cons z List.perm_middle.symm))
    refine h1.perm (List.Perm.trans ?_ (p _ _ _ _ _))
    rw [← e]
  rw [← e2] at h2
  exact h2.packed.swap

/-- a checkpoint of a history -/
structure HChk where
  w : V
  v : V
  k : Chk
def ckC (cs : List V) (x : HChk) : Prop := cs = kC x.w x.v x.k
structure HRow where
  v : V
  r : List HChk
def hrC (cs : List V) (x : HRow) : Prop := cs = [x.v]
def hrPart (x : HRow) : Res := .own 5 ckC x.v x.r
def hrs (rw : List HRow) : List Res := rw.map hrPart
structure HistAt (W : List Res) (H : Hist) (rw : List HRow) : Prop where
  len : rw.length = H.length
  row : ∀ (i : Nat) x, rw[i]? = some x → x.r.map HChk.k = (H.getD i []).map fun o => o.getD noChk
  lies : ∀ x ∈ rw, ∀ y ∈ x.r, Lies W y.w y.k.ws ∧ Lies W y.v y.k.vs
theorem cells_cks (xs : List HChk) : Cells 5 ckC (xs.flatMap fun x => kC x.w x.v x.k) xs := cells_of (R := ckC) (fun x => kC x.w x.v x.k) (fun x => ⟨rfl, rfl⟩) xs
theorem hr_at {B H : Heap} {L : List Res} {f : Res → List Res} {u : V} {rw : List HRow} (hM : Mem B H L) (hh : Has L (.own 1 hrC u rw) f) {i : Nat} {x : HRow} (hx : rw[i]? = some x) :
    ∃ b o, idxV T 99 u (i : Int) = some (.ptr b o) ∧ loadV T 100 H b o = some x.v := by
  obtain ⟨b, o, cs, hi, hc, _, hlo, hlc⟩ := (hM.sl hh).get T99 rfl T100 rfl hx
  rw [hc] at hlo hlc
  exact ⟨b, o, hi, loadV_one T100 rfl (hlc 0 _ rfl)⟩
theorem ck_at {H : Heap} {v : V} {r : List HChk} (h : Sl 5 ckC H v r) {j : Nat} {y : HChk} (hy : r[j]? = some y) :
    ∃ b o, idxV T 100 v (j : Int) = some (.ptr b o) ∧ loadV T 34 H b o = some (.agg (kC y.w y.v y.k)) ∧ loadV T 30 H b o = some y.w := by
  obtain ⟨b, o, cs, hi, hc, _, hlo, hlc⟩ := h.get T100 rfl T34 rfl hy
  rw [hc] at hlo hlc
  exact ⟨b, o, hi, loadV_agg T34 rfl hlo, loadV_one T30 rfl (hlc 0 _ rfl)⟩
theorem hr_sl {B H : Heap} {L : List Res} {f : Res → List Res} {rw : List HRow} (hM : Mem B H L) (hh : Has L (.ro (pack (hrs rw))) f) {i : Nat} {x : HRow} (hx : rw[i]? = some x) : Sl 5 ckC H x.v x.r := by
  have hm := pack_mem (hM.fact hh)
  have hr : (hrs rw)[i]? = some (hrPart x) := by unfold hrs; rw [List.getElem?_map, hx]; rfl
  exact hm.sl (Has.nth hr)

theorem histAt_set {W : List Res} {H : Hist} {rw : List HRow} (h : HistAt W H rw) {i : Nat} {x : HRow} (hx : rw[i]? = some x) {v : V} {y : HChk} {o : Option Chk} (hy : y.k = o.getD noChk) (N : List Res) (l1 : Lies (N ++ W) y.w y.k.ws) (l2 : Lies (N ++ W) y.v y.k.vs) :
    HistAt (N ++ W) (H.set i (H.getD i [] ++ [o])) (rw.set i ⟨v, x.r ++ [y]⟩) := by
  have hi := (List.getElem?_eq_some_iff.1 hx).1
  refine ⟨by simp [h.len], fun j z hz => ?_, fun z hz q hq => ?_⟩
  · rw [List.getElem?_set] at hz
    rw [List.getD_eq_getElem?_getD, List.getElem?_set]
    by_cases hij : i = j
    · subst hij
      rw [if_pos rfl, if_pos hi] at hz
      cases hz
      rw [if_pos rfl, if_pos (by rw [← h.len]; exact hi)]
      have := h.row i x hx
      simp only [List.map_append, List.map_cons, List.map_nil, Option.getD_some, this, hy]
    · rw [if_neg hij] at hz ⊢
      rw [← List.getD_eq_getElem?_getD]
      exact h.row j z hz
  · rcases List.mem_or_eq_of_mem_set hz with hz | rfl
    · obtain ⟨h1, h2⟩ := h.lies z hz q hq
      exact ⟨h1.more N, h2.more N⟩
    · simp only [List.mem_append, List.mem_singleton] at hq
      rcases hq with hq | rfl
      · obtain ⟨h1, h2⟩ := h.lies x (List.mem_of_getElem? hx) q hq
        exact ⟨h1.more N, h2.more N⟩
      · exact ⟨l1, l2⟩
theorem hrs_set {rw : List HRow} {i : Nat} {x : HRow} : (hrs rw).set i (hrPart x) = hrs (rw.set i x) := by unfold hrs; rw [List.map_set]

theorem refFold_bad (H : Heap) (c : Cfg) (rv v : V) (es : List Ev) (id at_ : Int) (hr : Rows H rv c.rows) (cf : c.Fit) (hes : Sl 6 evC H v es) (hl : es.length ≤ 2 ^ 42) (hb : foldOk c es id at_ = false) :
    Call Tryz.prog 13 [.agg (cfgC c rv), v, .int .i64 id, .int .i64 at_] H (.tup [.agg (kC .nils .nils noChk), .int .i64 2400]) H := by
  have l1 := cf.rows
  have l2 := cf.row
  have s1 := hes.cells
  refine call_pure fit mixed Tryz.func13 rfl rfl rfl (by kernel_rfl) rfl fun hM => ?_
  refine wq_seq (wq_line ?_)
  refine l_boxM T26 fun b1 H1 hM => ?_
  refine l_newM (cs := zeroChk) T34 rfl fun b2 H2 hM => ?_
  have c1 := refConfMay_ H2 c rv (hr.mono hM.pre) (by omega) (fun r hr => by have := l2 r hr; omega)
  have c2 := eventsMayRef H2 v es c.m (hes.mono hM.pre) (by omega)
  have c4 := manyRef H2 v es id (hes.mono hM.pre) (by omega)
  unfold foldOk at hb
  obtain ⟨q1, e1⟩ : ∃ q, cfgMay c = q := ⟨_, rfl⟩
  obtain ⟨q2, e2⟩ : ∃ q, eventsMay es c.m = q := ⟨_, rfl⟩
  obtain ⟨q3, e3⟩ : ∃ q, decide (id < 0) = q := ⟨_, rfl⟩
  obtain ⟨q6, e6⟩ : ∃ q, decide (id ≥ c.m) = q := ⟨_, rfl⟩
  obtain ⟨q4, e4⟩ : ∃ q, decide (at_ < 0) = q := ⟨_, rfl⟩
  obtain ⟨q5, e5⟩ : ∃ q, decide (at_ > (manyOf es id : Int)) = q := ⟨_, rfl⟩
  have n4 : decide (0 ≤ at_) = !q4 := by rw [← e4]; by_cases h : at_ < 0 <;> simp [h] <;> omega
  have n5 : decide (at_ ≤ (manyOf es id : Int)) = !q5 := by rw [← e5]; by_cases h : at_ > (manyOf es id : Int) <;> simp [h] <;> omega
  have n3 : q1 = true → within id 0 (IntKind.i64.wrap (c.m - 1)) = (!q3 && !q6) := fun h => by
    rw [h] at e1
    obtain ⟨hm2, _⟩ := cfgMay_split e1
    rw [wrap_m hm2, ← e3, ← e6]
    unfold within
    by_cases h1 : id < 0 <;> by_cases h2 : id ≥ c.m <;> simp [h1, h2] <;> omega
  rw [e1] at c1 hb
  rw [e2] at c2 hb
  rw [n4, n5] at hb
  clear e1 e2 n4 n5 l1 l2 cf hr hl
  cases q1 with
  | false =>
    clear hb n3
    refine goM ?_
    refine l_callG c1 ?_
    refine goM ?_
    refine l_putM T34 fun H3 hM => ?_
    refine goM ?_
    exact end_2 (by first | exact .inl rfl | exact .inr rfl) ⟨rfl, hM.pre⟩
  | true =>
    rw [n3 rfl] at hb
    clear n3
    refine goM ?_
    refine l_callG c1 ?_
    refine goM ?_
    cases q2 with
    | false =>
      clear hb
      refine l_callG c2 ?_
      refine goM ?_
      refine l_putM T34 fun H3 hM => ?_
      refine goM ?_
      exact end_2 (by first | exact .inl rfl | exact .inr rfl) ⟨rfl, hM.pre⟩
    | true =>
      refine l_callG c2 ?_
      cases q3 with
      | true =>
        clear hb
        refine goM ?_
        refine l_putM T34 fun H3 hM => ?_
        refine goM ?_
        exact end_2 (by first | exact .inl rfl | exact .inr rfl) ⟨rfl, hM.pre⟩
      | false =>
        cases q6 with
        | true =>
          clear hb
          refine goM ?_
          refine l_putM T34 fun H3 hM => ?_
          refine goM ?_
          exact end_2 (by first | exact .inl rfl | exact .inr rfl) ⟨rfl, hM.pre⟩
        | false =>
          cases q4 with
          | true =>
            clear hb
            refine goM ?_
            refine l_putM T34 fun H3 hM => ?_
            refine goM ?_
            exact end_2 (by first | exact .inl rfl | exact .inr rfl) ⟨rfl, hM.pre⟩
          | false =>
            have e5' : q5 = true := by simpa using hb
            subst e5'
            clear hb
            refine goM ?_
            refine l_callG c4 ?_
            refine goM ?_
            refine l_putM T34 fun H3 hM => ?_
            refine goM ?_
            exact end_2 (by first | exact .inl rfl | exact .inr rfl) ⟨rfl, hM.pre⟩
end Go.Proofs.YtengdmagaeckoaaGreat.VM

/- Layer 18: the program's tally, its events that may be (LinD, LinE). -/
namespace Go.Proofs.YtengdmagaeckoaaGreat.VM
open Go
set_option linter.unusedVariables false
set_option linter.unusedSimpArgs false
attribute [local irreducible] wq wqL wqD wqE wqO Th Bk EndR
set_option maxHeartbeats 8000000

theorem inside (H : Heap) (b : Nat) (n x : Int) (hb : H.loadN b 0 1 = some [.int .i64 n]) : Call Tryz.prog 120 [.int .i64 x, .ptr b 0] H (.bool (decide (x ≥ 0) && decide (x < n))) H := by
  refine call_plain fit mixed Tryz.func120 rfl rfl rfl (by kernel_rfl) rfl ?_
  have hl : loadV T 3 H b 0 = some (.int .i64 n) := loadV_one T3 rfl hb
  repeat' (first | (refine l_pl ?_; refine l_go ?_) | (refine d_pl ?_; refine d_go ?_) | (refine l_gd ?_; first | refine l_onG ?_ | refine l_offG ?_) | (refine d_gd ?_; first | refine d_onG ?_ | refine d_offG ?_) | refine wq_seq ?_ | refine wq_line ?_ | refine wq_draw (by decide +kernel) ?_ | refine wq_block ?_ | refine l_nil ?_ | refine d_nil ?_ | refine wq_skip ?_ | refine wq_ret ?_ | refine wq_exit ?_ | refine th_normal ?_ | refine th_ret ?_ | refine th_exit ?_ | refine bk_normal ?_ | refine bk_ret ?_ | refine bk_exit ?_ | refine bk_other rfl ?_ | first | refine l_partG (fun hb => ?_) (fun hb => ?_) | refine d_partG (fun hb => ?_) (fun hb => ?_))
  all_goals refine end_finG ?_; simp [put_app, put_none, *]
  all_goals simp_all
  all_goals (first | done | omega)
def TallyC (cs : List V) (es : List Ev) : Prop := cs.length = 16 ∧ ∀ m : Nat, m < 8 → cs[m]? = some (.int .i64 (manyOf es (m : Int))) ∧ cs[8 + m]? = some (.int .i64 (lastKind es (m : Int)))
theorem take_ (H : Heap) (cs : List V) (es : List Ev) (e : Ev) (q : Nat) (b o : Nat) (hq : q < 8) (hm : e.member = (q : Int)) (ht : TallyC cs es) (hl : es.length ≤ 2 ^ 47) (he : ∀ l, (H ++ l).loadN b o 1 = some [.int .i64 e.kind]) (he1 : ∀ l, (H ++ l).loadN b (o + 1) 1 = some [.int .i64 e.member]) :
    ∃ cs', TallyC cs' (es ++ [e]) ∧ Call Tryz.prog 82 [.ptr H.length 0, .ptr b o] (H ++ [.row cs true]) (.tup []) (H ++ [.row cs' true]) := by
  obtain ⟨h1, h2⟩ := ht
  obtain ⟨c1, c2⟩ := h2 q hq
  have hle := manyOf_le es (q : Int)
  have hw := wrap_succ (n := manyOf es (q : Int)) (by omega)
  have x1 : ∀ l, loadV T 3 (H ++ l) b o = some (.int .i64 e.kind) := fun l => loadV_one T3 rfl (he l)
  have x2 : ∀ l, loadV T 3 (H ++ l) b (o + 1) = some (.int .i64 (q : Int)) := fun l => by rw [← hm]; exact loadV_one T3 rfl (he1 l)
  have i1 := arr_idx (b := H.length) (off := 0) T137 rfl T3 rfl hq
  have i2 := arr_idx (b := H.length) (off := 8) T137 rfl T3 rfl hq
  rw [Nat.zero_add] at i1
  have l1 := row_load (H := H) (w := true) T3 rfl c1
  have s1 := row_store (H := H) (v := .int .i64 ((manyOf es (q : Int) : Int) + 1)) (q := q) (cs := cs) T3 rfl rfl rfl (by omega)
  have s2 := row_store (H := H) (v := .int .i64 e.kind) (q := 8 + q) (cs := cs.set q (.int .i64 ((manyOf es (q : Int) : Int) + 1))) T3 rfl rfl rfl (by simp; omega)
  refine ⟨(cs.set q (.int .i64 ((manyOf es (q : Int) : Int) + 1))).set (8 + q) (.int .i64 e.kind), ⟨by simp [h1], fun m hm' => ?_⟩, ?_⟩
  · obtain ⟨d1, d2⟩ := h2 m hm'
    rw [manyOf_snoc, lastKind_snoc, hm]
    by_cases hmq : q = m
    · subst hmq
      simp [List.getElem?_set, h1]
      omega
    · have : ¬ (q : Int) = (m : Int) := by omega
      simp [List.getElem?_set, h1, this, hmq]
      rw [if_neg (by omega), if_neg (by omega), d1, d2]
      exact ⟨rfl, rfl⟩
  · obtain ⟨v', H', ⟨rfl, rfl⟩, hc⟩ := call_wq (R := fun v h => v = .tup [] ∧ h = H ++ [.row ((cs.set q (.int .i64 ((manyOf es (q : Int) : Int) + 1))).set (8 + q) (.int .i64 e.kind)) true]) (args := [.ptr H.length 0, .ptr b o]) (H := H ++ [.row cs true]) fit mixed Tryz.func82 rfl rfl rfl (by kernel_rfl) (by
      refine goW ?_
      refine end_normal (by simp only [resRf, resRs, resR]; first | done | rfl) ⟨rfl, rfl⟩)
    exact hc
theorem within_lt (x n : Int) : within x 0 (n - 1) = (decide (x ≥ 0) && decide (x < n)) := by
  unfold within
  congr 1
  apply decide_eq_decide.2
  omega
theorem mayT (H : Heap) (cs : List V) (es : List Ev) (e : Ev) (n : Int) (b o : Nat) (hn : 1 ≤ n ∧ n ≤ 8) (ht : TallyC cs es) (hl : es.length ≤ 2 ^ 47)
    (he : ∀ l, (H ++ l).loadN b o 6 = some e.cells) (hf : ∀ l (j : Nat) c, e.cells[j]? = some c → (H ++ l).loadN b (o + j) 1 = some [c]) :
    Call Tryz.prog 81 [.ptr H.length 0, .ptr b o, .int .i64 n] (H ++ [.row cs true]) (.bool (evMay es n e)) (H ++ [.row cs true]) := by
  obtain ⟨h1, h2⟩ := ht
  have x0 : ∀ l, loadV T 3 (H ++ l) b o = some (.int .i64 e.kind) := fun l => loadV_one T3 rfl (hf l 0 _ rfl)
  have x1 : ∀ l, loadV T 3 (H ++ l) b (o + 1) = some (.int .i64 e.member) := fun l => loadV_one T3 rfl (hf l 1 _ rfl)
  have x2 : ∀ l, loadV T 3 (H ++ l) b (o + 2) = some (.int .i64 e.donor) := fun l => loadV_one T3 rfl (hf l 2 _ rfl)
  have x3 : ∀ l, loadV T 3 (H ++ l) b (o + 3) = some (.int .i64 e.at_) := fun l => loadV_one T3 rfl (hf l 3 _ rfl)
  have x5 : ∀ l, loadV T 78 (H ++ l) b o = some (.agg [.int .i64 e.kind, .int .i64 e.member, .int .i64 e.donor, .int .i64 e.at_, .int .i64 e.rate, .int .i64 e.mom]) := fun l => loadV_agg T78 rfl (he l)
  refine call_plain fit mixed Tryz.func81 rfl rfl rfl (by kernel_rfl) rfl ?_
  have hwl : within e.member 0 (n - 1) = (decide (e.member ≥ 0) && decide (e.member < n)) := within_lt ..
  repeat' (first | (refine l_pl ?_; refine l_go ?_) | (refine d_pl ?_; refine d_go ?_) | (refine l_gd ?_; first | refine l_onG ?_ | refine l_offG ?_) | (refine d_gd ?_; first | refine d_onG ?_ | refine d_offG ?_) | refine wq_seq ?_ | refine wq_line ?_ | refine wq_draw (by decide +kernel) ?_ | refine wq_block ?_ | refine l_nil ?_ | refine d_nil ?_ | refine wq_skip ?_ | refine wq_ret ?_ | refine wq_exit ?_ | refine th_normal ?_ | refine th_ret ?_ | refine th_exit ?_ | refine bk_normal ?_ | refine bk_ret ?_ | refine bk_exit ?_ | refine bk_other rfl ?_ | refine l_call (by exact (by simp only [callsWhom, beq_self_eq_true, bne_self_eq_false, ev_tmp, ev_const, ev_func, V.of, V.ofs, put_app, put_none, rho0_app, reduceIte, Nat.reduceEqDiff, reduceCtorEq, List.getD_cons_zero, List.getD_cons_succ, evs, optEv, evParts, Option.map_some, List.cons_append, List.nil_append, List.append_nil, List.append_assoc, Nat.zero_add, Nat.add_zero, *]; first | done | rfl)) (inside _ _ n _ (by first | (simp only [loadN_app, loadN_app0]; first | done | rfl) | (simp only [List.append_assoc, List.cons_append, List.nil_append, List.length_append, List.length_cons, List.length_nil, Nat.zero_add, Nat.add_zero, Nat.reduceAdd, List.set_cons_zero, List.set_cons_succ, loadN_app, loadN_app0]; first | done | rfl))) ?_)
  refine cond_go (fun hb => ?_) (fun hb => ?_)
  · repeat' (first | (refine l_pl ?_; refine l_go ?_) | (refine d_pl ?_; refine d_go ?_) | (refine l_gd ?_; first | refine l_onG ?_ | refine l_offG ?_) | (refine d_gd ?_; first | refine d_onG ?_ | refine d_offG ?_) | refine wq_seq ?_ | refine wq_line ?_ | refine wq_draw (by decide +kernel) ?_ | refine wq_block ?_ | refine l_nil ?_ | refine d_nil ?_ | refine wq_skip ?_ | refine wq_ret ?_ | refine wq_exit ?_ | refine th_normal ?_ | refine th_ret ?_ | refine th_exit ?_ | refine bk_normal ?_ | refine bk_ret ?_ | refine bk_exit ?_ | refine bk_other rfl ?_)
    refine end_finG ?_; simp [put_app, put_none, *]
    have : within e.member 0 (n - 1) = false := by rw [hwl]; cases h : (decide (e.member ≥ 0) && decide (e.member < n)) <;> simp_all
    simp [evMay, this]
  · have hin : within e.member 0 (n - 1) = true := by rw [hwl]; simpa using hb
    have hm : 0 ≤ e.member ∧ e.member < n := by simpa [within_lt] using hin
    clear hwl hb
    repeat' (first | (refine l_pl ?_; refine l_go ?_) | (refine d_pl ?_; refine d_go ?_) | (refine l_gd ?_; first | refine l_onG ?_ | refine l_offG ?_) | (refine d_gd ?_; first | refine d_onG ?_ | refine d_offG ?_) | refine wq_seq ?_ | refine wq_line ?_ | refine wq_draw (by decide +kernel) ?_ | refine wq_block ?_ | refine l_nil ?_ | refine d_nil ?_ | refine wq_skip ?_ | refine wq_ret ?_ | refine wq_exit ?_ | refine th_normal ?_ | refine th_ret ?_ | refine th_exit ?_ | refine bk_normal ?_ | refine bk_ret ?_ | refine bk_exit ?_ | refine bk_other rfl ?_)
    refine cond_go (fun hc => ?_) (fun hc => ?_)
    · simp at hc
      repeat' (first | (refine l_pl ?_; refine l_go ?_) | (refine d_pl ?_; refine d_go ?_) | (refine l_gd ?_; first | refine l_onG ?_ | refine l_offG ?_) | (refine d_gd ?_; first | refine d_onG ?_ | refine d_offG ?_) | refine wq_seq ?_ | refine wq_line ?_ | refine wq_draw (by decide +kernel) ?_ | refine wq_block ?_ | refine l_nil ?_ | refine d_nil ?_ | refine wq_skip ?_ | refine wq_ret ?_ | refine wq_exit ?_ | refine th_normal ?_ | refine th_ret ?_ | refine th_exit ?_ | refine bk_normal ?_ | refine bk_ret ?_ | refine bk_exit ?_ | refine bk_other rfl ?_)
      refine end_finG ?_; simp [put_app, put_none, *]
      rw [evMay_0 hc, hin]
      simp [Bool.and_assoc]
    · simp at hc
      repeat' (first | (refine l_pl ?_; refine l_go ?_) | (refine d_pl ?_; refine d_go ?_) | (refine l_gd ?_; first | refine l_onG ?_ | refine l_offG ?_) | (refine d_gd ?_; first | refine d_onG ?_ | refine d_offG ?_) | refine wq_seq ?_ | refine wq_line ?_ | refine wq_draw (by decide +kernel) ?_ | refine wq_block ?_ | refine l_nil ?_ | refine d_nil ?_ | refine wq_skip ?_ | refine wq_ret ?_ | refine wq_exit ?_ | refine th_normal ?_ | refine th_ret ?_ | refine th_exit ?_ | refine bk_normal ?_ | refine bk_ret ?_ | refine bk_exit ?_ | refine bk_other rfl ?_)
      refine cond_go (fun hc1 => ?_) (fun hc1 => ?_)
      · simp at hc1
        repeat' (first | (refine l_pl ?_; refine l_go ?_) | (refine d_pl ?_; refine d_go ?_) | (refine l_gd ?_; first | refine l_onG ?_ | refine l_offG ?_) | (refine d_gd ?_; first | refine d_onG ?_ | refine d_offG ?_) | refine wq_seq ?_ | refine wq_line ?_ | refine wq_draw (by decide +kernel) ?_ | refine wq_block ?_ | refine l_nil ?_ | refine d_nil ?_ | refine wq_skip ?_ | refine wq_ret ?_ | refine wq_exit ?_ | refine th_normal ?_ | refine th_ret ?_ | refine th_exit ?_ | refine bk_normal ?_ | refine bk_ret ?_ | refine bk_exit ?_ | refine bk_other rfl ?_)
        refine wq_late ?_
        repeat (first | refine e_go ?_ | refine e_goL ?_ | refine e_goS ?_ | refine e_nil ?_)
        have hd : (∃ d, idxV T 137 (.ptr H.length 0) e.donor = some (.ptr H.length d) ∧ ∀ l, loadV T 3 (H ++ (.row cs true :: l)) H.length d = some (.int .i64 (manyOf es e.donor))) ∨ ¬ (0 ≤ e.donor ∧ e.donor < n) := by
          by_cases hd : 0 ≤ e.donor ∧ e.donor < n
          · obtain ⟨d, hde⟩ : ∃ d : Nat, e.donor = (d : Int) := ⟨e.donor.toNat, by omega⟩
            have hd8 : d < 8 := by omega
            have i1 := arr_idx (b := H.length) (off := 0) T137 rfl T3 rfl hd8
            rw [Nat.zero_add] at i1
            exact .inl ⟨d, by rw [hde]; exact i1, fun l => by rw [hde]; exact row_load T3 rfl (h2 d hd8).1 l⟩
          · exact .inr hd
        have hev := evMay_1 (es := es) (n := n) hc1
        rw [hin, within_lt] at hev
        rcases hd with ⟨d, i1, l1⟩ | hd
        · repeat' (first | (refine l_pl ?_; refine l_go ?_) | (refine d_pl ?_; refine d_go ?_) | (refine l_gd ?_; first | refine l_onG ?_ | refine l_offG ?_) | (refine d_gd ?_; first | refine d_onG ?_ | refine d_offG ?_) | refine wq_seq ?_ | refine wq_line ?_ | refine wq_draw (by decide +kernel) ?_ | refine wq_block ?_ | refine l_nil ?_ | refine d_nil ?_ | refine wq_skip ?_ | refine wq_ret ?_ | refine wq_exit ?_ | refine th_normal ?_ | refine th_ret ?_ | refine th_exit ?_ | refine bk_normal ?_ | refine bk_ret ?_ | refine bk_exit ?_ | refine bk_other rfl ?_ | refine d_call0 (by exact (by simp only [callsWhom, beq_self_eq_true, bne_self_eq_false, ev_tmp, ev_const, ev_func, V.of, V.ofs, put_app, put_none, rho0_app, reduceIte, Nat.reduceEqDiff, reduceCtorEq, List.getD_cons_zero, List.getD_cons_succ, evs, optEv, evParts, Option.map_some, List.cons_append, List.nil_append, List.append_nil, List.append_assoc, Nat.zero_add, Nat.add_zero, *]; first | done | rfl)) (inside _ _ n _ (by first | (simp only [loadN_app, loadN_app0]; first | done | rfl) | (simp only [List.append_assoc, List.cons_append, List.nil_append, List.length_append, List.length_cons, List.length_nil, Nat.zero_add, Nat.add_zero, Nat.reduceAdd, List.set_cons_zero, List.set_cons_succ, loadN_app, loadN_app0]; first | done | rfl))) ?_ | first | refine l_partG (fun hb => ?_) (fun hb => ?_) | refine d_partG (fun hb => ?_) (fun hb => ?_))
          all_goals refine end_ret (by simp only [resRf, resRs, resR]; first | done | rfl) ⟨?_, by first | exact List.prefix_refl _ | exact List.prefix_append _ _ | assumption | (refine List.IsPrefix.trans (by assumption) (List.prefix_append _ _)) | (simp only [List.append_assoc, List.cons_append, List.nil_append, List.set_cons_zero, List.set_cons_succ]; exact ⟨_, by simp only [List.append_assoc, List.cons_append, List.nil_append]; rfl⟩)⟩
          all_goals (rw [hev]; clear he hf h2 x0 x1 x2 x3 x5; first | (simp [put_app, put_none, *]; done) | (simp_all [put_app, put_none]; done))
        · have hd' : (decide (e.donor ≥ 0) && decide (e.donor < n)) = false := by
            cases h : (decide (e.donor ≥ 0) && decide (e.donor < n)) with
            | false => rfl
            | true =>
              exfalso
              simp at h
              exact hd ⟨by omega, by omega⟩
          clear hd
          rw [hd'] at hev
          repeat' (first | (refine l_pl ?_; refine l_go ?_) | (refine d_pl ?_; refine d_go ?_) | (refine l_gd ?_; first | refine l_onG ?_ | refine l_offG ?_) | (refine d_gd ?_; first | refine d_onG ?_ | refine d_offG ?_) | refine wq_seq ?_ | refine wq_line ?_ | refine wq_draw (by decide +kernel) ?_ | refine wq_block ?_ | refine l_nil ?_ | refine d_nil ?_ | refine wq_skip ?_ | refine wq_ret ?_ | refine wq_exit ?_ | refine th_normal ?_ | refine th_ret ?_ | refine th_exit ?_ | refine bk_normal ?_ | refine bk_ret ?_ | refine bk_exit ?_ | refine bk_other rfl ?_ | refine d_call0 (by exact (by simp only [callsWhom, beq_self_eq_true, bne_self_eq_false, ev_tmp, ev_const, ev_func, V.of, V.ofs, put_app, put_none, rho0_app, reduceIte, Nat.reduceEqDiff, reduceCtorEq, List.getD_cons_zero, List.getD_cons_succ, evs, optEv, evParts, Option.map_some, List.cons_append, List.nil_append, List.append_nil, List.append_assoc, Nat.zero_add, Nat.add_zero, *]; first | done | rfl)) (inside _ _ n _ (by first | (simp only [loadN_app, loadN_app0]; first | done | rfl) | (simp only [List.append_assoc, List.cons_append, List.nil_append, List.length_append, List.length_cons, List.length_nil, Nat.zero_add, Nat.add_zero, Nat.reduceAdd, List.set_cons_zero, List.set_cons_succ, loadN_app, loadN_app0]; first | done | rfl))) ?_ | first | refine l_partG (fun hb => ?_) (fun hb => ?_) | refine d_partG (fun hb => ?_) (fun hb => ?_))
          all_goals refine end_ret (by simp only [resRf, resRs, resR]; first | done | rfl) ⟨?_, by first | exact List.prefix_refl _ | exact List.prefix_append _ _ | assumption | (refine List.IsPrefix.trans (by assumption) (List.prefix_append _ _)) | (simp only [List.append_assoc, List.cons_append, List.nil_append, List.set_cons_zero, List.set_cons_succ]; exact ⟨_, by simp only [List.append_assoc, List.cons_append, List.nil_append]; rfl⟩)⟩
          all_goals (rw [hev]; clear he hf h2 x0 x1 x2 x3 x5; first | (simp [put_app, put_none, *]; done) | (simp_all [put_app, put_none]; done))
      · simp at hc1
        repeat' (first | (refine l_pl ?_; refine l_go ?_) | (refine d_pl ?_; refine d_go ?_) | (refine l_gd ?_; first | refine l_onG ?_ | refine l_offG ?_) | (refine d_gd ?_; first | refine d_onG ?_ | refine d_offG ?_) | refine wq_seq ?_ | refine wq_line ?_ | refine wq_draw (by decide +kernel) ?_ | refine wq_block ?_ | refine l_nil ?_ | refine d_nil ?_ | refine wq_skip ?_ | refine wq_ret ?_ | refine wq_exit ?_ | refine th_normal ?_ | refine th_ret ?_ | refine th_exit ?_ | refine bk_normal ?_ | refine bk_ret ?_ | refine bk_exit ?_ | refine bk_other rfl ?_)
        refine cond_go (fun hc2 => ?_) (fun hc2 => ?_)
        · simp at hc2
          have hev := evMay_2 (es := es) (n := n) hc2
          rw [hin, explored_last] at hev
          obtain ⟨d, i1, i2, l1, l2⟩ : ∃ d, idxV T 137 (.ptr H.length 0) e.member = some (.ptr H.length d) ∧ idxV T 137 (.ptr H.length 8) e.member = some (.ptr H.length (8 + d)) ∧ (∀ l, loadV T 3 (H ++ (.row cs true :: l)) H.length d = some (.int .i64 (manyOf es e.member))) ∧ (∀ l, loadV T 3 (H ++ (.row cs true :: l)) H.length (8 + d) = some (.int .i64 (lastKind es e.member))) := by
            obtain ⟨d, hde⟩ : ∃ d : Nat, e.member = (d : Int) := ⟨e.member.toNat, by omega⟩
            have hd8 : d < 8 := by omega
            have i1 := arr_idx (b := H.length) (off := 0) T137 rfl T3 rfl hd8
            have i2 := arr_idx (b := H.length) (off := 8) T137 rfl T3 rfl hd8
            rw [Nat.zero_add] at i1
            exact ⟨d, by rw [hde]; exact i1, by rw [hde]; exact i2, fun l => by rw [hde]; exact row_load T3 rfl (h2 d hd8).1 l, fun l => by rw [hde]; exact row_load T3 rfl (h2 d hd8).2 l⟩
          have x4 : ∀ l, loadV T 32 (H ++ l) b (o + 4) = some (.agg [.int .i64 e.rate, .int .i64 e.mom]) := fun l => by
            refine loadV_agg T32 rfl ?_
            have h4 := he l
            unfold Heap.loadN at h4 ⊢
            split at h4
            · rename_i rw_ _ hb
              split at h4
              · rename_i hle
                simp only [Option.some.injEq] at h4
                rw [if_pos (by omega)]
                have := congrArg (fun l => (l.drop 4).take 2) h4
                simpa [Ev.cells, List.drop_take, List.take_take, List.drop_drop, Nat.add_comm] using this
              · cases h4
            · cases h4
          repeat' (first | (refine l_pl ?_; refine l_go ?_) | (refine d_pl ?_; refine d_go ?_) | (refine l_gd ?_; first | refine l_onG ?_ | refine l_offG ?_) | (refine d_gd ?_; first | refine d_onG ?_ | refine d_offG ?_) | refine wq_seq ?_ | refine wq_line ?_ | refine wq_draw (by decide +kernel) ?_ | refine wq_block ?_ | refine l_nil ?_ | refine d_nil ?_ | refine wq_skip ?_ | refine wq_ret ?_ | refine wq_exit ?_ | refine th_normal ?_ | refine th_ret ?_ | refine th_exit ?_ | refine bk_normal ?_ | refine bk_ret ?_ | refine bk_exit ?_ | refine bk_other rfl ?_ | refine d_call0G (hyperMayP ..) ?_ | first | refine l_partG (fun hb => ?_) (fun hb => ?_) | refine d_partG (fun hb => ?_) (fun hb => ?_))
          all_goals refine end_ret (by simp only [resRf, resRs, resR]; first | done | rfl) ⟨?_, by first | exact List.prefix_refl _ | exact List.prefix_append _ _ | assumption | (refine List.IsPrefix.trans (by assumption) (List.prefix_append _ _)) | (simp only [List.append_assoc, List.cons_append, List.nil_append, List.set_cons_zero, List.set_cons_succ]; exact ⟨_, by simp only [List.append_assoc, List.cons_append, List.nil_append]; rfl⟩)⟩
          all_goals (rw [hev]; clear he hf h2 x0 x1 x2 x3 x5; first | (simp [put_app, put_none, *]; done) | (simp_all [put_app, put_none]; done))
        · simp at hc2
          have hev := evMay_3 (es := es) (n := n) hc hc1 hc2
          repeat' (first | (refine l_pl ?_; refine l_go ?_) | (refine d_pl ?_; refine d_go ?_) | (refine l_gd ?_; first | refine l_onG ?_ | refine l_offG ?_) | (refine d_gd ?_; first | refine d_onG ?_ | refine d_offG ?_) | refine wq_seq ?_ | refine wq_line ?_ | refine wq_draw (by decide +kernel) ?_ | refine wq_block ?_ | refine l_nil ?_ | refine d_nil ?_ | refine wq_skip ?_ | refine wq_ret ?_ | refine wq_exit ?_ | refine th_normal ?_ | refine th_ret ?_ | refine th_exit ?_ | refine bk_normal ?_ | refine bk_ret ?_ | refine bk_exit ?_ | refine bk_other rfl ?_)
          refine end_ret (by simp only [resRf, resRs, resR]; first | done | rfl) ⟨?_, by first | exact List.prefix_refl _ | exact List.prefix_append _ _ | assumption | (refine List.IsPrefix.trans (by assumption) (List.prefix_append _ _)) | (simp only [List.append_assoc, List.cons_append, List.nil_append, List.set_cons_zero, List.set_cons_succ]; exact ⟨_, by simp only [List.append_assoc, List.cons_append, List.nil_append]; rfl⟩)⟩
          rw [hev]
          simp [put_app, put_none, *]
theorem tally0 : TallyC (List.replicate 16 (.int .i64 0)) [] := by
  refine ⟨by simp, fun m hm => ?_⟩
  constructor
  · rw [List.getElem?_replicate, if_pos (by omega)]; rfl
  · rw [List.getElem?_replicate, if_pos (by omega)]; rfl
theorem lineageMay (H : Heap) (v : V) (es : List Ev) (n : Int) (hes : Sl 6 evC H v es) (hl : es.length ≤ 2 ^ 47) : Call Tryz.prog 41 [v, .int .i64 n] H (.bool (eventsMay es n)) H := by
  refine call_plain fit mixed Tryz.func41 rfl rfl rfl (by kernel_rfl) rfl ?_
  have hlen := hes.len T27 rfl
  by_cases hbad : within n 1 8 = true ∧ es.length ≤ 1024
  · obtain ⟨hn, hl'⟩ := hbad
    have hn' := hn
    simp [within] at hn'
    have q1 : decide (n < 1) = false := by simp; omega
    have q2 : decide (n > 8) = false := by simp; omega
    have q3 : decide ((es.length : Int) > 1024) = false := by simp; omega
    repeat (first | (refine l_pl ?_; refine l_go ?_) | (refine d_pl ?_; refine d_go ?_) | (refine l_gd ?_; first | refine l_onG ?_ | refine l_offG ?_) | (refine d_gd ?_; first | refine d_onG ?_ | refine d_offG ?_) | refine wq_seq ?_ | refine wq_line ?_ | refine wq_draw (by decide +kernel) ?_ | refine wq_block ?_ | refine l_nil ?_ | refine d_nil ?_ | refine wq_skip ?_ | refine wq_ret ?_ | refine wq_exit ?_ | refine th_normal ?_ | refine th_ret ?_ | refine th_exit ?_ | refine bk_normal ?_ | refine bk_ret ?_ | refine bk_exit ?_ | refine bk_other rfl ?_)
    refine cond_go (fun hb => ?_) (fun hb => ?_)
    · cases hb
    · clear hb
      repeat (first | (refine l_pl ?_; refine l_go ?_) | (refine d_pl ?_; refine d_go ?_) | (refine l_gd ?_; first | refine l_onG ?_ | refine l_offG ?_) | (refine d_gd ?_; first | refine d_onG ?_ | refine d_offG ?_) | refine wq_seq ?_ | refine wq_line ?_ | refine wq_draw (by decide +kernel) ?_ | refine wq_block ?_ | refine l_nil ?_ | refine d_nil ?_ | refine wq_skip ?_ | refine wq_ret ?_ | refine wq_exit ?_ | refine th_normal ?_ | refine th_ret ?_ | refine th_exit ?_ | refine bk_normal ?_ | refine bk_ret ?_ | refine bk_exit ?_ | refine bk_other rfl ?_)
      refine wq_loop (fun c ρ h => ∃ k cs, k ≤ es.length ∧ c = es.length - k ∧ h = H ++ [.row cs true] ∧ TallyC cs (es.take k) ∧ (∀ (j : Nat) e, j < k → es[j]? = some e → evMay (es.take j) n e = true) ∧ ρ 0 = v ∧ ρ 1 = .int .i64 n ∧ ρ 5 = .ptr H.length 0 ∧ ρ 21 = .int .i64 es.length ∧ ρ 22 = .int .i64 (k : Nat)) ⟨0, _, Nat.zero_le _, rfl, rfl, tally0, by intro j e hj; omega, rfl, rfl, rfl, rfl, rfl⟩ ?_
      rintro _ ρ h ⟨k, cs, hk, rfl, rfl, htal, hall, h0, h1, h5, h21, h22⟩
      repeat (first | (refine l_pl ?_; refine l_go ?_) | (refine d_pl ?_; refine d_go ?_) | (refine l_gd ?_; first | refine l_onG ?_ | refine l_offG ?_) | (refine d_gd ?_; first | refine d_onG ?_ | refine d_offG ?_) | refine wq_seq ?_ | refine wq_line ?_ | refine wq_draw (by decide +kernel) ?_ | refine wq_block ?_ | refine l_nil ?_ | refine d_nil ?_ | refine wq_skip ?_ | refine wq_ret ?_ | refine wq_exit ?_ | refine th_normal ?_ | refine th_ret ?_ | refine th_exit ?_ | refine bk_normal ?_ | refine bk_ret ?_ | refine bk_exit ?_ | refine bk_other rfl ?_)
      refine cond_go (fun hb => ?_) (fun hb => ?_)
      · have hk' : k < es.length := by simp at hb; omega
        clear hb
        obtain ⟨e, he⟩ : ∃ e, es[k]? = some e := ⟨es[k], by simp [hk']⟩
        obtain ⟨b, o, cs', hi, rfl, _, hlo, hlc⟩ := hes.get T27 rfl T78 rfl he
        have hw := wrap_succ (n := k) (by omega)
        have hul : (es.take k).length ≤ 2 ^ 47 := by rw [List.length_take]; omega
        have hmay := mayT H cs (es.take k) e n b o hn' htal hul (fun l => loadN_pre (List.prefix_append H l) hlo) (fun l j c hj => loadN_pre (List.prefix_append H l) (hlc j c hj))
        repeat (first | (refine l_pl ?_; refine l_go ?_) | (refine d_pl ?_; refine d_go ?_) | (refine l_gd ?_; first | refine l_onG ?_ | refine l_offG ?_) | (refine d_gd ?_; first | refine d_onG ?_ | refine d_offG ?_) | refine wq_seq ?_ | refine wq_line ?_ | refine wq_draw (by decide +kernel) ?_ | refine wq_block ?_ | refine l_nil ?_ | refine d_nil ?_ | refine wq_skip ?_ | refine wq_ret ?_ | refine wq_exit ?_ | refine th_normal ?_ | refine th_ret ?_ | refine th_exit ?_ | refine bk_normal ?_ | refine bk_ret ?_ | refine bk_exit ?_ | refine bk_other rfl ?_)
        refine l_callG hmay ?_
        repeat (first | (refine l_pl ?_; refine l_go ?_) | (refine d_pl ?_; refine d_go ?_) | (refine l_gd ?_; first | refine l_onG ?_ | refine l_offG ?_) | (refine d_gd ?_; first | refine d_onG ?_ | refine d_offG ?_) | refine wq_seq ?_ | refine wq_line ?_ | refine wq_draw (by decide +kernel) ?_ | refine wq_block ?_ | refine l_nil ?_ | refine d_nil ?_ | refine wq_skip ?_ | refine wq_ret ?_ | refine wq_exit ?_ | refine th_normal ?_ | refine th_ret ?_ | refine th_exit ?_ | refine bk_normal ?_ | refine bk_ret ?_ | refine bk_exit ?_ | refine bk_other rfl ?_)
        refine cond_go (fun hc => ?_) (fun hc => ?_)
        · simp at hc
          repeat (first | (refine l_pl ?_; refine l_go ?_) | (refine d_pl ?_; refine d_go ?_) | (refine l_gd ?_; first | refine l_onG ?_ | refine l_offG ?_) | (refine d_gd ?_; first | refine d_onG ?_ | refine d_offG ?_) | refine wq_seq ?_ | refine wq_line ?_ | refine wq_draw (by decide +kernel) ?_ | refine wq_block ?_ | refine l_nil ?_ | refine d_nil ?_ | refine wq_skip ?_ | refine wq_ret ?_ | refine wq_exit ?_ | refine th_normal ?_ | refine th_ret ?_ | refine th_exit ?_ | refine bk_normal ?_ | refine bk_ret ?_ | refine bk_exit ?_ | refine bk_other rfl ?_)
          refine end_ret (by simp only [resRf, resRs, resR]; first | done | rfl) (no_more he (by simp [put_app, put_none, *]) hc (by first | exact List.prefix_refl _ | exact List.prefix_append _ _ | assumption | (refine List.IsPrefix.trans (by assumption) (List.prefix_append _ _)) | (simp only [List.append_assoc, List.cons_append, List.nil_append, List.set_cons_zero, List.set_cons_succ]; exact ⟨_, by simp only [List.append_assoc, List.cons_append, List.nil_append]; rfl⟩)))
        · simp at hc
          have hm : 0 ≤ e.member ∧ e.member < n := by
            have hx : within e.member 0 (n - 1) = true := by
              unfold evMay at hc
              simp only [Bool.and_eq_true] at hc
              exact hc.1
            simpa [within_lt] using hx
          obtain ⟨q, hq⟩ : ∃ q : Nat, e.member = (q : Int) := ⟨e.member.toNat, by omega⟩
          obtain ⟨cs2, ht2, hcall⟩ := take_ H cs (es.take k) e q b o (by omega) hq htal hul (fun l => loadN_pre (List.prefix_append H l) (hlc 0 _ rfl)) (fun l => loadN_pre (List.prefix_append H l) (hlc 1 _ rfl))
          clear hm hq
          repeat (first | (refine l_pl ?_; refine l_go ?_) | (refine d_pl ?_; refine d_go ?_) | (refine l_gd ?_; first | refine l_onG ?_ | refine l_offG ?_) | (refine d_gd ?_; first | refine d_onG ?_ | refine d_offG ?_) | refine wq_seq ?_ | refine wq_line ?_ | refine wq_draw (by decide +kernel) ?_ | refine wq_block ?_ | refine l_nil ?_ | refine d_nil ?_ | refine wq_skip ?_ | refine wq_ret ?_ | refine wq_exit ?_ | refine th_normal ?_ | refine th_ret ?_ | refine th_exit ?_ | refine bk_normal ?_ | refine bk_ret ?_ | refine bk_exit ?_ | refine bk_other rfl ?_)
          refine l_callG hcall ?_
          repeat (first | (refine l_pl ?_; refine l_go ?_) | (refine d_pl ?_; refine d_go ?_) | (refine l_gd ?_; first | refine l_onG ?_ | refine l_offG ?_) | (refine d_gd ?_; first | refine d_onG ?_ | refine d_offG ?_) | refine wq_seq ?_ | refine wq_line ?_ | refine wq_draw (by decide +kernel) ?_ | refine wq_block ?_ | refine l_nil ?_ | refine d_nil ?_ | refine wq_skip ?_ | refine wq_ret ?_ | refine wq_exit ?_ | refine th_normal ?_ | refine th_ret ?_ | refine th_exit ?_ | refine bk_normal ?_ | refine bk_ret ?_ | refine bk_exit ?_ | refine bk_other rfl ?_)
          refine ⟨es.length - (k + 1), by omega, k + 1, cs2, hk', rfl, rfl, ?_, all_succ hall he hc, ?_⟩
          · rw [List.take_add_one, he]; exact ht2
          · simp [put_app, put_none, *]
      · have hk' : k = es.length := by simp at hb; omega
        subst hk'
        repeat (first | (refine l_pl ?_; refine l_go ?_) | (refine d_pl ?_; refine d_go ?_) | (refine l_gd ?_; first | refine l_onG ?_ | refine l_offG ?_) | (refine d_gd ?_; first | refine d_onG ?_ | refine d_offG ?_) | refine wq_seq ?_ | refine wq_line ?_ | refine wq_draw (by decide +kernel) ?_ | refine wq_block ?_ | refine l_nil ?_ | refine d_nil ?_ | refine wq_skip ?_ | refine wq_ret ?_ | refine wq_exit ?_ | refine th_normal ?_ | refine th_ret ?_ | refine th_exit ?_ | refine bk_normal ?_ | refine bk_ret ?_ | refine bk_exit ?_ | refine bk_other rfl ?_)
        refine end_ret (by simp only [resRf, resRs, resR]; first | done | rfl) ⟨?_, by first | exact List.prefix_refl _ | exact List.prefix_append _ _ | assumption | (refine List.IsPrefix.trans (by assumption) (List.prefix_append _ _)) | (simp only [List.append_assoc, List.cons_append, List.nil_append, List.set_cons_zero, List.set_cons_succ]; exact ⟨_, by simp only [List.append_assoc, List.cons_append, List.nil_append]; rfl⟩)⟩
        rw [eventsMay_yes hn hl' fun j e he => hall j e (List.getElem?_eq_some_iff.1 he).1 he]
        simp [put_app, put_none, *]
  · have hno : eventsMay es n = false := by
      unfold eventsMay
      cases h1 : within n 1 8 with
      | false => simp
      | true =>
        have : ¬ es.length ≤ 1024 := fun h => hbad ⟨h1, h⟩
        simp [this]
    repeat' (first | (refine l_pl ?_; refine l_go ?_) | (refine d_pl ?_; refine d_go ?_) | (refine l_gd ?_; first | refine l_onG ?_ | refine l_offG ?_) | (refine d_gd ?_; first | refine d_onG ?_ | refine d_offG ?_) | refine wq_seq ?_ | refine wq_line ?_ | refine wq_draw (by decide +kernel) ?_ | refine wq_block ?_ | refine l_nil ?_ | refine d_nil ?_ | refine wq_skip ?_ | refine wq_ret ?_ | refine wq_exit ?_ | refine th_normal ?_ | refine th_ret ?_ | refine th_exit ?_ | refine bk_normal ?_ | refine bk_ret ?_ | refine bk_exit ?_ | refine bk_other rfl ?_ | first | refine l_partG (fun hb => ?_) (fun hb => ?_) | refine d_partG (fun hb => ?_) (fun hb => ?_))
    all_goals refine cond_go (fun hb => ?_) (fun hb => ?_)
    all_goals first
      | (cases hb; done)
      | ((repeat (first | (refine l_pl ?_; refine l_go ?_) | (refine d_pl ?_; refine d_go ?_) | (refine l_gd ?_; first | refine l_onG ?_ | refine l_offG ?_) | (refine d_gd ?_; first | refine d_onG ?_ | refine d_offG ?_) | refine wq_seq ?_ | refine wq_line ?_ | refine wq_draw (by decide +kernel) ?_ | refine wq_block ?_ | refine l_nil ?_ | refine d_nil ?_ | refine wq_skip ?_ | refine wq_ret ?_ | refine wq_exit ?_ | refine th_normal ?_ | refine th_ret ?_ | refine th_exit ?_ | refine bk_normal ?_ | refine bk_ret ?_ | refine bk_exit ?_ | refine bk_other rfl ?_)); refine end_ret (by simp only [resRf, resRs, resR]; first | done | rfl) ⟨?_, by first | exact List.prefix_refl _ | exact List.prefix_append _ _ | assumption | (refine List.IsPrefix.trans (by assumption) (List.prefix_append _ _)) | (simp only [List.append_assoc, List.cons_append, List.nil_append, List.set_cons_zero, List.set_cons_succ]; exact ⟨_, by simp only [List.append_assoc, List.cons_append, List.nil_append]; rfl⟩)⟩; simp [put_app, put_none, hno]; done)
      | (exfalso; apply hbad; clear hno hbad hlen; simp_all [within]; done)
      | (exfalso; apply hbad; clear hno hbad hlen; simp_all [within]; omega)
end Go.Proofs.YtengdmagaeckoaaGreat.VM

/- Layer 24: the program's Of. -/
namespace Go.Proofs.YtengdmagaeckoaaGreat.VM
open Go
set_option linter.unusedVariables false
set_option linter.unusedSimpArgs false
attribute [local irreducible] wq wqL wqD wqE wqO Th Bk EndR
set_option maxHeartbeats 8000000

def zeroPa : Pa := ⟨.nils, .nils, noChk, 0, false⟩
theorem Mem.zeroPaths {B H : Heap} {M : List Res} (h : Mem B H M) : ∀ n, Mem B H (paths (List.replicate n zeroPa) ++ M)
  | 0 => h
  | n + 1 => by
    have ih := Mem.zeroPaths h n
    exact (((ih.nil 1 intC).nil 1 intC).pack2)
theorem Mem.takePath {B H : Heap} {ps : List Pa} {M : List Res} {i : Nat} {p : Pa} (h : Mem B H (.ro (pack (paths ps)) :: M)) (hp : ps[i]? = some p) : Mem B H [.own 1 intC p.v p.k.vs, .own 1 intC p.w p.k.ws] := by
  have h1 := h.unpacked
  have hm : paPart p ∈ paths ps := by unfold paths; exact List.mem_map_of_mem (List.mem_of_getElem? hp)
  have h2 : Mem B H [paPart p] := h1.sub (List.singleton_sublist.2 (List.mem_append_left _ hm))
  exact (Mem.unpack2 h2).swap
theorem manyOf_mono (es : List Ev) (m : Int) (i : Nat) : manyOf (es.take i) m ≤ manyOf es m := (List.Sublist.filter _ (List.take_sublist i es)).length_le

theorem foldOf_bad (H : Heap) (c : Cfg) (rv v : V) (es : List Ev) (id at_ : Int) (hr : Rows H rv c.rows) (cf : c.Fit) (hes : Sl 6 evC H v es) (hl : es.length ≤ 2 ^ 42) (hb : foldOk c es id at_ = false) :
    Call Tryz.prog 12 [.agg (cfgC c rv), v, .int .i64 id, .int .i64 at_] H (.tup [.agg (kC .nils .nils noChk), .int .i64 2400]) H := by
  have l1 := cf.rows
  have l2 := cf.row
  have s1 := hes.cells
  refine call_pure fit mixed Tryz.func12 rfl rfl rfl (by kernel_rfl) rfl fun hM => ?_
  refine wq_seq (wq_line ?_)
  refine l_boxM T26 fun b1 H1 hM => ?_
  refine l_newM (cs := zeroChk) T34 rfl fun b2 H2 hM => ?_
  have c1 := confMay_ H2 c rv (hr.mono hM.pre) (by omega) (fun r hr => by have := l2 r hr; omega)
  have c2 := lineageMay H2 v es c.m (hes.mono hM.pre) (by omega)
  have c3 := confId_ H2 b1 c.m id (by have hrow := hM.row (.there .here); unfold Heap.loadN; rw [hrow]; rfl)
  have c4 := many H2 v es id (hes.mono hM.pre) (by omega)
  unfold foldOk at hb
  obtain ⟨q1, e1⟩ : ∃ q, cfgMay c = q := ⟨_, rfl⟩
  obtain ⟨q2, e2⟩ : ∃ q, eventsMay es c.m = q := ⟨_, rfl⟩
  obtain ⟨q3, e3⟩ : ∃ q, within id 0 (IntKind.i64.wrap (c.m - 1)) = q := ⟨_, rfl⟩
  obtain ⟨q4, e4⟩ : ∃ q, decide (at_ < 0) = q := ⟨_, rfl⟩
  obtain ⟨q5, e5⟩ : ∃ q, decide (at_ > (manyOf es id : Int)) = q := ⟨_, rfl⟩
  have n4 : decide (0 ≤ at_) = !q4 := by rw [← e4]; by_cases h : at_ < 0 <;> simp [h] <;> omega
  have n5 : decide (at_ ≤ (manyOf es id : Int)) = !q5 := by rw [← e5]; by_cases h : at_ > (manyOf es id : Int) <;> simp [h] <;> omega
  rw [e1] at c1 hb
  rw [e2] at c2 hb
  rw [e3] at c3 hb
  rw [n4, n5] at hb
  clear e1 e2 e3 n4 n5 l1 l2 cf hr hl
  cases q1 with
  | false =>
    clear hb
    refine goM ?_
    refine l_callG c1 ?_
    refine goM ?_
    refine l_putM T34 fun H3 hM => ?_
    refine goM ?_
    exact end_2 (by first | exact .inl rfl | exact .inr rfl) ⟨rfl, hM.pre⟩
  | true =>
    refine goM ?_
    refine l_callG c1 ?_
    refine goM ?_
    cases q2 with
    | false =>
      clear hb
      refine l_callG c2 ?_
      refine goM ?_
      refine l_putM T34 fun H3 hM => ?_
      refine goM ?_
      exact end_2 (by first | exact .inl rfl | exact .inr rfl) ⟨rfl, hM.pre⟩
    | true =>
      refine l_callG c2 ?_
      refine goM ?_
      cases q3 with
      | false =>
        clear hb
        refine l_callG c3 ?_
        refine goM ?_
        refine l_putM T34 fun H3 hM => ?_
        refine goM ?_
        exact end_2 (by first | exact .inl rfl | exact .inr rfl) ⟨rfl, hM.pre⟩
      | true =>
        refine l_callG c3 ?_
        cases q4 with
        | true =>
          clear hb
          refine goM ?_
          refine l_putM T34 fun H3 hM => ?_
          refine goM ?_
          exact end_2 (by first | exact .inl rfl | exact .inr rfl) ⟨rfl, hM.pre⟩
        | false =>
          have e5' : q5 = true := by simpa using hb
          subst e5'
          clear hb
          refine goM ?_
          refine l_callG c4 ?_
          refine goM ?_
          refine l_putM T34 fun H3 hM => ?_
          refine goM ?_
          exact end_2 (by first | exact .inl rfl | exact .inr rfl) ⟨rfl, hM.pre⟩

theorem foldOf_good (H : Heap) (c : Cfg) (rv v : V) (es : List Ev) (id at_ : Int) (hr : Rows H rv c.rows) (cf : c.Fit) (hes : Sl 6 evC H v es) (hl : es.length ≤ 2 ^ 42) (hok : foldOk c es id at_ = true) :
    ∃ w H', Call Tryz.prog 12 [.agg (cfgC c rv), v, .int .i64 id, .int .i64 at_] H w H' ∧ ∃ a b, w = .tup [.agg (kC a b (foldR c es id at_).1), .int .i64 (foldR c es id at_).2] ∧ Mem H H' [.own 1 intC b (foldR c es id at_).1.vs, .own 1 intC a (foldR c es id at_).1.ws] := by
  have l1 := cf.rows
  have l2 := cf.row
  have s1 := hes.cells
  have s2 : rv.cells = [rv] ∧ rv.isTup = false := by obtain ⟨_, h, _⟩ := hr; exact h.cells
  obtain ⟨hc, hev, hid, ha0, ham⟩ := foldOk_split hok
  obtain ⟨hm2, _⟩ := cfgMay_split hc
  obtain ⟨_, hel, _⟩ := eventsMay_at hev
  obtain ⟨id, rfl⟩ : ∃ d : Nat, id = d := ⟨id.toNat, by omega⟩
  obtain ⟨n, hn⟩ : ∃ n : Nat, c.m = n := ⟨c.m.toNat, by omega⟩
  refine call_mem fit mixed Tryz.func12 rfl rfl rfl (by kernel_rfl) fun hM => ?_
  refine wq_seq (wq_line ?_)
  refine l_boxM T26 fun b1 H1 hM => ?_
  refine l_newM (cs := zeroChk) T34 rfl fun b2 H2 hM => ?_
  have c1 := confMay_ H2 c rv (hr.mono hM.pre) (by omega) (fun r hr => by have := l2 r hr; omega)
  have c2 := lineageMay H2 v es c.m (hes.mono hM.pre) (by omega)
  have c3 := confId_ H2 b1 c.m id (by have hrow := hM.row (.there .here); unfold Heap.loadN; rw [hrow]; rfl)
  have c4 := many H2 v es id (hes.mono hM.pre) (by omega)
  rw [hc] at c1
  rw [hev] at c2
  rw [wrap_m hm2, within_iff.2 ⟨hid.1, by omega⟩] at c3
  have d1 : decide (at_ < 0) = false := decide_eq_false (by omega)
  have d2 : decide (at_ > (manyOf es id : Int)) = false := decide_eq_false (by omega)
  have hn8 : n ≤ 8 := by omega
  have hidn : id < n := by omega
  replace hn : Held (c.m = n) := hn
  refine goM ?_
  refine l_callG c1 ?_
  refine goM ?_
  refine l_callG c2 ?_
  refine goM ?_
  refine l_callG c3 ?_
  refine goM ?_
  refine l_callG c4 ?_
  clear c1 c2 c3 c4
  refine goM ?_
  refine d_makeM 7 pathC T90 rfl T96 (n := n) (z := zeroPa) rfl rfl rfl rfl rfl (hx := by rw [← (show c.m = (n : Int) from hn)]; exact eLk) (hy := by rw [← (show c.m = (n : Int) from hn)]; exact eLk) ⟨by show (88 : Int) * _ ≤ _; have : c.m = n := hn; omega, by have : c.m = n := hn; omega⟩ fun u H3 hM => ?_
  have s3 := (hM.sl .here).cells
  have hlen := (hM.sl .here).len T90 rfl
  rw [List.length_replicate] at hlen
  refine goM ?_
  refine d_boxM T92 (cs := foldC c rv u) fun fb H4 hM => ?_
  replace hM := hM.zeroPaths n
  replace hM := (hM.packed).sub (L' := [.ro (pack (paths (List.replicate n zeroPa))), .box fb (foldC c rv u), .own 7 pathC u (List.replicate n zeroPa), .box b2 zeroChk, .box b1 (cfgC c rv)]) (by (repeat (first | exact List.Sublist.slnil | exact List.Sublist.refl _ | refine List.Sublist.cons_cons _ ?_ | refine List.Sublist.cons _ ?_)))
  refine goM ?_
  -- each member at first
  refine wq_loop (fun cc ρ h => ∃ (k : Nat) (ps : List Pa), k ≤ n ∧ cc = n - k ∧ ps.length = n ∧ (∀ (i : Nat) p, ps[i]? = some p → p.n = 0 ∧ p.bad = false ∧ p.k.Fit ∧ (i < k → p.k = firstKR c i)) ∧ Mem H h [.ro (pack (paths ps)), .box fb (foldC c rv u), .own 7 pathC u ps, .box b2 zeroChk, .box b1 (cfgC c rv)] ∧ ρ 1 = v ∧ ρ 2 = .int .i64 (id : Int) ∧ ρ 3 = .int .i64 at_ ∧ ρ 4 = .ptr b1 0 ∧ ρ 8 = .ptr b2 0 ∧ ρ 10 = .ptr fb 0 ∧ ρ 53 = .int .i64 (n : Int) ∧ ρ 54 = .int .i64 (k : Int)) ⟨0, List.replicate n zeroPa, Nat.zero_le _, rfl, by simp, fun i p hp => ?_, hM, by simp [put_app, put_none, rho0_app, *]⟩ ?_
  · rw [List.getElem?_replicate] at hp
    split at hp
    · cases hp
      exact ⟨rfl, rfl, ⟨by decide, by decide⟩, fun h => by omega⟩
    · cases hp
  repeat clear hM
  rintro _ ρ h ⟨k, ps, hk, rfl, hps, hpa, hM, g1, g2, g3, g4, g8, g10, g53, g54⟩
  refine goM ?_
  refine cond_go (fun hb => ?_) (fun hb => ?_)
  · have hk' : k < n := by simpa using hb
    clear hb
    obtain ⟨p, hp⟩ : ∃ p, ps[k]? = some p := ⟨ps[k]'(by omega), by simp⟩
    obtain ⟨_, H5, c1, a1, a2, rfl, m1⟩ := member_First h c rv k (hr.mono hM.pre) cf
    have s4 := (m1.sl .here).cells
    have s5 := (m1.sl (.there .here)).cells
    have hw := wrap_succ (n := k) (by omega)
    refine goM ?_
    refine l_callG c1 ?_
    replace hM := hM.call2 m1
    clear c1 m1
    refine goM ?_
    refine l_newM (cs := zeroMem) T48 rfl fun b5 H6 hM => ?_
    refine l_putM T48 fun H7 hM => ?_
    refine goM ?_
    obtain ⟨b, o, hi, _⟩ := path_at hM (by (repeat (first | exact Has.here | apply Has.there))) hp
    obtain ⟨H8, st, hM8⟩ := path_put hM (.there (.there (.there (.there (.there .here))))) hp hi 0 T34 (by decide) (w := .agg (kC a1 a2 (firstKR c k))) (p' := ⟨a1, a2, firstKR c k, p.n, p.bad⟩) rfl rfl rfl
    simp only [Nat.add_zero] at st
    have h1 := ((hM8.front (r := .ro (pack (paths ps))) (by (repeat (first | exact Take.here | apply Take.there)))).front (r := .own 1 intC a2 (firstKR c k).vs) (by (repeat (first | exact Take.here | apply Take.there)))).front (r := .own 1 intC a1 (firstKR c k).ws) (by (repeat (first | exact Take.here | apply Take.there)))
    have h2 := Mem.newPath (p := ⟨a1, a2, firstKR c k, p.n, p.bad⟩) h1 (by rw [hps]; exact hk')
    clear h1 hM8
    refine goM ?_
    refine d_stM st ?_
    refine goM ?_
    refine ⟨n - (k + 1), by omega, k + 1, ps.set k ⟨a1, a2, firstKR c k, p.n, p.bad⟩, hk', rfl, by rw [List.length_set]; exact hps, fun i q hq => ?_, h2.sub (by (repeat (first | exact List.Sublist.slnil | exact List.Sublist.refl _ | refine List.Sublist.cons_cons _ ?_ | refine List.Sublist.cons _ ?_))), by simp [put_app, put_none, *]⟩
    rw [List.getElem?_set] at hq
    split at hq
    · rename_i e
      subst e
      rw [if_pos (by omega)] at hq
      cases hq
      obtain ⟨e1, e2, _⟩ := hpa _ _ hp
      exact ⟨e1, e2, firstKR_fit c k, fun _ => rfl⟩
    · rename_i e
      obtain ⟨e1, e2, e3, e4⟩ := hpa _ _ hq
      exact ⟨e1, e2, e3, fun h => e4 (by omega)⟩
  · have hk' : k = n := by have : ¬ k < n := by simpa using hb
                           omega
    subst hk'
    clear hb hk
    have hcm : c.m = (k : Int) := hn
    have hok0 : PathsOk c es 0 ps := paths_start hc (by omega) fun i p hp => by
      obtain ⟨e1, e2, _, e4⟩ := hpa i p hp
      exact ⟨e4 (by have := (List.getElem?_eq_some_iff.1 hp).1; omega), e1, e2⟩
    clear hpa
    clear hcm
    refine goM ?_
    refine wq_loop (fun cc ρ h => ∃ (i : Nat) (ps : List Pa), i ≤ es.length ∧ cc = es.length - i ∧ (manyOf (es.take i) id : Int) ≤ at_ ∧ PathsOk c es i ps ∧ Mem H h [.ro (pack (paths ps)), .box fb (foldC c rv u), .own 7 pathC u ps, .box b2 zeroChk, .box b1 (cfgC c rv)] ∧ ρ 1 = v ∧ ρ 2 = .int .i64 (id : Int) ∧ ρ 3 = .int .i64 at_ ∧ ρ 8 = .ptr b2 0 ∧ ρ 10 = .ptr fb 0 ∧ ρ 15 = .int .i64 (i : Int)) ⟨0, ps, Nat.zero_le _, rfl, by show (0 : Int) ≤ _; omega, hok0, hM, by simp [put_app, put_none, *]⟩ ?_
    repeat clear hM
    clear hok0 hps g1 g2 g3 g4 g8 g10 g53 g54
    rintro _ ρ h ⟨i, ps, hie, rfl, hma, hpo, hM, g1, g2, g3, g8, g10, g15⟩
    have hpl : ps.length = k := by have : c.m = (k : Int) := hn; have := hpo.len; omega
    obtain ⟨p, hp⟩ : ∃ p, ps[id]? = some p := ⟨ps[id]'(by omega), by simp⟩
    obtain ⟨b, o, hi, l0, l5, l6⟩ := path_at hM (by (repeat (first | exact Has.here | apply Has.there))) hp
    have hpn := hpo.n _ _ hp
    have hpw := hpo.now _ _ hp
    obtain ⟨pw, pv, pk, pn, pb⟩ := p
    simp only at l0 l5 l6 hpn hpw
    by_cases hlt : pn < at_
    · have dlt : decide (pn < at_) = true := decide_eq_true hlt
      have hil : i < es.length := by
        by_cases h : i < es.length
        · exact h
        · rw [List.take_of_length_le (by omega)] at hpn
          omega
      obtain ⟨e, he⟩ : ∃ e, es[i]? = some e := ⟨es[i]'(by omega), by simp⟩
      obtain ⟨eb, eo, ecs, hix, hec, _, hlo, hlc⟩ := (hes.mono hM.pre).get T27 rfl T78 rfl he
      rw [hec] at hlo hlc
      obtain ⟨hmb, hd, hkd, hy⟩ := evMay_in ((eventsMay_at hev).2.2 i e he)
      have hcm : c.m = (k : Int) := hn
      obtain ⟨q, hq⟩ : ∃ q, ps[e.member.toNat]? = some q := ⟨ps[e.member.toNat]'(by omega), by simp⟩
      have hqn := hpo.n _ _ hq
      have hqn2 := manyOf_le (es.take i) ((e.member.toNat : Nat) : Int)
      rw [List.length_take] at hqn2
      have hfr : Mem H h (.box fb (foldC c rv u) :: .own 7 pathC u ps :: .ro (pack (paths ps)) :: [.box b2 zeroChk, .box b1 (cfgC c rv)]) := ((hM.front (r := .own 7 pathC u ps) (by (repeat (first | exact Take.here | apply Take.there)))).front (r := .box fb (foldC c rv u)) (by (repeat (first | exact Take.here | apply Take.there)))).sub (by (repeat (first | exact List.Sublist.slnil | exact List.Sublist.refl _ | refine List.Sublist.cons_cons _ ?_ | refine List.Sublist.cons _ ?_)))
      obtain ⟨w, H5, c1, rfl, p', hp1, hp2, hM2⟩ := take24_ H h [.box b2 zeroChk, .box b1 (cfgC c rv)] c rv u ps fb eb eo e q hfr hr cf (fun i p hp => kFits_fit (hpo.fits i p hp)) (loadV_one T3 rfl (hlc 0 _ rfl)) (loadV_one T3 rfl (hlc 1 _ rfl)) (loadV_one T3 rfl (hlc 2 _ rfl)) (loadV_agg T32 rfl (loadN_in hlo (by decide))) hmb.1 hq
        (fun h1 => by
          obtain ⟨hdi, _⟩ := hd h1
          exact ⟨ps[e.donor.toNat]'(by omega), hdi.1, by simp⟩) (by rw [hqn]; omega)
      have hpo2 := took_ok hc hev he hpo hq hp1 hp2
      have hw := wrap_succ (n := i) (by omega)
      have hms := manyOf_succ (m := (id : Int)) he
      have hma2 : (manyOf (es.take (i + 1)) id : Int) ≤ at_ := by rw [hms]; split <;> omega
      clear hcm hpn hpw hqn hqn2 hfr hlc hlo hp1 hp2 hq hp he hd hmb hms
      refine goM ?_
      refine l_callG c1 ?_
      refine goM ?_
      exact ⟨es.length - (i + 1), by omega, i + 1, _, hil, rfl, hma2, hpo2, (hM2.front (r := .ro (pack (paths (ps.set e.member.toNat p')))) (by (repeat (first | exact Take.here | apply Take.there)))), by simp [put_app, put_none, *]⟩
    · have dlt : decide (pn < at_) = false := decide_eq_false hlt
      have hpe : at_ = (manyOf (es.take i) id : Int) := by omega
      have hfn := foldK_now (c := c) hev hid.1 hid.2 hie
      rw [← hpe, hpw] at hfn
      have hkat := paths_at (hM.factG) hp
      have t1 := hkat.ws.cells
      have t2 := hkat.vs.cells
      simp only at t1 t2
      clear hpn hpw hpe hlt hkat
      cases pb with
      | true =>
        rw [if_pos rfl] at hfn
        rw [foldR_none hfn]
        clear hfn
        refine goM ?_
        refine l_putM T34 fun H5 hM => ?_
        refine goM ?_
        exact end_2 (by first | exact .inl rfl | exact .inr rfl) ⟨.nils, .nils, rfl, ((hM.sub (L' := []) (by (repeat (first | exact List.Sublist.slnil | exact List.Sublist.refl _ | refine List.Sublist.cons_cons _ ?_ | refine List.Sublist.cons _ ?_)))).nil 1 intC).nil 1 intC⟩
      | false =>
        rw [if_neg (by decide)] at hfn
        rw [foldR_some hok hfn]
        clear hfn
        refine goM ?_
        refine l_putM T34 fun H5 hM => ?_
        refine goM ?_
        exact end_2 (by first | exact .inl rfl | exact .inr rfl) ⟨pw, pv, rfl, hM.takePath hp⟩

theorem foldOf_ (H : Heap) (c : Cfg) (rv v : V) (es : List Ev) (id at_ : Int) (hr : Rows H rv c.rows) (cf : c.Fit) (hes : Sl 6 evC H v es) (hl : es.length ≤ 2 ^ 42) :
    ∃ w H', Call Tryz.prog 12 [.agg (cfgC c rv), v, .int .i64 id, .int .i64 at_] H w H' ∧ ∃ a b, w = .tup [.agg (kC a b (foldR c es id at_).1), .int .i64 (foldR c es id at_).2] ∧ Mem H H' [.own 1 intC b (foldR c es id at_).1.vs, .own 1 intC a (foldR c es id at_).1.ws] := by
  cases hok : foldOk c es id at_ with
  | false =>
    rw [foldR_no hok]
    exact ⟨_, H, foldOf_bad H c rv v es id at_ hr cf hes hl hok, .nils, .nils, rfl, ((Mem.start H).nil 1 intC).nil 1 intC⟩
  | true => exact foldOf_good H c rv v es id at_ hr cf hes hl hok
end Go.Proofs.YtengdmagaeckoaaGreat.VM

/- Layer 24: the document's Fold, where all may be. -/
namespace Go.Proofs.YtengdmagaeckoaaGreat.VM
open Go
set_option linter.unusedVariables false
set_option linter.unusedSimpArgs false
attribute [local irreducible] wq wqL wqD wqE wqO Th Bk EndR
set_option maxHeartbeats 8000000

theorem wq_meetT {P : Program} {T : Tab} {c : Code} {n : Rho → Heap → Prop} {Q : Exit → Rho → Heap → Prop} {ρ : Rho} {h : Heap} (I : Rho → Heap → Prop) (h1 : wq P T c (Th I fun _ _ _ => False) ρ h) (h2 : ∀ ρ h, I ρ h → n ρ h) : wq P T c (Th n Q) ρ h :=
  wq_mono c (fun x ρ h hx => by
    cases x with
    | normal => simp only [Th] at hx; exact th_normal (h2 ρ h hx)
    | _ => simp only [Th] at hx) h1
theorem Mem.zeroHrs {B H : Heap} {M : List Res} (h : Mem B H M) : ∀ n, Mem B H (hrs (List.replicate n ⟨.nils, []⟩) ++ M)
  | 0 => h
  | n + 1 => (Mem.zeroHrs h n).nil 5 ckC
theorem Mem.packMore {B H : Heap} {N W M : List Res} (h : Mem B H (.ro (pack W) :: (N ++ M))) : Mem B H (.ro (pack (N ++ W)) :: M) := by
  refine Mem.packed ?_
  refine h.unpacked.perm ?_
  rw [List.append_assoc, ← List.append_assoc, ← List.append_assoc]
  exact List.Perm.append_right M List.perm_append_comm
theorem Mem.callMore {B H H' : Heap} {N W M : List Res} (h : Mem B H (.ro (pack W) :: M)) (h' : Mem H H' N) : Mem B H' (.ro (pack (N ++ W)) :: M) :=
  Mem.packMore ((h.call h').perm List.perm_middle)
/-- the histories of the first k members -/
def histN (c : Cfg) (n k : Nat) : Hist := (List.range n).map fun (i : Nat) => if i < k then [some (firstKR c (i : Int))] else []
theorem histN_len (c : Cfg) (n k : Nat) : (histN c n k).length = n := by simp [histN]
theorem histN_get {c : Cfg} {n k i : Nat} (h : i < n) : (histN c n k).getD i [] = if i < k then [some (firstKR c (i : Int))] else [] := by
  unfold histN
  rw [List.getD_eq_getElem?_getD, List.getElem?_map, List.getElem?_range h]; rfl
theorem histN_succ {c : Cfg} {n k : Nat} (h : k < n) : (histN c n k).set k ((histN c n k).getD k [] ++ [some (firstKR c (k : Int))]) = histN c n (k + 1) := by
  rw [histN_get h, if_neg (Nat.lt_irrefl _)]
  apply List.ext_getElem?
  intro j
  rw [List.getElem?_set]
  unfold histN
  by_cases hkj : k = j
  · subst hkj
    rw [if_pos rfl, if_pos (by simpa using h), List.getElem?_map, List.getElem?_range h]
    simp
  · rw [if_neg hkj, List.getElem?_map, List.getElem?_map]
    by_cases hj : j < n
    · rw [List.getElem?_range hj]
      simp only [Option.map_some, Option.some.injEq]
      by_cases h1 : j < k
      · rw [if_pos h1, if_pos (by omega)]
      · rw [if_neg h1, if_neg (by omega)]
    · rw [List.getElem?_eq_none (by simp; omega)]; rfl
theorem histN_all {c : Cfg} {n : Nat} (h : c.m = n) : histN c n n = startH c := by
  unfold histN startH
  rw [show c.m.toNat = n by omega]
  apply List.map_congr_left
  intro i hi
  rw [if_pos (by simpa using hi)]

theorem hist_at {W : List Res} {H : Hist} {rw : List HRow} (h : HistAt W H rw) {i : Nat} {x : HRow} (hx : rw[i]? = some x) {j : Nat} (hj : j < (H.getD i []).length) :
    ∃ y o, x.r[j]? = some y ∧ (H.getD i [])[j]? = some o ∧ y.k = o.getD noChk ∧ Lies W y.w y.k.ws ∧ Lies W y.v y.k.vs := by
  have hm := h.row i x hx
  have hl : x.r.length = (H.getD i []).length := by have := congrArg List.length hm; simpa using this
  obtain ⟨y, hy⟩ : ∃ y, x.r[j]? = some y := ⟨x.r[j]'(by omega), by simp⟩
  obtain ⟨o, ho⟩ : ∃ o, (H.getD i [])[j]? = some o := ⟨(H.getD i [])[j]'hj, by simp⟩
  have he : (x.r.map HChk.k)[j]? = ((H.getD i []).map fun o => o.getD noChk)[j]? := by rw [hm]
  rw [List.getElem?_map, List.getElem?_map, hy, ho] at he
  obtain ⟨l1, l2⟩ := h.lies x (List.mem_of_getElem? hx) y (List.mem_of_getElem? hy)
  exact ⟨y, o, hy, ho, by simpa using he, l1, l2⟩

theorem refFold_good (H : Heap) (c : Cfg) (rv v : V) (es : List Ev) (id at_ : Int) (hr : Rows H rv c.rows) (cf : c.Fit) (hes : Sl 6 evC H v es) (hl : es.length ≤ 2 ^ 42) (hok : foldOk c es id at_ = true) :
    ∃ w H', Call Tryz.prog 13 [.agg (cfgC c rv), v, .int .i64 id, .int .i64 at_] H w H' ∧ ∃ a b, w = .tup [.agg (kC a b (foldR c es id at_).1), .int .i64 (foldR c es id at_).2] ∧ Mem H H' [.own 1 intC b (foldR c es id at_).1.vs, .own 1 intC a (foldR c es id at_).1.ws] := by
  have l1 := cf.rows
  have l2 := cf.row
  have s1 := hes.cells
  have s2 : rv.cells = [rv] ∧ rv.isTup = false := by obtain ⟨_, h, _⟩ := hr; exact h.cells
  have hlenE := hes.len T27 rfl
  obtain ⟨hc, hev, hid, ha0, ham⟩ := foldOk_split hok
  obtain ⟨hm2, _⟩ := cfgMay_split hc
  obtain ⟨_, hel, _⟩ := eventsMay_at hev
  obtain ⟨id, rfl⟩ : ∃ d : Nat, id = d := ⟨id.toNat, by omega⟩
  obtain ⟨at_, rfl⟩ : ∃ d : Nat, at_ = d := ⟨at_.toNat, by omega⟩
  obtain ⟨n, hn⟩ : ∃ n : Nat, c.m = n := ⟨c.m.toNat, by omega⟩
  refine call_mem fit mixed Tryz.func13 rfl rfl rfl (by kernel_rfl) fun hM => ?_
  refine wq_seq (wq_line ?_)
  refine l_boxM T26 fun b1 H1 hM => ?_
  refine l_newM (cs := zeroChk) T34 rfl fun b2 H2 hM => ?_
  have c1 := refConfMay_ H2 c rv (hr.mono hM.pre) (by omega) (fun r hr => by have := l2 r hr; omega)
  have c2 := eventsMayRef H2 v es c.m (hes.mono hM.pre) (by omega)
  have c4 := manyRef H2 v es id (hes.mono hM.pre) (by omega)
  rw [hc] at c1
  rw [hev] at c2
  have d3 : decide ((id : Int) < 0) = false := decide_eq_false (by omega)
  have d6 : decide ((id : Int) ≥ c.m) = false := decide_eq_false (by omega)
  have d1 : decide ((at_ : Int) < 0) = false := decide_eq_false (by omega)
  have d2 : decide ((at_ : Int) > (manyOf es id : Int)) = false := decide_eq_false (by omega)
  have hn8 : n ≤ 8 := by omega
  have hidn : id < n := by omega
  replace hn : Held (c.m = n) := hn
  refine goM ?_
  refine l_callG c1 ?_
  refine goM ?_
  refine l_callG c2 ?_
  refine goM ?_
  refine l_callG c4 ?_
  clear c1 c2 c4
  refine goM ?_
  clear d3 d6 d1 d2
  refine l_makeM 1 hrC T99 rfl T100 (n := n) (z := HRow.mk .nils []) rfl rfl rfl (show c.m = (n : Int) from hn) (show c.m = (n : Int) from hn) ⟨by show (24 : Int) * _ ≤ _; have : c.m = n := hn; omega, by have : c.m = n := hn; omega⟩ fun u H3 hM => ?_
  have s3 := (hM.sl .here).cells
  replace hM := ((hM.zeroHrs n).packed)
  replace hM := (Mem.packed (L := []) hM)
  refine goM ?_
  -- each member at first
  refine wq_loop (fun cc ρ h => ∃ (k : Nat) (W : List Res) (rw : List HRow), k ≤ n ∧ cc = n - k ∧ HistAt W (histN c n k) rw ∧ Mem H h [.ro (pack W), .ro (pack (hrs rw)), .own 1 hrC u rw, .box b2 zeroChk, .box b1 (cfgC c rv)] ∧ ρ 1 = v ∧ ρ 2 = .int .i64 (id : Int) ∧ ρ 3 = .int .i64 (at_ : Int) ∧ ρ 4 = .ptr b1 0 ∧ ρ 8 = .ptr b2 0 ∧ ρ 10 = u ∧ ρ 11 = .int .i64 (k : Int)) ⟨0, [], List.replicate n ⟨.nils, []⟩, Nat.zero_le _, rfl, ⟨by rw [histN_len]; simp, fun i x hx => ?_, fun x hx y hy => ?_⟩, hM, by simp [put_app, put_none, rho0_app, *]⟩ ?_
  · rw [List.getElem?_replicate] at hx
    split at hx
    · rename_i h
      cases hx
      rw [histN_get h]; rfl
    · cases hx
  · rw [(List.mem_replicate.1 hx).2] at hy
    cases hy
  repeat clear hM
  rintro _ ρ h ⟨k, W, rw, hk, rfl, hha, hM, g1, g2, g3, g4, g8, g10, g11⟩
  have hrl : rw.length = n := by rw [hha.len, histN_len]
  by_cases hk' : k < n
  · have dk : decide ((k : Int) < c.m) = true := decide_eq_true (by have : c.m = (n : Int) := hn; omega)
    obtain ⟨x, hx⟩ : ∃ x, rw[k]? = some x := ⟨rw[k]'(by omega), by simp⟩
    have hxr := hha.row k x hx
    rw [histN_get hk', if_neg (Nat.lt_irrefl _)] at hxr
    have hx0 : x.r = [] := by simpa using hxr
    obtain ⟨_, H5, c1, a1, a2, rfl, m1⟩ := ref_First h c rv k (hr.mono hM.pre) cf
    have s4 := (m1.sl .here).cells
    have s5 := (m1.sl (.there .here)).cells
    have hw := wrap_succ (n := k) (by omega)
    clear hxr
    refine goM ?_
    refine l_callG c1 ?_
    replace hM := hM.call2 m1
    clear c1 m1
    refine goM ?_
    refine l_newM (cs := zeroMem) T48 rfl fun b5 H6 hM => ?_
    refine l_putM T48 fun H7 hM => ?_
    obtain ⟨b, o, hi, lo⟩ := hr_at hM (by (repeat (first | exact Has.here | apply Has.there))) hx
    have hpart : (hrs rw)[k]? = some (.own 5 ckC x.v x.r) := by unfold hrs; rw [List.getElem?_map, hx]; rfl
    replace hM := (hM.front (r := .ro (pack (hrs rw))) (by (repeat (first | exact Take.here | apply Take.there)))).pull hpart
    have s6 := (hM.sl .here).cells
    refine goM ?_
    refine d_sliceM ckC [⟨a1, a2, firstKR c k⟩] (kC a1 a2 (firstKR c k)) T100 rfl T34 rfl (cells_cks [⟨a1, a2, firstKR c k⟩]) (by decide) fun e1 H8 hM => ?_
    refine goM ?_
    refine d_appM (hM.sl .here) (xs := x.r) (hh := .there .here) (hb := by rw [hx0]; show (0 + 1) * 72 ≤ _ ∧ 0 + 1 ≤ _; omega) fun v' H9 hM => ?_
    have s7 := (hM.sl (.there .here)).cells
    obtain ⟨b', hi', hput⟩ := hM.elem (sz := 1) (R := hrC) (v := u) (xs := rw) (by (repeat (first | exact Has.here | apply Has.there))) T99 rfl T100 rfl (k := k) (by omega)
    rw [hi] at hi'
    cases hi'
    obtain ⟨H10, st, hM10⟩ := hput v' ⟨v', x.r ++ [⟨a1, a2, firstKR c k⟩]⟩ s7.2 (by rw [s7.1]; rfl) (by rw [s7.1]; rfl)
    clear hput
    have h1 := (hM10.front (r := .own 5 ckC v' (x.r ++ [⟨a1, a2, firstKR c k⟩])) (by (repeat (first | exact Take.here | apply Take.there)))).front (r := .ro (pack ((hrs rw).set k (.own 1 intC .nils [])))) (by (repeat (first | exact Take.here | apply Take.there)))
    have h2 := Mem.repack h1 k (by rw [List.length_set]; unfold hrs; rw [List.length_map]; omega)
    rw [List.set_set, show Res.own 5 ckC v' (x.r ++ [⟨a1, a2, firstKR c k⟩]) = hrPart ⟨v', x.r ++ [⟨a1, a2, firstKR c k⟩]⟩ from rfl, hrs_set] at h2
    have h3 := ((h2.front (r := .own 1 intC a2 (firstKR c k).vs) (by (repeat (first | exact Take.here | apply Take.there)))).front (r := .own 1 intC a1 (firstKR c k).ws) (by (repeat (first | exact Take.here | apply Take.there)))).front (r := .ro (pack W)) (by (repeat (first | exact Take.here | apply Take.there)))
    have h4 := Mem.packMore (N := [.own 1 intC a1 (firstKR c k).ws, .own 1 intC a2 (firstKR c k).vs]) h3
    have hha2 := histAt_set hha hx (v := v') (y := ⟨a1, a2, firstKR c k⟩) (o := some (firstKR c k)) rfl [.own 1 intC a1 (firstKR c k).ws, .own 1 intC a2 (firstKR c k).vs] (.inr (by simp)) (.inr (by simp))
    rw [histN_succ hk'] at hha2
    clear h1 h2 h3 hM10 hx0
    refine goM ?_
    refine d_stM st ?_
    clear hM
    refine goM ?_
    exact ⟨n - (k + 1), by omega, k + 1, _, _, hk', rfl, hha2, h4.sub (by (repeat (first | exact List.Sublist.slnil | exact List.Sublist.refl _ | refine List.Sublist.cons_cons _ ?_ | refine List.Sublist.cons _ ?_))), by simp [put_app, put_none, *]⟩
  · have hk'' : k = n := by omega
    have dk : decide ((k : Int) < c.m) = false := decide_eq_false (by have : c.m = (n : Int) := hn; omega)
    subst hk''
    rw [histN_all hn] at hha
    clear hk hk' hrl
    have hhs : HistAt W (foldH c (es.take 0)) rw := hha
    clear hha
    refine goM ?_
    refine wq_loop (fun cc ρ h => ∃ (i : Nat) (W : List Res) (rw : List HRow), i ≤ es.length ∧ cc = es.length - i ∧ HistAt W (foldH c (es.take i)) rw ∧ Mem H h [.ro (pack W), .ro (pack (hrs rw)), .own 1 hrC u rw, .box b2 zeroChk, .box b1 (cfgC c rv)] ∧ ρ 1 = v ∧ ρ 2 = .int .i64 (id : Int) ∧ ρ 3 = .int .i64 (at_ : Int) ∧ ρ 4 = .ptr b1 0 ∧ ρ 8 = .ptr b2 0 ∧ ρ 10 = u ∧ ρ 15 = .int .i64 (i : Int)) ⟨0, W, rw, Nat.zero_le _, rfl, hhs, hM, by simp [put_app, put_none, *]⟩ ?_
    repeat clear hM
    clear hhs g1 g2 g3 g4 g8 g10 g11 dk
    clear rw W
    rintro _ ρ h ⟨i, W, rw, hie, rfl, hha, hM, g1, g2, g3, g4, g8, g10, g15⟩
    obtain ⟨hhl, hhr⟩ := foldH_ok (c := c) hev i hie
    have hrl : rw.length = k := by have : c.m = (k : Int) := hn; rw [hha.len, hhl]; omega
    have hW := hM.fact (F := pack W) (by (repeat (first | exact Has.here | apply Has.there)))
    refine goM ?_
    refine cond_go (fun hb => ?_) (fun hb => ?_)
    · have hil : i < es.length := by simpa using hb
      clear hb
      obtain ⟨e, he⟩ : ∃ e, es[i]? = some e := ⟨es[i]'hil, by simp⟩
      obtain ⟨eb, eo, ecs, hix, hec, _, hlo, _⟩ := (hes.mono hM.pre).get T27 rfl T78 rfl he
      rw [hec] at hlo
      have ho := loadV_agg T78 rfl hlo
      obtain ⟨hmb, hd, hkd, hy⟩ := evMay_in ((eventsMay_at hev).2.2 i e he)
      have hstep := foldH_succ (c := c) he
      have hcm : c.m = (k : Int) := hn
      have hml := manyOf_le (es.take i) e.member
      rw [List.length_take] at hml
      have hgood := foldH_good hc hev i hie
      generalize hHH : foldH c (es.take i) = HH at *
      obtain ⟨kd, mb, dn, at', ra, mo⟩ := e
      simp only at hmb hd hml
      obtain ⟨m, rfl⟩ : ∃ m : Nat, mb = m := ⟨mb.toNat, by omega⟩
      obtain ⟨x, hx⟩ : ∃ x, rw[m]? = some x := ⟨rw[m]'(by omega), by simp⟩
      have hrm := hhr m hmb.1 hmb.2
      obtain ⟨t, ht⟩ : ∃ t, manyOf (es.take i) (m : Int) = t := ⟨_, rfl⟩
      rw [ht] at hrm hml
      have hrm' : (HH.getD m []).length = t + 1 := hrm
      obtain ⟨⟨yw, yv, yk⟩, o, hy1, hy2, rfl, hy4, hy5⟩ := hist_at hha hx (j := t) (by omega)
      have hxl : x.r.length = t + 1 := by
        have := congrArg List.length (hha.row m x hx)
        simp only [List.length_map] at this
        omega
      have hnow : nowH HH (m : Int) = o := by
        unfold nowH
        rw [hrm]
        show ((HH.getD m [])[t + 1 - 1]?).join = o
        rw [Nat.add_sub_cancel, hy2]; rfl
      have gk : Good c o := hgood m hmb.1 hmb.2 o (List.mem_of_getElem? hy2)
      obtain ⟨dO, hdO⟩ : ∃ dO, donorH HH ⟨kd, m, dn, at', ra, mo⟩ = dO := ⟨_, rfl⟩
      have gd : Good c dO := by
        rw [← hdO]
        unfold donorH
        by_cases hk1 : kd = 1
        · rw [if_pos hk1]
          obtain ⟨hdi, _⟩ := hd hk1
          exact good_join (hgood _ hdi.1 hdi.2) _
        · rw [if_neg hk1]; exact good_none c
      have hdon : kd = 1 → ∃ (d s : Nat) (x2 : HRow) (y2 : HChk), dn = d ∧ at' = s ∧ rw[d]? = some x2 ∧ x2.r[s]? = some y2 ∧ y2.k = dO.getD noChk ∧ Lies W y2.w y2.k.ws ∧ Lies W y2.v y2.k.vs := fun hk1 => by
        obtain ⟨hdi, _, hat⟩ := hd hk1
        obtain ⟨d, rfl⟩ : ∃ d : Nat, dn = d := ⟨dn.toNat, by omega⟩
        obtain ⟨x2, hx2⟩ : ∃ x, rw[d]? = some x := ⟨rw[d]'(by omega), by simp⟩
        have hrd : (HH.getD d []).length = _ := hhr d hdi.1 hdi.2
        obtain ⟨y2, o2, q1, q2, q3, q4, q5⟩ := hist_at hha hx2 (j := manyOf (es.take i) (d : Int)) (by omega)
        refine ⟨d, _, x2, y2, rfl, hat, hx2, q1, ?_, q4, q5⟩
        rw [q3, ← hdO]
        unfold donorH
        rw [if_pos hk1]
        simp only [hat, Int.toNat_natCast]
        show _ = ((HH.getD d [])[_]?).join.getD noChk
        rw [q2]; rfl
      have hw := wrap_succ (n := i) (by omega)
      have hw1 : IntKind.i64.wrap (((t + 1 : Nat) : Int) - 1) = (t : Int) := by rw [wrap_i64 (by omega) (by omega)]; omega
      clear hd hkd hy hlo hcm hhr hhl hgood
      refine goM ?_
      refine l_newM (cs := zeroEv) T78 rfl fun b16 H5 hM => ?_
      refine l_putM T78 fun H6 hM => ?_
      obtain ⟨b, o', hi, lo⟩ := hr_at hM (by (repeat (first | exact Has.here | apply Has.there))) hx
      have s6 := (hr_sl hM (by (repeat (first | exact Has.here | apply Has.there))) hx).cells
      refine goM ?_
      refine l_newM (cs := zeroChk) T34 rfl fun b18 H7 hM => ?_
      clear lo
      refine goM ?_
      refine wq_meetT (fun ρ h => ∃ dw dv, Lies W dw (dO.getD noChk).ws ∧ Lies W dv (dO.getD noChk).vs ∧ Mem H h [.box b18 (kC dw dv (dO.getD noChk)), .box b16 (evV ⟨kd, m, dn, at', ra, mo⟩), .ro (pack W), .ro (pack (hrs rw)), .own 1 hrC u rw, .box b2 zeroChk, .box b1 (cfgC c rv)] ∧ ρ 1 = v ∧ ρ 2 = .int .i64 (id : Int) ∧ ρ 3 = .int .i64 (at_ : Int) ∧ ρ 4 = .ptr b1 0 ∧ ρ 8 = .ptr b2 0 ∧ ρ 10 = u ∧ ρ 15 = .int .i64 (i : Int) ∧ ρ 16 = .ptr b16 0 ∧ ρ 17 = x.v ∧ ρ 18 = .ptr b18 0) ?_ ?_
      · by_cases hk1 : kd = 1
        · obtain ⟨d, s, x2, ⟨dw, dv, dk⟩, rfl, rfl, q1, q2, rfl, q4, q5⟩ := hdon hk1
          subst hk1
          obtain ⟨b3, o3, hi3, lo3⟩ := hr_at hM (by (repeat (first | exact Has.here | apply Has.there))) q1
          obtain ⟨b4, o4, hi4, lo4, _⟩ := ck_at (hr_sl hM (by (repeat (first | exact Has.here | apply Has.there))) q1) q2
          have s7 := (q4.sl (hM.fact (F := pack W) (by (repeat (first | exact Has.here | apply Has.there))))).cells
          have s8 := (q5.sl (hM.fact (F := pack W) (by (repeat (first | exact Has.here | apply Has.there))))).cells
          simp only at lo4 s7 s8
          clear hdon hdO hx hy1 hy2 q1 q2
          refine goM ?_
          refine d_putM T34 fun H8 hM => ?_
          refine goM ?_
          exact ⟨dw, dv, q4, q5, hM, by simp [put_app, put_none, *]⟩
        · have n1 : (kd == 1) = false := by simpa using hk1
          have hdn : dO = none := by rw [← hdO]; unfold donorH; rw [if_neg hk1]
          subst hdn
          clear hdon hdO hx hy1 hy2
          refine goM ?_
          exact ⟨.nils, .nils, .inl ⟨rfl, rfl⟩, .inl ⟨rfl, rfl⟩, hM, by simp [put_app, put_none, *]⟩
      · clear hdon
        repeat clear hM
        clear g1 g2 g3 g4 g8 g10 g15 ho
        clear ρ
        rintro ρ h ⟨dw, dv, d1, d2, hM, g1, g2, g3, g4, g8, g10, g15, g16, g17, g18⟩
        have hWp := hM.fact (F := pack W) (by (repeat (first | exact Has.here | apply Has.there)))
        have hslx := hr_sl hM (by (repeat (first | exact Has.here | apply Has.there))) hx
        have hlen := hslx.len T100 rfl
        rw [hxl] at hlen
        obtain ⟨b3, o3, hi3, lo3, _⟩ := ck_at hslx hy1
        simp only at lo3
        obtain ⟨_, H8, c1, a, b', N, rfl, m1, e1, e2⟩ := turned_ h c rv ⟨kd, m, dn, at', ra, mo⟩ yw yv dw dv o dO W (hr.mono hM.pre) cf ⟨hy4.sl hWp, hy5.sl hWp⟩ ⟨d1.sl hWp, d2.sl hWp⟩ gk gd hy4 hy5 d1 d2
        have s7 := (hy4.sl hWp).cells
        have s8 := (hy5.sl hWp).cells
        have s9 := (d1.sl hWp).cells
        have s10 := (d2.sl hWp).cells
        simp only at s7 s8 s9 s10
        have hM8 := (hM.front (r := .ro (pack W)) (by (repeat (first | exact Take.here | apply Take.there)))).callMore m1
        clear hslx hW
        have hst2 : foldH c (es.take (i + 1)) = HH.set m (HH.getD m [] ++ [turnK c ⟨kd, m, dn, at', ra, mo⟩ o dO]) := by
          rw [hstep]
          unfold stepH
          simp only [hnow, hdO, Int.toNat_natCast]
          rfl
        have hha2 : ∀ v', HistAt (N ++ W) (foldH c (es.take (i + 1))) (rw.set m ⟨v', x.r ++ [⟨a, b', (turnK c ⟨kd, m, dn, at', ra, mo⟩ o dO).getD noChk⟩]⟩) := fun v' => by
          rw [hst2]
          exact histAt_set hha hx (y := ⟨a, b', (turnK c ⟨kd, m, dn, at', ra, mo⟩ o dO).getD noChk⟩) (o := turnK c ⟨kd, m, dn, at', ra, mo⟩ o dO) rfl N e1 e2
        clear hst2 hstep hnow hdO hrm hrm'
        have s11 := (e1.sl (hM8.fact (F := pack (N ++ W)) .here)).cells
        have s12 := (e2.sl (hM8.fact (F := pack (N ++ W)) .here)).cells
        refine goM ?_
        refine d_callG c1 (.inl m1.pre) ?_
        clear c1 m1 hM lo3 hWp e1 e2 hy4 hy5 d1 d2
        generalize (turnK c ⟨kd, m, dn, at', ra, mo⟩ o dO).getD noChk = K at *
        have hM := hM8
        clear hM8
        refine goM ?_
        refine d_newM (cs := zeroChk) T34 rfl fun b19 H9 hM => ?_
        refine d_putM T34 fun H10 hM => ?_
        obtain ⟨_, _, hi', lo⟩ := hr_at hM (by (repeat (first | exact Has.here | apply Has.there))) hx
        rw [hi] at hi'
        cases hi'
        have hpart : (hrs rw)[m]? = some (.own 5 ckC x.v x.r) := by unfold hrs; rw [List.getElem?_map, hx]; rfl
        replace hM := (hM.front (r := .ro (pack (hrs rw))) (by (repeat (first | exact Take.here | apply Take.there)))).pull hpart
        clear hpart
        refine goM ?_
        refine wq_late ?_
        have np := no_pend (T := T) H10
        repeat (first | (refine e_pl ?_; refine e_goM ?_) | refine e_nil ?_)
        refine e_lateG np (v := .int .i64 (m : Int)) rfl ?_
        clear np
        refine e_np (one_pend (pend_box (off := 1) (b := b16) (cs := evV ⟨kd, m, dn, at', ra, mo⟩) hM (by (repeat (first | exact Has.here | apply Has.there))) T3 rfl rfl)) fun np => ?_
        repeat (first | (refine e_pl ?_; refine e_goM ?_) | refine e_nil ?_)
        refine e_sliceM ckC [⟨a, b', K⟩] (kC a b' K) T100 rfl T34 rfl (cells_cks [⟨a, b', K⟩]) (by decide) fun x1 H11 hM => ⟨?_, ?_⟩
        · exact one_pend (pend_box (off := 1) (b := b16) (cs := evV ⟨kd, m, dn, at', ra, mo⟩) hM (by (repeat (first | exact Has.here | apply Has.there))) T3 rfl rfl)
        clear np
        refine e_appM (hM.sl .here) (xs := x.r) (hh := .there .here) (hb := by rw [hxl]; show (t + 1 + 1) * 72 ≤ _ ∧ t + 1 + 1 ≤ _; omega) fun v' H12 hM => ⟨?_, ?_⟩
        · exact one_pend (pend_box (off := 1) (b := b16) (cs := evV ⟨kd, m, dn, at', ra, mo⟩) hM (by (repeat (first | exact Has.here | apply Has.there))) T3 rfl rfl)
        have s13 := (hM.sl (.there .here)).cells
        obtain ⟨b6, hi', hput⟩ := hM.elem (sz := 1) (R := hrC) (v := u) (xs := rw) (by (repeat (first | exact Has.here | apply Has.there))) T99 rfl T100 rfl (k := m) (List.getElem?_eq_some_iff.1 hx).1
        rw [hi] at hi'
        cases hi'
        obtain ⟨H13, st, hM13⟩ := hput v' ⟨v', x.r ++ [⟨a, b', K⟩]⟩ s13.2 (by rw [s13.1]; rfl) (by rw [s13.1]; rfl)
        clear hput
        refine e_np (one_pend (pend_box (off := 1) (b := b16) (cs := evV ⟨kd, m, dn, at', ra, mo⟩) hM (by (repeat (first | exact Has.here | apply Has.there))) T3 rfl rfl)) fun np => ?_
        repeat (first | (refine e_pl ?_; refine e_goM ?_) | refine e_nil ?_)
        refine e_stM st ⟨one_pend (pend_box (off := 1) (b := b16) (cs := evV ⟨kd, m, dn, at', ra, mo⟩) hM13 (by (repeat (first | exact Has.here | apply Has.there))) T3 rfl rfl), ?_⟩
        clear np hM
        have h1 := (hM13.front (r := .own 5 ckC v' (x.r ++ [⟨a, b', K⟩])) (by (repeat (first | exact Take.here | apply Take.there)))).front (r := .ro (pack ((hrs rw).set m (.own 1 intC .nils [])))) (by (repeat (first | exact Take.here | apply Take.there)))
        have h2 := Mem.repack h1 m (by rw [List.length_set]; unfold hrs; rw [List.length_map]; exact (List.getElem?_eq_some_iff.1 hx).1)
        rw [List.set_set, show Res.own 5 ckC v' (x.r ++ [⟨a, b', K⟩]) = hrPart ⟨v', x.r ++ [⟨a, b', K⟩]⟩ from rfl, hrs_set] at h2
        have h3 := (h2.front (r := .ro (pack (N ++ W))) (by (repeat (first | exact Take.here | apply Take.there))))
        clear h1 h2 hM13
        refine e_nil ?_
        refine goM ?_
        exact ⟨es.length - (i + 1), by omega, i + 1, _, _, hil, rfl, hha2 v', h3.sub (by (repeat (first | exact List.Sublist.slnil | exact List.Sublist.refl _ | refine List.Sublist.cons_cons _ ?_ | refine List.Sublist.cons _ ?_))), by simp [put_app, put_none, *]⟩
    · have hil : i = es.length := by have : ¬ i < es.length := by simpa using hb
                                     omega
      subst hil
      clear hb
      rw [List.take_of_length_le (Nat.le_refl _)] at hha hhl hhr
      obtain ⟨x, hx⟩ : ∃ x, rw[id]? = some x := ⟨rw[id]'(by omega), by simp⟩
      have hrd : ((foldH c es).getD id []).length = _ := hhr id hid.1 hid.2
      obtain ⟨⟨yw, yv, yk⟩, o, q1, q2, rfl, q4, q5⟩ := hist_at hha hx (j := at_) (by omega)
      have hfk : foldK c es id at_ = o := by
        unfold foldK
        show (((foldH c es).getD id [])[at_]?).join = o
        rw [q2]; rfl
      have go := foldK_good hc hev hid.1 hid.2 (at_ : Int)
      rw [hfk] at go
      obtain ⟨b, o', hi, lo⟩ := hr_at hM (by (repeat (first | exact Has.here | apply Has.there))) hx
      obtain ⟨b3, o3, hi3, lo3, lo4⟩ := ck_at (hr_sl hM (by (repeat (first | exact Has.here | apply Has.there))) hx) q1
      have k1 := q4.sl hW
      have k2 := q5.sl hW
      have t1 := k1.cells
      have t2 := k2.cells
      have hlen := k1.len T30 rfl
      simp only at lo3 lo4 t1 t2 hlen
      have hgf := getD_fit go
      clear q1 q2 q4 q5 hx hrd hhl hhr hha hW
      cases o with
      | none =>
        have z : (((Option.getD none noChk).ws.length : Int) == 0) = true := rfl
        rw [foldR_none hfk]
        clear hfk go
        refine goM ?_
        refine l_putM T34 fun H5 hM => ?_
        refine goM ?_
        exact end_2 (by first | exact .inl rfl | exact .inr rfl) ⟨.nils, .nils, rfl, ((hM.sub (L' := []) (by (repeat (first | exact List.Sublist.slnil | exact List.Sublist.refl _ | refine List.Sublist.cons_cons _ ?_ | refine List.Sublist.cons _ ?_)))).nil 1 intC).nil 1 intC⟩
      | some y =>
        have z : ((y.ws.length : Int) == 0) = false := by
          have := (kFits_len (go y rfl)).2.1
          simp; intro h; rw [h] at this; simp at this
        rw [foldR_some hok hfk]
        simp only [Option.getD_some] at lo3 hlen hgf k1 k2
        obtain ⟨_, H5, c1, a, b', rfl, m1⟩ := copyCheck22_ h yw yv y ⟨k1, k2⟩ hgf
        have s4 := (m1.sl .here).cells
        have s5 := (m1.sl (.there .here)).cells
        clear hfk go hgf k1 k2
        refine goM ?_
        refine l_callG c1 ?_
        replace hM := hM.call2 m1
        clear c1 m1
        refine goM ?_
        refine l_putM T34 fun H6 hM => ?_
        refine goM ?_
        exact end_2 (by first | exact .inl rfl | exact .inr rfl) ⟨a, b', rfl, hM.subG⟩

theorem refFold_ (H : Heap) (c : Cfg) (rv v : V) (es : List Ev) (id at_ : Int) (hr : Rows H rv c.rows) (cf : c.Fit) (hes : Sl 6 evC H v es) (hl : es.length ≤ 2 ^ 42) :
    ∃ w H', Call Tryz.prog 13 [.agg (cfgC c rv), v, .int .i64 id, .int .i64 at_] H w H' ∧ ∃ a b, w = .tup [.agg (kC a b (foldR c es id at_).1), .int .i64 (foldR c es id at_).2] ∧ Mem H H' [.own 1 intC b (foldR c es id at_).1.vs, .own 1 intC a (foldR c es id at_).1.ws] := by
  cases hok : foldOk c es id at_ with
  | false =>
    rw [foldR_no hok]
    exact ⟨_, H, refFold_bad H c rv v es id at_ hr cf hes hl hok, .nils, .nils, rfl, ((Mem.start H).nil 1 intC).nil 1 intC⟩
  | true => exact refFold_good H c rv v es id at_ hr cf hes hl hok
end Go.Proofs.YtengdmagaeckoaaGreat.VM

/- Layer 24, the plain law: one event upon the fold ahead of it; events that are all training. -/
namespace Go.Proofs.YtengdmagaeckoaaGreat.VM
open Go
set_option linter.unusedVariables false
set_option linter.unusedSimpArgs false
attribute [local irreducible] wq wqL wqD wqE wqO Th Bk EndR
set_option maxHeartbeats 8000000

theorem fold_on {c : Cfg} {es : List Ev} (hm : eventsMay es c.m = true) {m : Int} {j : Nat} {e : Ev} (he : es[j]? = some e) (hmb : e.member = m) (hl : manyOf es m = manyOf (es.take (j + 1)) m) :
    1 ≤ manyOf es m ∧ foldK c es m (manyOf es m : Nat) = turnK c e (foldK c es m ((manyOf es m - 1 : Nat) : Int)) (if e.kind = 1 then foldK c es e.donor e.at_ else none) := by
  subst hmb
  have hj := (List.getElem?_eq_some_iff.1 he).1
  obtain ⟨hmb, hd, _⟩ := evMay_in ((eventsMay_at hm).2.2 j e he)
  have h1 := manyOf_succ (m := e.member) he
  rw [if_pos rfl] at h1
  have h2 := foldK_now (c := c) hm hmb.1 hmb.2 (i := j + 1) (by omega)
  have h3 := foldK_now (c := c) hm hmb.1 hmb.2 (i := j) (by omega)
  rw [← hl] at h2
  have h4 : manyOf (es.take j) e.member = manyOf es e.member - 1 := by omega
  rw [h4] at h3
  refine ⟨by omega, ?_⟩
  rw [h2, h3, nowH_step hm he hmb.1 hmb.2, if_pos rfl]
  by_cases hk : e.kind = 1
  · rw [if_pos hk, if_pos hk]
    obtain ⟨hdi, _, hat⟩ := hd hk
    rw [hat, foldK_now (c := c) hm hdi.1 hdi.2 (i := j) (by omega)]
  · rw [if_neg hk, if_neg hk]

def trainO (c : Cfg) (id : Int) (k : Option Chk) : Option Chk := match k with
  | none => none
  | some k => if (trainR c id k).2 = 0 then some (trainR c id k).1 else none
def trainsO (c : Cfg) (id : Int) : Nat → Option Chk
  | 0 => some (firstKR c id)
  | n + 1 => trainO c id (trainsO c id n)
theorem turnK_train {c : Cfg} {e : Ev} (h : e.kind = 0) (k d : Option Chk) : turnK c e k d = trainO c e.member k := by
  unfold turnK trainO
  cases k with
  | none => rfl
  | some k =>
    simp only
    rw [if_pos h]
theorem now_trains {c : Cfg} {es : List Ev} (hm : eventsMay es c.m = true) (hk : ∀ e ∈ es, e.kind = 0) {m : Int} (h0 : 0 ≤ m) (h : m < c.m) : ∀ k, k ≤ es.length → nowH (foldH c (es.take k)) m = trainsO c m (manyOf (es.take k) m)
  | 0, _ => by
    have h3 : foldH c (es.take 0) = startH c := rfl
    rw [h3]
    unfold nowH
    rw [startH_row h0 h]; rfl
  | k + 1, hlt => by
    have ih := now_trains hm hk h0 h k (by omega)
    have he : es[k]? = some (es[k]'(by omega)) := by simp
    generalize es[k]'(by omega) = e at he
    rw [nowH_step hm he h0 h, manyOf_succ he]
    by_cases hme : m = e.member
    · subst hme
      rw [if_pos rfl, if_pos rfl, turnK_train (hk e (List.mem_of_getElem? he)), ih]; rfl
    · rw [if_neg hme, if_neg (fun h => hme h.symm), ih, Nat.add_zero]
theorem fold_trains {c : Cfg} {es : List Ev} (hm : eventsMay es c.m = true) (hk : ∀ e ∈ es, e.kind = 0) {m : Int} (h0 : 0 ≤ m) (h : m < c.m) : foldK c es m (manyOf es m : Nat) = trainsO c m (manyOf es m) := by
  have h1 := foldK_now (c := c) hm h0 h (i := es.length) (Nat.le_refl _)
  have h2 := now_trains (c := c) hm hk h0 h es.length (Nat.le_refl _)
  rw [List.take_length] at h1 h2
  rw [h1, h2]
theorem trainsO_spec {c : Cfg} (hc : cfgMay c = true) {m : Int} (h0 : 0 ≤ m) (h : m < c.m) : ∀ n : Nat, ((n : Int) ≤ c.total → ∃ k, trainsO c m n = some k ∧ k.t = n ∧ kFits c k = true) ∧ (c.total < (n : Int) → trainsO c m n = none)
  | 0 => by
    obtain ⟨hm2, _, _, ht, _⟩ := cfgMay_split hc
    have hok : firstOk c m = true := by
      unfold firstOk
      rw [hc, wrap_m hm2, within_iff.2 ⟨h0, by omega⟩]; rfl
    refine ⟨fun _ => ⟨firstK c m, ?_, rfl, firstK_fits hc m⟩, fun h => by omega⟩
    show some (firstKR c m) = _
    unfold firstKR
    rw [if_pos hok]
  | n + 1 => by
    obtain ⟨_, _, _, ht, _⟩ := cfgMay_split hc
    obtain ⟨ih1, ih2⟩ := trainsO_spec hc h0 h n
    refine ⟨fun hn => ?_, fun hn => ?_⟩
    · obtain ⟨k, hk, hkt, hkf⟩ := ih1 (by omega)
      refine ⟨trainK c m k, ?_, ?_, train_fits hkf (by omega)⟩
      · show trainO c m (trainsO c m n) = _
        rw [hk]
        unfold trainO
        simp only
        rw [trainR_go hc ⟨h0, h⟩ hkf (by omega)]; rfl
      · show k.t + 1 = _
        rw [hkt]; omega
    · show trainO c m (trainsO c m n) = _
      by_cases hlt : c.total < (n : Int)
      · rw [ih2 hlt]; rfl
      · obtain ⟨k, hk, hkt, hkf⟩ := ih1 (by omega)
        rw [hk]
        unfold trainO
        simp only
        rw [trainR_done hc ⟨h0, h⟩ hkf (by omega)]
        rfl
end Go.Proofs.YtengdmagaeckoaaGreat.VM

/- Chapter 24: the small config; what every program answers. -/
namespace Go.Proofs.YtengdmagaeckoaaGreat.VM
open Go
set_option linter.unusedVariables false
set_option linter.unusedSimpArgs false
attribute [local irreducible] wq wqL wqD wqE wqO Th Bk EndR
set_option maxHeartbeats 8000000

theorem small24_ (H : Heap) : ∃ w H', Call Tryz.prog 22 [] H w H' ∧ ∃ rv xv, w = .agg (cfgC smallC rv) ∧ Mem H H' [.ro (rowsFact rv xv smallC.rows)] := by
  refine call_mem fit mixed Tryz.func22 rfl rfl rfl (by kernel_rfl) fun hM => ?_
  refine wq_seq (wq_line ?_)
  refine l_newM (cs := zeroCfg) T26 rfl fun b0 H1 hM => ?_
  refine goM ?_
  refine l_sliceM intC [65536] [.int .i64 65536] T30 rfl T3 rfl (cells_ints [65536]) (by decide) (fun x1 H2 hM => ?_)
  have t1 := (hM.sl .here).cells
  refine goM ?_
  refine l_sliceM intC [-65536] [.int .i64 (-65536)] T30 rfl T3 rfl (cells_ints [-65536]) (by decide) (fun x2 H3 hM => ?_)
  have t2 := (hM.sl .here).cells
  refine goM ?_
  refine l_sliceM rowC [(x1, 32768), (x2, 0)] [x1, .int .i64 32768, x2, .int .i64 0] T24 rfl T113 rfl (cells_rows [(x1, 32768), (x2, 0)]) (by decide) (fun rv H4 hM => ?_)
  have t3 := (hM.sl .here).cells
  refine goM ?_
  refine l_putM T26 fun H5 hM => ?_
  refine goM ?_
  refine end_1 (by first | exact .inl rfl | exact .inr rfl) ⟨rv, [(x1, 32768), (x2, 0)], rfl, Mem.mkro hM.pre ⟨hM.slG, rfl, fun k p r hp hr => ?_⟩ fun c hc => ?_⟩
  · match k, hp, hr with
    | 0, hp, hr => cases hp; cases hr; exact ⟨hM.slG, rfl⟩
    | 1, hp, hr => cases hp; cases hr; exact ⟨hM.slG, rfl⟩
  · rcases hc with hc | ⟨q, hq, hc⟩
    · exact hM.low (.own 2 rowC rv [(x1, 32768), (x2, 0)]) (by simp) c hc
    · simp at hq
      rcases hq with rfl | rfl
      · exact hM.low (.own 1 intC x1 [65536]) (by simp) c hc
      · exact hM.low (.own 1 intC x2 [-65536]) (by simp) c hc

def ev24 : List Ev := [⟨0, 1, 0, 0, 0, 0⟩, ⟨0, 0, 0, 0, 0, 0⟩, ⟨1, 0, 1, 1, 0, 0⟩, ⟨2, 0, 0, 0, 64, 1⟩]
def ev4 : List Ev := [⟨0, 0, 0, 0, 0, 0⟩, ⟨0, 0, 0, 0, 0, 0⟩, ⟨0, 0, 0, 0, 0, 0⟩, ⟨0, 0, 0, 0, 0, 0⟩]
theorem cells_evs (xs : List Ev) : Cells 6 evC (xs.flatMap fun e => evV e) xs := cells_of (R := evC) (fun e => evV e) (fun x => ⟨rfl, rfl⟩) xs
theorem trainO_go {c : Cfg} {id : Int} {k : Chk} (hc : cfgMay c = true) (hid : 0 ≤ id ∧ id < c.m) (hk : kFits c k = true) (ht : k.t < c.total) : trainO c id (some k) = some (trainK c id k) := by
  unfold trainO
  simp only
  rw [trainR_go hc hid hk ht]; rfl
theorem now_zero {c : Cfg} (hc : cfgMay c = true) (es : List Ev) {m : Int} (h0 : 0 ≤ m) (h : m < c.m) : nowH (foldH c (es.take 0)) m = some (firstK c m) := by
  have e : foldH c (es.take 0) = startH c := rfl
  obtain ⟨hm2, _⟩ := cfgMay_split hc
  have hok : firstOk c m = true := by
    unfold firstOk
    rw [hc, wrap_m hm2, within_iff.2 ⟨h0, by omega⟩]; rfl
  rw [e]
  unfold nowH
  rw [startH_row h0 h]
  show some (firstKR c m) = _
  unfold firstKR
  rw [if_pos hok]
theorem fold24_a : foldR smallC ev24 0 3 = (⟨(trainK smallC 1 (firstK smallC 1)).ws, (trainK smallC 1 (firstK smallC 1)).vs, 64, 1, 1⟩, 0) := by
  have hc := small_may
  have hev : eventsMay ev24 smallC.m = true := by decide +kernel
  have hok : foldOk smallC ev24 0 3 = true := by decide +kernel
  have hA : (trainK smallC 0 (firstK smallC 0)).t = 1 := rfl
  have a0 := now_zero hc ev24 (m := 0) (by decide) (by decide)
  have a1 := now_zero hc ev24 (m := 1) (by decide) (by decide)
  have g0 := trainO_go (id := 0) hc (by decide) (firstK_fits hc 0) (by decide)
  have g1 := trainO_go (id := 1) hc (by decide) (firstK_fits hc 1) (by decide)
  generalize trainK smallC 0 (firstK smallC 0) = A at *
  generalize trainK smallC 1 (firstK smallC 1) = K at *
  generalize firstK smallC 0 = F0 at *
  generalize firstK smallC 1 = F1 at *
  have b0 := nowH_step (c := smallC) hev (k := 0) (e := ⟨0, 1, 0, 0, 0, 0⟩) rfl (m := 0) (by decide) (by decide)
  have b1 := nowH_step (c := smallC) hev (k := 0) (e := ⟨0, 1, 0, 0, 0, 0⟩) rfl (m := 1) (by decide) (by decide)
  rw [if_neg (by decide), a0] at b0
  rw [if_pos rfl, turnK_train rfl, a1] at b1
  replace b1 := b1.trans g1
  have c0 := nowH_step (c := smallC) hev (k := 1) (e := ⟨0, 0, 0, 0, 0, 0⟩) rfl (m := 0) (by decide) (by decide)
  have c1 := nowH_step (c := smallC) hev (k := 1) (e := ⟨0, 0, 0, 0, 0, 0⟩) rfl (m := 1) (by decide) (by decide)
  rw [if_pos rfl, turnK_train rfl, b0] at c0
  replace c0 := c0.trans g0
  rw [if_neg (by decide), b1] at c1
  have d0 := nowH_step (c := smallC) hev (k := 2) (e := ⟨1, 0, 1, 1, 0, 0⟩) rfl (m := 0) (by decide) (by decide)
  rw [if_pos rfl, if_pos rfl, c0, c1] at d0
  have e0 := nowH_step (c := smallC) hev (k := 3) (e := ⟨2, 0, 0, 0, 64, 1⟩) rfl (m := 0) (by decide) (by decide)
  rw [if_pos rfl, d0] at e0
  have hk := foldK_now (c := smallC) hev (id := 0) (by decide) (by decide) (i := 4) (by decide)
  rw [show (4 : Nat) = 3 + 1 from rfl, e0] at hk
  refine foldR_some hok ?_
  refine Eq.trans (hk : foldK smallC ev24 0 3 = _) ?_
  show some (⟨K.ws, K.vs, 64, 1, A.t⟩ : Chk) = _
  rw [hA]
theorem fold24_b : foldR smallC ev24 0 4 = (noChk, 2400) := foldR_no (by decide +kernel)
theorem fold24_c : foldR smallC ev24 2 0 = (noChk, 2400) := foldR_no (by decide +kernel)
theorem fold24_d : foldR smallC ev4 0 4 = (noChk, 2400) := by
  have hev : eventsMay ev4 smallC.m = true := by decide +kernel
  refine foldR_none ?_
  have h := fold_trains (c := smallC) hev (by decide) (m := 0) (by decide) (by decide)
  refine Eq.trans (h : foldK smallC ev4 0 4 = _) ?_
  exact (trainsO_spec small_may (m := 0) (by decide) (by decide) 4).2 (by decide)
theorem fold24_e : ∃ k, foldR smallC ev4 0 3 = (k, 0) ∧ k.t = 3 ∧ k.Fit := by
  have hev : eventsMay ev4 smallC.m = true := by decide +kernel
  have hok : foldOk smallC ev4 0 3 = true := by decide +kernel
  have hok3 : foldOk smallC (ev4.take 3) 0 3 = true := by decide +kernel
  have hev3 : eventsMay (ev4.take 3) smallC.m = true := by decide +kernel
  have h := fold_trains (c := smallC) hev3 (by decide) (m := 0) (by decide) (by decide)
  obtain ⟨k, h1, h2, h3⟩ := (trainsO_spec small_may (m := 0) (by decide) (by decide) 3).1 (by decide)
  have hk : foldK smallC (ev4.take 3) 0 3 = some k := Eq.trans (h : foldK smallC (ev4.take 3) 0 3 = _) h1
  have hm := fold_more (c := smallC) (es := ev4) (i := 3) (by decide) hev hok3
  exact ⟨k, hm.trans (foldR_some hok3 hk), h2, kFits_fit h3⟩

theorem awake24_ (K : Heap) : Call Tryz.prog 19 [] K (.bool true) K := by
  have hsm := small24_
  have hO : ∀ (H : Heap) (rv v : V) (es : List Ev) (id at_ : Int), Rows H rv smallC.rows → Sl 6 evC H v es → es.length ≤ 2 ^ 42 → ∃ w H', Call Tryz.prog 12 [.agg (cfgC smallC rv), v, .int .i64 id, .int .i64 at_] H w H' ∧ ∃ a b, w = .tup [.agg (kC a b (foldR smallC es id at_).1), .int .i64 (foldR smallC es id at_).2] ∧ Mem H H' [.own 1 intC b (foldR smallC es id at_).1.vs, .own 1 intC a (foldR smallC es id at_).1.ws] :=
    fun H rv v es id at_ hr hs hl => foldOf_ H smallC rv v es id at_ hr small_fit hs hl
  have hF : ∀ (H : Heap) (rv : V), Rows H rv smallC.rows → ∃ w H', Call Tryz.prog 20 [.agg (cfgC smallC rv), .int .i64 1] H w H' ∧ ∃ a b, w = .tup [.agg (mC a b (firstK smallC 1) 0), .str (strOf (firstS smallC 1)), .int .i64 0] ∧ Mem H H' [.own 1 intC b (firstK smallC 1).vs, .own 1 intC a (firstK smallC 1).ws] := fun H rv hr => refFirst_good H smallC rv 1 hr small_may (by decide)
  have hT : ∀ (H : Heap) (rv w v : V), Rows H rv smallC.rows → KAt H w v (firstK smallC 1) → ∃ a b H', Call Tryz.prog 51 [.agg (cfgC smallC rv), .int .i64 1, .agg (kC w v (firstK smallC 1))] H (.tup [.agg (kC a b (trainK smallC 1 (firstK smallC 1))), .int .i64 0]) H' ∧ Mem H H' [.own 1 intC a (trainK smallC 1 (firstK smallC 1)).ws, .own 1 intC b (trainK smallC 1 (firstK smallC 1)).vs] := fun H rv w v hr hk => by
    have := refTrain_ H smallC rv w v 1 (firstK smallC 1) hr hk small_fit (kFits_fit (firstK_fits small_may 1))
    rw [trainR_go small_may (by decide) (firstK_fits small_may 1) (by decide)] at this
    exact this
  have f1 := fold24_a
  have f2 := fold24_b
  have f3 := fold24_c
  have f4 := fold24_d
  obtain ⟨k5, f5, k5t, k5f⟩ := fold24_e
  have hT1 : Held ((trainK smallC 1 (firstK smallC 1)).t = 1) := rfl
  have ff := kFits_fit (train_fits (c := smallC) (id := 1) (firstK_fits small_may 1) (by decide))
  have p1 := fun H rv v hr hs => hO H rv v ev24 0 3 hr hs (by decide)
  have p2 := fun H rv v hr hs => hO H rv v ev24 0 4 hr hs (by decide)
  have p3 := fun H rv v hr hs => hO H rv v ev24 2 0 hr hs (by decide)
  have p4 := fun H rv v hr hs => hO H rv v ev4 0 4 hr hs (by decide)
  have p5 := fun H rv v hr hs => hO H rv v ev4 0 3 hr hs (by decide)
  rw [f1] at p1
  rw [f2] at p2
  rw [f3] at p3
  rw [f4] at p4
  rw [f5] at p5
  clear hO f1 f2 f3 f4 f5
  generalize trainK smallC 1 (firstK smallC 1) = k1 at *
  generalize firstK smallC 1 = k0 at *
  generalize firstS smallC 1 = S at *
  generalize smallC = c at *
  obtain ⟨ws1, vs1, r1, m1', t1'⟩ := k1
  replace hT1 : t1' = 1 := hT1
  subst hT1
  refine call_pure fit mixed Tryz.func19 rfl rfl rfl (by kernel_rfl) rfl fun hM => ?_
  refine wq_seq (wq_line ?_)
  refine goM ?_
  refine l_sliceM evC ev24 [.int .i64 0, .int .i64 1, .int .i64 0, .int .i64 0, .int .i64 0, .int .i64 0, .int .i64 0, .int .i64 0, .int .i64 0, .int .i64 0, .int .i64 0, .int .i64 0, .int .i64 1, .int .i64 0, .int .i64 1, .int .i64 1, .int .i64 0, .int .i64 0, .int .i64 2, .int .i64 0, .int .i64 0, .int .i64 0, .int .i64 64, .int .i64 1] T27 rfl T78 rfl (cells_evs ev24) (by decide) fun ev H1 hM => ?_
  refine goM ?_
  -- a fold
  obtain ⟨_, H2, c1, rv, xv, rfl, m0⟩ := hsm H1
  refine l_callG c1 ?_
  replace hM := hM.grow m0.pre
  obtain ⟨_, H3, c2, a1, b1, rfl, m2⟩ := p1 H2 rv ev (rows_of (m0.fact .here)) (hM.slG)
  refine goM ?_
  refine l_callG c2 ?_
  replace hM := hM.call2 m2
  have s1 := (m2.sl .here).cells
  have s2 := (m2.sl (.there .here)).cells
  clear c1 c2 m0 m2
  refine goM ?_
  refine l_newM (cs := zeroChk) T34 rfl fun q1 H4 hM => ?_
  refine l_putM T34 fun H5 hM => ?_
  refine goM ?_
  -- the document's first member
  obtain ⟨_, H6, c1, rv2, xv2, rfl, m0⟩ := hsm H5
  refine l_callG c1 ?_
  replace hM := hM.grow m0.pre
  obtain ⟨_, H7, c2, a2, b2, rfl, m2⟩ := hF H6 rv2 (rows_of (m0.fact .here))
  refine goM ?_
  refine l_callG c2 ?_
  replace hM := hM.call2 m2
  have s3 := (m2.sl .here).cells
  have s4 := (m2.sl (.there .here)).cells
  clear c1 c2 m0 m2
  refine goM ?_
  refine l_newM (cs := zeroMem) T48 rfl fun q2 H8 hM => ?_
  refine l_putM T48 fun H9 hM => ?_
  refine goM ?_
  -- its training
  obtain ⟨_, H10, c1, rv3, xv3, rfl, m0⟩ := hsm H9
  refine d_callG c1 (.inl m0.pre) ?_
  replace hM := hM.grow m0.pre
  obtain ⟨a3, b3, H11, c2, m2⟩ := hT H10 rv3 a2 b2 (rows_of (m0.fact .here)) ⟨hM.slG, hM.slG⟩
  refine goM ?_
  refine d_callG c2 (.inl m2.pre) ?_
  replace hM := hM.call2 m2
  have s5 := (m2.sl .here).cells
  have s6 := (m2.sl (.there .here)).cells
  clear c1 c2 m0 m2
  refine goM ?_
  refine d_newM (cs := zeroChk) T34 rfl fun q3 H12 hM => ?_
  refine d_putM T34 fun H13 hM => ?_
  refine goM ?_
  -- too far
  obtain ⟨_, H14, c1, rv4, xv4, rfl, m0⟩ := hsm H13
  refine l_callG c1 ?_
  replace hM := hM.grow m0.pre
  obtain ⟨_, H15, c2, a4, b4, rfl, m2⟩ := p2 H14 rv4 ev (rows_of (m0.fact .here)) (hM.slG)
  refine goM ?_
  refine l_callG c2 ?_
  have s7 := (m2.sl .here).cells
  have s8 := (m2.sl (.there .here)).cells
  replace hM := hM.grow m2.pre
  clear c1 c2 m0 m2
  refine goM ?_
  refine l_newM (cs := zeroChk) T34 rfl fun q4 H16 hM => ?_
  refine l_putM T34 fun H17 hM => ?_
  refine goM ?_
  -- no member
  obtain ⟨_, H18, c1, rv5, xv5, rfl, m0⟩ := hsm H17
  refine l_callG c1 ?_
  replace hM := hM.grow m0.pre
  obtain ⟨_, H19, c2, a5, b5, rfl, m2⟩ := p3 H18 rv5 ev (rows_of (m0.fact .here)) (hM.slG)
  refine goM ?_
  refine l_callG c2 ?_
  have s9 := (m2.sl .here).cells
  have s10 := (m2.sl (.there .here)).cells
  replace hM := hM.grow m2.pre
  clear c1 c2 m0 m2
  refine goM ?_
  refine l_newM (cs := zeroChk) T34 rfl fun q5 H20 hM => ?_
  refine l_putM T34 fun H21 hM => ?_
  refine goM ?_
  -- four trainings
  refine l_sliceM evC ev4 [.int .i64 0, .int .i64 0, .int .i64 0, .int .i64 0, .int .i64 0, .int .i64 0, .int .i64 0, .int .i64 0, .int .i64 0, .int .i64 0, .int .i64 0, .int .i64 0, .int .i64 0, .int .i64 0, .int .i64 0, .int .i64 0, .int .i64 0, .int .i64 0, .int .i64 0, .int .i64 0, .int .i64 0, .int .i64 0, .int .i64 0, .int .i64 0] T27 rfl T78 rfl (cells_evs ev4) (by decide) fun fv H22 hM => ?_
  refine goM ?_
  obtain ⟨_, H23, c1, rv6, xv6, rfl, m0⟩ := hsm H22
  refine l_callG c1 ?_
  replace hM := hM.grow m0.pre
  obtain ⟨_, H24, c2, a6, b6, rfl, m2⟩ := p4 H23 rv6 fv (rows_of (m0.fact .here)) (hM.slG)
  refine goM ?_
  refine l_callG c2 ?_
  have s11 := (m2.sl .here).cells
  have s12 := (m2.sl (.there .here)).cells
  replace hM := hM.grow m2.pre
  clear c1 c2 m0 m2
  refine goM ?_
  refine l_newM (cs := zeroChk) T34 rfl fun q6 H25 hM => ?_
  refine l_putM T34 fun H26 hM => ?_
  refine goM ?_
  obtain ⟨_, H27, c1, rv7, xv7, rfl, m0⟩ := hsm H26
  refine l_callG c1 ?_
  replace hM := hM.grow m0.pre
  obtain ⟨_, H28, c2, a7, b7, rfl, m2⟩ := p5 H27 rv7 fv (rows_of (m0.fact .here)) (hM.slG)
  refine goM ?_
  refine l_callG c2 ?_
  have s13 := (m2.sl .here).cells
  have s14 := (m2.sl (.there .here)).cells
  replace hM := hM.grow m2.pre
  clear c1 c2 m0 m2
  simp only [k5t]
  refine goM ?_
  refine l_newM (cs := zeroChk) T34 rfl fun q7 H29 hM => ?_
  refine l_putM T34 fun H30 hM => ?_
  refine goM ?_
  -- what came
  refine l_putM T32 fun H31 hM => ?_
  have c1 := sameK_ H31 a1 b1 a3 b3 ⟨ws1, vs1, 64, 1, 1⟩ ⟨ws1, vs1, 64, 1, 1⟩ ⟨hM.slG, hM.slG⟩ ⟨hM.slG, hM.slG⟩ ⟨ff.ws, ff.vs⟩
  rw [kEq_self] at c1
  refine goM ?_
  refine l_callG c1 ?_
  refine goM ?_
  refine l_callG (num_ _ _) ?_
  refine goM ?_
  refine l_callG (num_ _ _) ?_
  refine goM ?_
  refine l_callG (num_ _ _) ?_
  refine goM ?_
  refine l_callG (num_ _ _) ?_
  refine goM ?_
  refine l_callG (num_ _ _) ?_
  refine goM ?_
  exact end_1 (by first | exact .inl rfl | exact .inr rfl) ⟨rfl, hM.pre⟩
end Go.Proofs.YtengdmagaeckoaaGreat.VM

/- The statements' helpers: copies of events, events that are lent (LinF). -/
namespace Go.Proofs.YtengdmagaeckoaaGreat.VM
open Go
set_option linter.unusedVariables false
set_option linter.unusedSimpArgs false
attribute [local irreducible] wq wqL wqD wqE wqO Th Bk EndR
set_option maxHeartbeats 8000000

theorem sameEvents (H : Heap) (u v : V) (xs ys : List Ev) (hx : Sl 6 evC H u xs) (hy : Sl 6 evC H v ys) (lx : xs.length ≤ 2 ^ 47) : Call Tryz.prog 50 [u, v] H (.bool (decide (xs = ys))) H := by
  refine call_plain fit mixed Tryz.func50 rfl rfl rfl (by kernel_rfl) rfl ?_
  have hlx := hx.len T27 rfl
  have hly := hy.len T27 rfl
  refine goW ?_
  refine cond_go (fun hb => ?_) (fun hb => ?_)
  · refine goW ?_
    refine end_finG ?_; simp [put_app, put_none, *]
    intro e
    subst e
    simp at hb
  · have hl : xs.length = ys.length := by simp at hb; omega
    refine goW ?_
    refine wq_loop (fun c ρ h => ∃ k, k ≤ xs.length ∧ c = xs.length - k ∧ h = H ∧ xs.take k = ys.take k ∧ ρ 0 = u ∧ ρ 1 = v ∧ ρ 5 = .int .i64 (k : Nat)) ⟨0, Nat.zero_le _, rfl, rfl, by simp, rfl, rfl, rfl⟩ ?_
    rintro _ ρ h ⟨k, hk, rfl, rfl, hsame, h0, h1, h5⟩
    refine goW ?_
    refine cond_go (fun hb => ?_) (fun hb => ?_)
    · have hk' : k < xs.length := by simp at hb; omega
      obtain ⟨x, hxk⟩ : ∃ e, xs[k]? = some e := ⟨xs[k], by simp [hk']⟩
      obtain ⟨y, hyk⟩ : ∃ e, ys[k]? = some e := ⟨ys[k]'(by omega), by simp⟩
      obtain ⟨b, o, cs, hi, rfl, _, hlo, _⟩ := hx.get T27 rfl T78 rfl hxk
      obtain ⟨b2, o2, cs, hi2, rfl, _, hlo2, _⟩ := hy.get T27 rfl T78 rfl hyk
      have ho := loadV_agg T78 rfl hlo
      have ho2 := loadV_agg T78 rfl hlo2
      have hw := wrap_succ (n := k) (by omega)
      refine goW ?_
      refine cond_go (fun hc => ?_) (fun hc => ?_)
      all_goals rw [ev_eq] at hc
      all_goals simp at hc
      · refine goW ?_
        refine end_finG ?_; simp [put_app, put_none, *]
        intro e
        subst e
        rw [hxk] at hyk
        exact hc (Option.some.inj hyk)
      · refine goW ?_
        refine ⟨xs.length - (k + 1), by omega, k + 1, hk', rfl, rfl, take_succ_eq hsame hxk hyk hc, ?_⟩
        simp [put_app, put_none, *]
    · have hk' : k = xs.length := by simp at hb; omega
      subst hk'
      refine goW ?_
      refine end_finG ?_; simp [put_app, put_none, *]
      rw [List.take_of_length_le (Nat.le_refl _), List.take_of_length_le (by omega)] at hsame
      exact hsame
theorem copyEvents (H : Heap) (v : V) (es : List Ev) (hes : Sl 6 evC H v es) (hl : es.length * 48 ≤ 2 ^ 47) : ∃ u H' b, Call Tryz.prog 39 [v] H u H' ∧ H <+: H' ∧ H.length ≤ b ∧ Own 6 evC H' b u es := by
  suffices h : ∃ u H', (H <+: H' ∧ ∃ b, H.length ≤ b ∧ Own 6 evC H' b u es) ∧ Call Tryz.prog 39 [v] H u H' by
    obtain ⟨u, H', ⟨h1, b, h2, h3⟩, h4⟩ := h
    exact ⟨u, H', b, h4, h1, h2, h3⟩
  refine call_wq fit mixed Tryz.func39 rfl rfl rfl (by kernel_rfl) ?_
  have hes' := hes.mono (List.prefix_append H [.row [] true])
  obtain ⟨news, hn, hc⟩ := hes'.news T27 rfl (ie := (T 78).get!) rfl
  obtain ⟨u, b, H', ha, ho, hf, hb⟩ := own_append (ie := (T 78).get!) (own_make (t := true) H Cells.nil) rfl hc ⟨by show (0 + es.length) * 48 ≤ _; omega, by show 0 + es.length ≤ _; omega⟩
  have hp : H <+: H' := hf.pre (List.prefix_append _ _) (Nat.le_refl _)
  refine goW ?_
  refine l_appendG hn ha ?_
  refine goW ?_
  refine end_ret (by simp only [resRf, resRs, resR]; first | done | rfl) ⟨hp, b, by simp at hb; omega, ho⟩
def mark : Ev := ⟨0, 0, 0, 77777, 0, 0⟩
theorem lendEvents (H : Heap) (v : V) (es : List Ev) (hes : Sl 6 evC H v es) (hl : (es.length + 2) * 48 ≤ 2 ^ 47) : ∃ u H', Call Tryz.prog 11 [v] H u H' ∧ H <+: H' ∧ Lent 6 evC H' u es [mark, mark] := by
  suffices h : ∃ u H', (H <+: H' ∧ Lent 6 evC H' u es [mark, mark]) ∧ Call Tryz.prog 11 [v] H u H' by
    obtain ⟨u, H', ⟨h1, h2⟩, h4⟩ := h
    exact ⟨u, H', h4, h1, h2⟩
  refine call_wq fit mixed Tryz.func11 rfl rfl rfl (by kernel_rfl) ?_
  have hlen := hes.len T27 rfl
  obtain ⟨u1, H1, b1, hcall, hp1, hb1, ho1⟩ := copyEvents H v es hes (by omega)
  have hm : Cells 6 evC [.int .i64 0, .int .i64 0, .int .i64 0, .int .i64 77777, .int .i64 0, .int .i64 0, .int .i64 0, .int .i64 0, .int .i64 0, .int .i64 77777, .int .i64 0, .int .i64 0] [mark, mark] := Cells.cons (cs := [_, _, _, _, _, _]) rfl rfl (Cells.one rfl rfl)
  have ho1' := ho1.pre (List.prefix_append H1 [.row [.int .i64 0, .int .i64 0, .int .i64 0, .int .i64 77777, .int .i64 0, .int .i64 0, .int .i64 0, .int .i64 0, .int .i64 0, .int .i64 77777, .int .i64 0, .int .i64 0] true])
  obtain ⟨u2, b2, H2, ha, ho2, hf, hb2⟩ := own_append (ie := (T 78).get!) ho1' rfl hm ⟨hl, by simp; omega⟩
  have hp2 : H <+: H2 := hf.pre (hp1.trans (List.prefix_append _ _)) hb1
  obtain ⟨u, hu, hlent⟩ := ho2.lend
  refine goW ?_
  refine l_callG hcall ?_
  refine goW ?_
  refine l_appendG (news_row T27 rfl (by decide) rfl) ha ?_
  refine goW ?_
  refine end_ret (by simp only [resRf, resRs, resR]; first | done | rfl) ⟨hp2, hlent⟩
theorem keptEvents (H : Heap) (u v : V) (xs ys : List Ev) (hu : Lent 6 evC H u xs [mark, mark]) (hv : Sl 6 evC H v ys) (lx : xs.length ≤ 2 ^ 47) : Call Tryz.prog 18 [u, v] H (.bool (decide (xs = ys))) H := by
  refine call_plain fit mixed Tryz.func18 rfl rfl rfl (by kernel_rfl) rfl ?_
  have hlx := hu.sl.len T27 rfl
  have hly := hv.len T27 rfl
  have hw : IntKind.i64.wrap ((xs.length : Int) + 2) = (xs.length : Int) + 2 := wrap_i64 (by omega) (by omega)
  have hw1 : IntKind.i64.wrap ((xs.length : Int) + 1) = (xs.length : Int) + 1 := wrap_i64 (by omega) (by omega)
  obtain ⟨f, hf, hfs⟩ := hu.full (n := (xs.length : Int) + 2) (by simp)
  have hsame := sameEvents H u v xs ys hu.sl hv lx
  obtain ⟨b1, o1, _, hi1, rfl, _, hl1, _⟩ := hfs.get T27 rfl T78 rfl (k := xs.length) (x := mark) (by simp)
  obtain ⟨b2, o2, _, hi2, rfl, _, hl2, _⟩ := hfs.get T27 rfl T78 rfl (k := xs.length + 1) (x := mark) (by simp)
  have ho1 := loadV_agg T78 rfl hl1
  have ho2 := loadV_agg T78 rfl hl2
  simp only [Int.natCast_add, Int.cast_ofNat_Int] at hi2
  simp only [mark] at ho1 ho2
  refine goW ?_
  refine l_callG hsame ?_
  refine goW ?_
  first | refine l_partG (fun hb => ?_) (fun hb => ?_) | refine d_partG (fun hb => ?_) (fun hb => ?_)
  · have he : xs = ys := of_decide_eq_true hb
    rw [← he] at hly
    clear he
    refine goW ?_
    refine end_finG ?_; simp [put_app, put_none, *]
  · refine goW ?_
    refine end_finG ?_; simp [put_app, put_none, *]
end Go.Proofs.YtengdmagaeckoaaGreat.VM

/- Events that are lent, as a part of the memory; what is known of the events handed in. -/
namespace Go.Proofs.YtengdmagaeckoaaGreat.VM
open Go
set_option linter.unusedVariables false
set_option linter.unusedSimpArgs false
attribute [local irreducible] wq wqL wqD wqE wqO Th Bk EndR
set_option maxHeartbeats 8000000

def lentF (u : V) (es ms : List Ev) : Fact where
  S c := u.blk = some c
  p H := Lent 6 evC H u es ms
  st H H' h hf := by
    obtain ⟨b, cap, t, cs, wr, rfl, h1, h2, h3⟩ := h
    exact ⟨b, cap, t, cs, wr, rfl, h1, (hf b rfl).trans h2, h3⟩
  lt H c h hc := by
    obtain ⟨b, cap, t, cs, wr, rfl, h1, h2, h3⟩ := h
    cases hc
    exact (List.getElem?_eq_some_iff.1 h2).1
theorem lentF_sl {B H : Heap} {L : List Res} {f : Res → List Res} {u : V} {es ms : List Ev} (hM : Mem B H L) (hh : Has L (.ro (lentF u es ms)) f) : Sl 6 evC H u es := Lent.sl (hM.fact hh)
theorem Own.lendB {sz : Nat} {α : Type} {R : List V → α → Prop} {H : Heap} {b : Nat} {v : V} {xs ms : List α} (h : Own sz R H b v (xs ++ ms)) : ∃ u, sliceV sz v none (some (.int .i64 (xs.length : Int))) none = some u ∧ Lent sz R H u xs ms ∧ u.blk = some b := by
  obtain ⟨cap, t, cs, rfl, h1, h2, h3, h4⟩ := h
  rw [List.length_append] at h1
  refine ⟨.slc b 0 xs.length cap t sz, ?_, ⟨b, cap, t, cs, true, rfl, by rw [List.length_append]; exact h1, h2, h4⟩, rfl⟩
  simp only [sliceV, boundV, Option.isSome_none, Bool.false_and, Bool.false_eq_true, if_false, ne_eq, not_true_eq_false]
  rw [if_pos (by omega)]
  simp
theorem lendEventsM_ (H : Heap) (v : V) (es : List Ev) (hes : Sl 6 evC H v es) (hl : (es.length + 2) * 48 ≤ 2 ^ 47) : ∃ u H', Call Tryz.prog 11 [v] H u H' ∧ Mem H H' [.ro (lentF u es [mark, mark])] := by
  suffices h : ∃ u H', (H <+: H' ∧ Lent 6 evC H' u es [mark, mark] ∧ ∀ c, u.blk = some c → H.length ≤ c) ∧ Call Tryz.prog 11 [v] H u H' by
    obtain ⟨u, H', ⟨h1, h2, h3⟩, h4⟩ := h
    exact ⟨u, H', h4, Mem.mkro h1 h2 h3⟩
  refine call_wq fit mixed Tryz.func11 rfl rfl rfl (by kernel_rfl) ?_
  have hlen := hes.len T27 rfl
  obtain ⟨u1, H1, b1, hcall, hp1, hb1, ho1⟩ := copyEvents H v es hes (by omega)
  have hm : Cells 6 evC [.int .i64 0, .int .i64 0, .int .i64 0, .int .i64 77777, .int .i64 0, .int .i64 0, .int .i64 0, .int .i64 0, .int .i64 0, .int .i64 77777, .int .i64 0, .int .i64 0] [mark, mark] := Cells.cons (cs := [_, _, _, _, _, _]) rfl rfl (Cells.one rfl rfl)
  have ho1' := ho1.pre (List.prefix_append H1 [.row [.int .i64 0, .int .i64 0, .int .i64 0, .int .i64 77777, .int .i64 0, .int .i64 0, .int .i64 0, .int .i64 0, .int .i64 0, .int .i64 77777, .int .i64 0, .int .i64 0] true])
  obtain ⟨u2, b2, H2, ha, ho2, hf, hb2⟩ := own_append (ie := (T 78).get!) ho1' rfl hm ⟨hl, by simp; omega⟩
  have hp2 : H <+: H2 := hf.pre (hp1.trans (List.prefix_append _ _)) hb1
  have hpl := hp1.length_le
  obtain ⟨u, hu, hlent, hub⟩ := ho2.lendB
  have hbl : ∀ c, u.blk = some c → H.length ≤ c := fun c hc => by
    rw [hub] at hc
    cases hc
    simp at hb2
    omega
  clear hb2
  refine goW ?_
  refine l_callG hcall ?_
  refine goW ?_
  refine l_appendG (news_row T27 rfl (by decide) rfl) ha ?_
  refine goW ?_
  refine end_ret (by simp only [resRf, resRs, resR]; first | done | rfl) ⟨hp2, hlent, hbl⟩
theorem keptEventsM_ {B H : Heap} {L : List Res} {f : Res → List Res} (u v : V) (es : List Ev) (hM : Mem B H L) (hh : Has L (.ro (lentF u es [mark, mark])) f) (hv : Sl 6 evC H v es) (lx : es.length ≤ 2 ^ 47) : Call Tryz.prog 18 [u, v] H (.bool true) H := by
  have h := keptEvents H u v es es (hM.fact hh) hv lx
  rw [decide_eq_true rfl] at h
  exact h
theorem rd_event {K : Heap} {D : Type} {vs : List V} {d : DataW D} (h : Rd T K 78 vs d) : ∃ e : Ev, vs = evV e := by
  obtain ⟨hl, hf⟩ := h.field T78 rfl
  replace hl : vs.length = 6 := hl
  obtain ⟨x0, h0⟩ := hf 0 _ _ rfl T3
  obtain ⟨x1, h1⟩ := hf 1 _ _ rfl T3
  obtain ⟨x2, h2⟩ := hf 2 _ _ rfl T3
  obtain ⟨x3, h3⟩ := hf 3 _ _ rfl T3
  obtain ⟨x4, h4⟩ := hf 4 _ _ rfl T32
  obtain ⟨n0, e0, _⟩ := h0.isInt T3 rfl
  obtain ⟨n1, e1, _⟩ := h1.isInt T3 rfl
  obtain ⟨n2, e2, _⟩ := h2.isInt T3 rfl
  obtain ⟨n3, e3, _⟩ := h3.isInt T3 rfl
  obtain ⟨n4, n5, e4⟩ := rd_hyper h4
  match vs, hl, e0, e1, e2, e3, e4 with
  | [a, b, c, e, f, g], _, e0, e1, e2, e3, e4 =>
    simp at e0 e1 e2 e3 e4
    obtain ⟨rfl, rfl⟩ := e4
    subst e0; subst e1; subst e2; subst e3
    exact ⟨⟨n0, n1, n2, n3, n4, n5⟩, rfl⟩
theorem rd_events {K : Heap} {D : Type} {v : V} {d : DataW D} (h : RdV T K 27 v d) : ∃ es : List Ev, Sl 6 evC K v es ∧ es.length * 48 ≤ 140737488351232 :=
  (h.plain T27 rfl).isSlice T27 rfl T78 fun cs x hx => rd_event hx
end Go.Proofs.YtengdmagaeckoaaGreat.VM

/- Chapter 24: the statements Folds, FoldFirst, FoldMore. -/
namespace Go.Proofs.YtengdmagaeckoaaGreat.VM
open Go
set_option linter.unusedVariables false
set_option linter.unusedSimpArgs false
attribute [local irreducible] wq wqL wqD wqE wqO Th Bk EndR
set_option maxHeartbeats 8000000

theorem law_folds {D : Type} (K : Heap) (vs : List V) (ds : List (DataW D)) (ro : Ro K) (h : RdAll T K [26, 27, 3, 3] vs ds) : ∃ K', Call Tryz.prog 3 vs K (.bool true) K' := by
  obtain ⟨v1, vs, d1, ds, rfl, rfl, hv1, h⟩ := rdAll_cons h
  obtain ⟨v2, vs, d2, ds, rfl, rfl, hv2, h⟩ := rdAll_cons h
  obtain ⟨v3, vs, d3, ds, rfl, rfl, hv3, h⟩ := rdAll_cons h
  obtain ⟨v4, vs, d4, ds, rfl, rfl, hv4, h⟩ := rdAll_cons h
  obtain ⟨rfl, rfl⟩ := rdAll_nil h
  obtain ⟨c, rv, rfl, hr, cf⟩ := rd_config hv1
  obtain ⟨es, hes, hel⟩ := rd_events hv2
  obtain ⟨id, rfl, _⟩ := hv3.int T3 rfl
  obtain ⟨at_, rfl, _⟩ := hv4.int T3 rfl
  clear hv1 hv2 hv3 hv4 h
  have s1 := hes.cells
  have s3 : rv.cells = [rv] ∧ rv.isTup = false := by obtain ⟨_, h, _⟩ := hr; exact h.cells
  have of := foldR_fit c es id at_
  have hP := fun H rv v hr hs => foldOf_ H c rv v es id at_ hr cf hs (by omega)
  have hQ := fun H rv v hr hs => refFold_ H c rv v es id at_ hr cf hs (by omega)
  generalize foldR c es id at_ = o at *
  obtain ⟨k, f⟩ := o
  simp only at of hP hQ
  refine ⟨K, ?_⟩
  refine call_pure fit mixed Tryz.func3 rfl rfl rfl (by kernel_rfl) rfl fun hM => ?_
  refine wq_seq (wq_line ?_)
  refine l_boxM T26 fun b1 H1 hM => ?_
  refine goM ?_
  obtain ⟨_, H2, c1, x, xv, rfl, m1⟩ := copyConfigM_ H1 c rv (hr.mono hM.pre) cf
  refine l_callG c1 ?_
  have s4 : x.cells = [x] ∧ x.isTup = false := (m1.fact .here).1.cells
  replace hM := hM.call1 m1
  clear c1 m1
  refine goM ?_
  obtain ⟨u, H3, c1, m1⟩ := lendEventsM_ H2 v2 es (hes.mono hM.pre) (by omega)
  refine l_callG c1 ?_
  replace hM := hM.call1 m1
  have s5 := (lentF_sl hM .here).cells
  clear c1 m1
  refine goM ?_
  refine l_newM (cs := zeroCfg) T26 rfl fun b9 H4 hM => ?_
  refine l_putM T26 fun H5 hM => ?_
  refine goM ?_
  obtain ⟨_, H6, c1, a1, a2, rfl, m1⟩ := hP H5 x u (rows_of (hM.fact (F := rowsFact x xv c.rows) (by (repeat (first | exact Has.here | apply Has.there))))) (lentF_sl hM (es := es) (ms := [mark, mark]) (by (repeat (first | exact Has.here | apply Has.there))))
  refine l_callG c1 ?_
  have s6 := (m1.sl .here).cells
  have s7 := (m1.sl (.there .here)).cells
  replace hM := hM.call2 m1
  clear c1 m1
  refine goM ?_
  refine l_newM (cs := zeroChk) T34 rfl fun b11 H7 hM => ?_
  refine l_putM T34 fun H8 hM => ?_
  refine goM ?_
  obtain ⟨_, H9, c1, e1, e2, rfl, m1⟩ := hQ H8 rv v2 (hr.mono hM.pre) (hes.mono hM.pre)
  refine l_callG c1 ?_
  have s8 := (m1.sl .here).cells
  have s9 := (m1.sl (.there .here)).cells
  replace hM := hM.call2 m1
  clear c1 m1
  refine goM ?_
  refine l_newM (cs := zeroChk) T34 rfl fun b13 H10 hM => ?_
  refine l_putM T34 fun H11 hM => ?_
  have c1 := sameK_ H11 a1 a2 e1 e2 k k ⟨hM.slG, hM.slG⟩ ⟨hM.slG, hM.slG⟩ of
  rw [kEq_self] at c1
  refine goM ?_
  refine l_callG c1 ?_
  refine goM ?_
  refine l_callG (num_ _ _) ?_
  clear c1
  refine goM ?_
  have hM2 := (hM.front (r := .own 1 intC a2 k.vs) (by (repeat (first | exact Take.here | apply Take.there)))).front (r := .own 1 intC a1 k.ws) (by (repeat (first | exact Take.here | apply Take.there)))
  obtain ⟨_, H12, c1, rfl, hM⟩ := spoilCheckM_ K H11 _ a1 a2 k hM2 of
  refine l_callG c1 ?_
  clear c1 hM2
  refine goM ?_
  have c1 := sameConfig_ H12 c x rv (rows_of (hM.fact (F := rowsFact x xv c.rows) (by (repeat (first | exact Has.here | apply Has.there))))) (hr.mono hM.pre) (by have := cf.rows; omega) (fun r hr => by have := cf.row r hr; omega)
  have c2 := keptEventsM_ u v2 es hM (by (repeat (first | exact Has.here | apply Has.there))) (hes.mono hM.pre) (by omega)
  refine l_callG c1 ?_
  refine goM ?_
  refine l_callG c2 ?_
  refine goM ?_
  refine l_callG (awake24_ _) ?_
  refine goM ?_
  exact end_1 (by first | exact .inl rfl | exact .inr rfl) ⟨rfl, hM.pre⟩

theorem fold_first {c : Cfg} {es : List Ev} {id : Int} : (foldR c es id 0 = (firstKR c id, 0) ∧ firstER c id = 0) ∨ (foldR c es id 0 = (noChk, 2400) ∧ ((firstER c id != 0) || !eventsMay es c.m) = true) := by
  cases hok : foldOk c es id 0 with
  | true =>
    obtain ⟨h1, h2, h3, h4, h5⟩ := foldOk_split hok
    left
    obtain ⟨hm2, _⟩ := cfgMay_split h1
    refine ⟨foldR_some hok (foldK_zero h2 h3.1 h3.2), ?_⟩
    unfold firstER
    rw [if_pos]
    unfold firstOk
    rw [h1, wrap_m hm2, within_iff.2 ⟨h3.1, by omega⟩]; rfl
  | false =>
    right
    refine ⟨foldR_no hok, ?_⟩
    cases hev : eventsMay es c.m with
    | false => simp
    | true =>
      unfold foldOk at hok
      rw [hev] at hok
      have h0 : decide ((0 : Int) ≤ 0) = true := rfl
      have h1 : decide ((0 : Int) ≤ (manyOf es id : Int)) = true := decide_eq_true (by omega)
      rw [h0, h1] at hok
      simp only [Bool.and_true] at hok
      unfold firstER firstOk
      rw [hok]; rfl

theorem law_foldFirst {D : Type} (K : Heap) (vs : List V) (ds : List (DataW D)) (ro : Ro K) (h : RdAll T K [26, 27, 3] vs ds) : ∃ K', Call Tryz.prog 4 vs K (.bool true) K' := by
  obtain ⟨v1, vs, d1, ds, rfl, rfl, hv1, h⟩ := rdAll_cons h
  obtain ⟨v2, vs, d2, ds, rfl, rfl, hv2, h⟩ := rdAll_cons h
  obtain ⟨v3, vs, d3, ds, rfl, rfl, hv3, h⟩ := rdAll_cons h
  obtain ⟨rfl, rfl⟩ := rdAll_nil h
  obtain ⟨c, rv, rfl, hr, cf⟩ := rd_config hv1
  obtain ⟨es, hes, hel⟩ := rd_events hv2
  obtain ⟨id, rfl, _⟩ := hv3.int T3 rfl
  clear hv1 hv2 hv3 h
  have s1 := hes.cells
  have s3 : rv.cells = [rv] ∧ rv.isTup = false := by obtain ⟨_, h, _⟩ := hr; exact h.cells
  have hP := fun H rv v hr hs => foldOf_ H c rv v es id 0 hr cf hs (by omega)
  have hG := fun H rv hr => ref_First H c rv id hr cf
  have hE := fun H hs => eventsMayRef H v2 es c.m hs (by omega)
  have hlaw := fold_first (c := c) (es := es) (id := id)
  have kf := firstKR_fit c id
  generalize eventsMay es c.m = q at *
  generalize foldR c es id 0 = o at *
  generalize firstKR c id = k at *
  generalize firstSR c id = S at *
  generalize firstER c id = E at *
  refine ⟨K, ?_⟩
  refine call_pure fit mixed Tryz.func4 rfl rfl rfl (by kernel_rfl) rfl fun hM => ?_
  refine wq_seq (wq_line ?_)
  refine l_boxM T26 fun b1 H1 hM => ?_
  refine goM ?_
  refine l_callG (awake24_ _) ?_
  refine goM ?_
  obtain ⟨_, H2, c1, a1, a2, rfl, m1⟩ := hP H1 rv v2 (hr.mono hM.pre) (hes.mono hM.pre)
  refine l_callG c1 ?_
  have s4 := (m1.sl .here).cells
  have s5 := (m1.sl (.there .here)).cells
  replace hM := hM.call2 m1
  clear c1 m1
  refine goM ?_
  refine l_newM (cs := zeroChk) T34 rfl fun b2 H3 hM => ?_
  refine l_putM T34 fun H4 hM => ?_
  refine goM ?_
  obtain ⟨_, H5, c1, e1, e2, rfl, m1⟩ := hG H4 rv (hr.mono hM.pre)
  refine l_callG c1 ?_
  have s6 := (m1.sl .here).cells
  have s7 := (m1.sl (.there .here)).cells
  replace hM := hM.call2 m1
  clear c1 m1
  refine goM ?_
  refine l_newM (cs := zeroMem) T48 rfl fun b3 H6 hM => ?_
  refine l_putM T48 fun H7 hM => ?_
  refine goM ?_
  refine l_callG (num_ _ _) ?_
  rcases hlaw with ⟨rfl, rfl⟩ | ⟨rfl, hlaw⟩
  · have c1 := sameK_ H7 a1 a2 e1 e2 k k ⟨hM.slG, hM.slG⟩ ⟨hM.slG, hM.slG⟩ kf
    rw [kEq_self] at c1
    refine goM ?_
    refine l_callG c1 ?_
    refine goM ?_
    exact end_1 (by first | exact .inl rfl | exact .inr rfl) ⟨rfl, hM.pre⟩
  · have c1 := hE H7 (hes.mono hM.pre)
    obtain ⟨z, hz⟩ : ∃ z, (E != 0) = z := ⟨_, rfl⟩
    rw [hz] at hlaw
    cases z with
    | true =>
      clear hlaw
      refine goM ?_
      exact end_1 (by first | exact .inl rfl | exact .inr rfl) ⟨rfl, hM.pre⟩
    | false =>
      cases q with
      | true => cases hlaw
      | false =>
        clear hlaw
        refine goM ?_
        refine l_callG c1 ?_
        refine goM ?_
        exact end_1 (by first | exact .inl rfl | exact .inr rfl) ⟨rfl, hM.pre⟩

theorem fold_cut {c : Cfg} {es : List Ev} {id a : Int} {i : Nat} (hi : i ≤ es.length) : ((foldR c (es.take i) id a).2 = 0 ∧ (foldR c es id a).2 = 0 ∧ (foldR c es id a).1 = (foldR c (es.take i) id a).1 ∧ (foldR c es id a).1.Fit) ∨ ((foldR c (es.take i) id a).2 = 2400) ∨ ((foldR c (es.take i) id a).2 = 0 ∧ (foldR c es id a).2 = 2400 ∧ eventsMay es c.m = false) := by
  rcases foldR_cases c (es.take i) id a with ⟨k, h1, h2, h3, h4⟩ | h
  · cases hev : eventsMay es c.m with
    | true =>
      left
      rw [fold_more hi hev h1, h4]
      exact ⟨rfl, rfl, rfl, kFits_fit h3⟩
    | false =>
      right; right
      rw [h4]
      refine ⟨rfl, ?_, rfl⟩
      rw [foldR_no (by unfold foldOk; rw [hev]; simp)]
  · right; left
    rw [h]

theorem law_foldMore {D : Type} (K : Heap) (vs : List V) (ds : List (DataW D)) (ro : Ro K) (h : RdAll T K [26, 27, 3, 3, 3] vs ds) : ∃ K', Call Tryz.prog 5 vs K (.bool true) K' := by
  obtain ⟨v1, vs, d1, ds, rfl, rfl, hv1, h⟩ := rdAll_cons h
  obtain ⟨v2, vs, d2, ds, rfl, rfl, hv2, h⟩ := rdAll_cons h
  obtain ⟨v3, vs, d3, ds, rfl, rfl, hv3, h⟩ := rdAll_cons h
  obtain ⟨v4, vs, d4, ds, rfl, rfl, hv4, h⟩ := rdAll_cons h
  obtain ⟨v5, vs, d5, ds, rfl, rfl, hv5, h⟩ := rdAll_cons h
  obtain ⟨rfl, rfl⟩ := rdAll_nil h
  obtain ⟨c, rv, rfl, hr, cf⟩ := rd_config hv1
  obtain ⟨es, hes, hel⟩ := rd_events hv2
  obtain ⟨id, rfl, _⟩ := hv3.int T3 rfl
  obtain ⟨at_, rfl, _⟩ := hv4.int T3 rfl
  obtain ⟨m, rfl, _⟩ := hv5.int T3 rfl
  clear hv1 hv2 hv3 hv4 hv5 h
  have s1 := hes.cells
  have s3 : rv.cells = [rv] ∧ rv.isTup = false := by obtain ⟨_, h, _⟩ := hr; exact h.cells
  have hlen := hes.len T27 rfl
  have u0 : ∀ n : Int, 0 ≤ n → n < 9223372036854775807 → IntKind.u64.wrap n = n := fun n h1 h2 => by
    unfold IntKind.wrap
    simp only [IntKind.bits, IntKind.signed, Bool.false_and, Bool.false_eq_true, if_false, Int.reducePow]
    omega
  have w1 : IntKind.i64.wrap ((es.length : Int) + 1) = (es.length : Int) + 1 := wrap_succ (by omega)
  have w2 : IntKind.u64.wrap ((es.length : Int) + 1) = (es.length : Int) + 1 := u0 _ (by omega) (by omega)
  have hne : ¬ ((es.length : Int) + 1 = 0) := by omega
  obtain ⟨q, hq, hqe⟩ : ∃ q : Nat, q ≤ es.length ∧ (IntKind.u64.wrap m).tmod ((es.length : Int) + 1) = (q : Int) := by
    have h0 : 0 ≤ IntKind.u64.wrap m := by
      unfold IntKind.wrap
      simp only [IntKind.bits, IntKind.signed, Bool.false_and, Bool.false_eq_true, if_false, Int.reducePow]
      omega
    have h1 := Int.tmod_nonneg ((es.length : Int) + 1) h0
    have h2 := Int.tmod_lt_of_pos (IntKind.u64.wrap m) (b := (es.length : Int) + 1) (by omega)
    exact ⟨((IntKind.u64.wrap m).tmod ((es.length : Int) + 1)).toNat, by omega, by omega⟩
  have w3 : IntKind.i64.wrap (q : Int) = (q : Int) := wrap_nat (by omega)
  obtain ⟨x, hx, hcut⟩ := hes.take hq
  have s2 := hcut.cells
  have hP := fun H rv v hr hs => foldOf_ H c rv v (es.take q) id at_ hr cf hs (by rw [List.length_take]; omega)
  have hQ := fun H rv v hr hs => foldOf_ H c rv v es id at_ hr cf hs (by omega)
  have hE := fun H hs => eventsMayRef H v2 es c.m hs (by omega)
  have hlaw := fold_cut (c := c) (es := es) (id := id) (a := at_) hq
  generalize foldR c es id at_ = o2 at *
  generalize foldR c (es.take q) id at_ = o1 at *
  generalize eventsMay es c.m = z at *
  obtain ⟨k1, f1⟩ := o1
  obtain ⟨k2, f2⟩ := o2
  simp only at hP hQ hlaw
  clear u0 hq
  refine ⟨K, ?_⟩
  refine call_pure fit mixed Tryz.func5 rfl rfl rfl (by kernel_rfl) rfl fun hM => ?_
  refine wq_seq (wq_line ?_)
  refine l_boxM T26 fun b1 H1 hM => ?_
  refine goM ?_
  refine l_callG (awake24_ _) ?_
  refine goM ?_
  obtain ⟨_, H2, c1, a1, a2, rfl, m1⟩ := hP H1 rv x (hr.mono hM.pre) (hcut.mono hM.pre)
  refine d_callG c1 (.inl m1.pre) ?_
  have s4 := (m1.sl .here).cells
  have s5 := (m1.sl (.there .here)).cells
  replace hM := hM.call2 m1
  clear c1 m1
  refine goM ?_
  refine d_newM (cs := zeroChk) T34 rfl fun b2 H3 hM => ?_
  refine d_putM T34 fun H4 hM => ?_
  refine goM ?_
  obtain ⟨_, H5, c1, e1, e2, rfl, m1⟩ := hQ H4 rv v2 (hr.mono hM.pre) (hes.mono hM.pre)
  refine l_callG c1 ?_
  have s6 := (m1.sl .here).cells
  have s7 := (m1.sl (.there .here)).cells
  replace hM := hM.call2 m1
  clear c1 m1
  refine goM ?_
  refine l_newM (cs := zeroChk) T34 rfl fun b3 H6 hM => ?_
  refine l_putM T34 fun H7 hM => ?_
  refine goM ?_
  refine l_callG (num_ _ _) ?_
  rcases hlaw with ⟨rfl, rfl, hk, kf⟩ | rfl | ⟨rfl, rfl, rfl⟩
  · subst hk
    refine goM ?_
    refine l_callG (num_ _ _) ?_
    have c1 := sameK_ H7 a1 a2 e1 e2 k2 k2 ⟨hM.slG, hM.slG⟩ ⟨hM.slG, hM.slG⟩ kf
    rw [kEq_self] at c1
    refine goM ?_
    refine l_callG c1 ?_
    refine goM ?_
    obtain ⟨_, H8, c2, y, yv, rfl, m0⟩ := small24_ H7
    have hl3 := (m0.fact .here).1.len T24 rfl
    rw [(m0.fact .here).2.1] at hl3
    refine l_callG c2 ?_
    replace hM := hM.grow m0.pre
    clear m0
    refine goM ?_
    exact end_1 (by first | exact .inl rfl | exact .inr rfl) ⟨rfl, hM.pre⟩
  · refine goM ?_
    refine l_callG (num_ _ _) ?_
    refine goM ?_
    exact end_1 (by first | exact .inl rfl | exact .inr rfl) ⟨rfl, hM.pre⟩
  · have c1 := hE H7 (hes.mono hM.pre)
    refine goM ?_
    refine l_callG (num_ _ _) ?_
    refine goM ?_
    refine l_callG (num_ _ _) ?_
    refine goM ?_
    refine l_callG c1 ?_
    refine goM ?_
    exact end_1 (by first | exact .inl rfl | exact .inr rfl) ⟨rfl, hM.pre⟩
end Go.Proofs.YtengdmagaeckoaaGreat.VM
