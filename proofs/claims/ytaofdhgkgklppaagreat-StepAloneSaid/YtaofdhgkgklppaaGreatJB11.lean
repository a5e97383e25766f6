/- Joined texts: EvB, CtlD, CtlE, CtlF, EvF, CtlG, FoldV, FoldW, StepB, StepC, StepE, StepD. -/
import Derived.Test.YtaofdhgkgklppaaGreatJB8
import Derived.Test.YtaofdhgkgklppaaGreatJB10
namespace Go.Proofs.YtaofdhgkgklppaaGreat.VM
open Go
set_option linter.unusedVariables false
set_option linter.unusedSimpArgs false
attribute [local irreducible] wq wqL wqD wqE wqO Th Bk EndR
set_option maxHeartbeats 8000000
theorem exploredRef (H : Heap) (v : V) (es : List Ev) (m : Int) (hes : Sl 6 evC H v es) (hl : es.length ≤ 2 ^ 47) : Call Tryz.prog 168 [v, .int .i64 m] H (.bool (explored es m)) H := by
 refine call_plain fit mixed Tryz.func168 rfl rfl rfl (by kernel_rfl) rfl ?_
 have hlen := hes.len T30 rfl
 have hw0 : IntKind.i64.wrap ((es.length : Int) - 1) = (es.length : Int) - 1 := wrap_i64 (by omega) (by omega)
 refine goW ?_
 refine wq_loop (fun c ρ h => c ≤ es.length ∧ h = H ∧ explored es m = explored (es.take c) m ∧ ρ 0 = v ∧ ρ 1 = .int .i64 m ∧ ρ 5 = .int .i64 ((c : Int) - 1)) (m := es.length) ⟨Nat.le_refl _, rfl, by simp, rfl, rfl, by simp [put_app, put_none, *]⟩ ?_
 rintro c ρ h ⟨hc, rfl, hsame, h0, h1, h5⟩
 refine goW ?_
 refine cond_go (fun hb => ?_) (fun hb => ?_)
 ·have hk' : 0 < c := by have : (0 : Int) ≤ (c : Int) - 1 := by simpa using hb
                         omega
  obtain ⟨k, rfl⟩ : ∃ k, c = k + 1 := ⟨c - 1, by omega⟩
  replace h5 : ρ 5 = .int .i64 (k : Int) := by rw [h5]; congr 1; omega
  obtain ⟨e, he⟩ : ∃ e, es[k]? = some e := ⟨es[k]'(by omega), by simp⟩
  obtain ⟨b, o, cs, hi, rfl, _, hlo, hlc⟩ := hes.get T30 rfl T61 rfl he
  have ho := loadV_one T3 rfl (hlc 1 _ rfl)
  have ho0 : loadV T 3 h b o = some (.int .i64 e.kind) := loadV_one T3 rfl (hlc 0 _ rfl)
  have hw : IntKind.i64.wrap ((k : Int) - 1) = (k : Int) - 1 := wrap_i64 (by omega) (by omega)
  rw [explored_succ he] at hsame
  refine goW ?_
  refine cond_go (fun hc => ?_) (fun hc => ?_)
  all_goals simp at hc
  ·refine goW ?_
   refine end_finG ?_; simp [put_app, put_none, *]
  ·refine goW ?_
   refine ⟨k, by omega, by omega, rfl, by rw [hsame, if_neg hc], ?_⟩
   simp [put_app, put_none, *]
 ·have hk' : c = 0 := by have : ¬ (0 : Int) ≤ (c : Int) - 1 := by simpa using hb
                         omega
  subst hk'
  refine goW ?_
  refine end_finG ?_; simp [put_app, put_none, *]
  rfl
theorem eventsMayRef (H : Heap) (v : V) (es : List Ev) (n : Int) (hes : Sl 6 evC H v es) (hl : es.length ≤ 2 ^ 47) : Call Tryz.prog 88 [v, .int .i64 n] H (.bool (eventsMay es n)) H := by
 refine call_plain fit mixed Tryz.func88 rfl rfl rfl (by kernel_rfl) rfl ?_
 have hlen := hes.len T30 rfl
 repeat' (first | (refine l_pl ?_; refine l_go ?_) | (refine d_pl ?_; refine d_go ?_) | (refine l_gd ?_; first | refine l_onG ?_ | refine l_offG ?_) | (refine d_gd ?_; first | refine d_onG ?_ | refine d_offG ?_) | refine wq_seq ?_ | refine wq_line ?_ | refine wq_draw (by decide +kernel) ?_ | refine wq_block ?_ | refine l_nil ?_ | refine d_nil ?_ | refine wq_skip ?_ | refine wq_ret ?_ | refine wq_exit ?_ | refine th_normal ?_ | refine th_ret ?_ | refine th_exit ?_ | refine bk_normal ?_ | refine bk_ret ?_ | refine bk_exit ?_ | refine bk_other rfl ?_ | first | refine l_partG (fun hb => ?_) (fun hb => ?_) | refine d_partG (fun hb => ?_) (fun hb => ?_) | refine l_callG (upTo12 ..) ?_)
 ·refine cond_go (fun hb => ?_) (fun hb => ?_)
  ·refine goW ?_
   refine end_finG ?_; simp [put_app, put_none, *]
   simp at hb
   unfold eventsMay
   have : ¬ es.length ≤ 1024 := by omega
   simp [this]
  ·rename_i hn
   have hn : within n 1 8 = true := by simpa using hn
   have hl' : es.length ≤ 1024 := by simp at hb; omega
   refine goW ?_
   have hn' := hn
   simp [within] at hn'
   have hwn : IntKind.i64.wrap (n - 1) = n - 1 := wrap_i64 (by omega) (by omega)
   refine wq_loop (fun c ρ h => ∃ k, k ≤ es.length ∧ c = es.length - k ∧ H <+: h ∧ (∀ (j : Nat) e, j < k → es[j]? = some e → evMay (es.take j) n e = true) ∧ ρ 0 = v ∧ ρ 1 = .int .i64 n ∧ ρ 5 = .int .i64 (k : Nat)) ⟨0, Nat.zero_le _, rfl, List.prefix_refl _, by intro j e hj; omega, rfl, rfl, rfl⟩ ?_
   rintro _ ρ h ⟨k, hk, rfl, hp, hall, h0, h1, h5⟩
   refine goW ?_
   refine cond_go (fun hb => ?_) (fun hb => ?_)
   ·have hk' : k < es.length := by simp at hb; omega
    obtain ⟨e, he⟩ : ∃ e, es[k]? = some e := ⟨es[k], by simp [hk']⟩
    obtain ⟨b, o, cs, hi, rfl, _, hlo, hlc⟩ := (hes.mono hp).get T30 rfl T61 rfl he
    have ho := loadV_agg T61 rfl hlo
    have hw := wrap_succ (n := k) (by omega)
    obtain ⟨u, hsl, hu⟩ := hes.take hk
    have hul : (es.take k).length ≤ 2 ^ 47 := by rw [List.length_take]; omega
    clear hb
    repeat' (first | (refine l_pl ?_; refine l_go ?_) | (refine d_pl ?_; refine d_go ?_) | (refine l_gd ?_; first | refine l_onG ?_ | refine l_offG ?_) | (refine d_gd ?_; first | refine d_onG ?_ | refine d_offG ?_) | refine wq_seq ?_ | refine wq_line ?_ | refine wq_draw (by decide +kernel) ?_ | refine wq_block ?_ | refine l_nil ?_ | refine d_nil ?_ | refine wq_skip ?_ | refine wq_ret ?_ | refine wq_exit ?_ | refine th_normal ?_ | refine th_ret ?_ | refine th_exit ?_ | refine bk_normal ?_ | refine bk_ret ?_ | refine bk_exit ?_ | refine bk_other rfl ?_ | refine l_callG (upTo12 ..) ?_)
    refine cond_go (fun hc => ?_) (fun hc => ?_)
    ·simp at hc
     have hev := evMay_0 (es := es.take k) (n := n) hc
     repeat' (first | (refine l_pl ?_; refine l_go ?_) | (refine d_pl ?_; refine d_go ?_) | (refine l_gd ?_; first | refine l_onG ?_ | refine l_offG ?_) | (refine d_gd ?_; first | refine d_onG ?_ | refine d_offG ?_) | refine wq_seq ?_ | refine wq_line ?_ | refine wq_draw (by decide +kernel) ?_ | refine wq_block ?_ | refine l_nil ?_ | refine d_nil ?_ | refine wq_skip ?_ | refine wq_ret ?_ | refine wq_exit ?_ | refine th_normal ?_ | refine th_ret ?_ | refine th_exit ?_ | refine bk_normal ?_ | refine bk_ret ?_ | refine bk_exit ?_ | refine bk_other rfl ?_ | first | refine l_partG (fun hb => ?_) (fun hb => ?_) | refine d_partG (fun hb => ?_) (fun hb => ?_) | refine cond_go (fun hb => ?_) (fun hb => ?_))
     all_goals first
      | (refine end_ret (by simp only [resRf, resRs, resR]; first | done | rfl) (no_more he (by simp [put_app, put_none, *]) (by rw [hev]; first | (simp_all; done) | (simp_all; omega)) (by first | exact List.prefix_refl _ | exact List.prefix_append _ _ | assumption | (refine List.IsPrefix.trans (by assumption) (List.prefix_append _ _)) | (simp only [List.append_assoc, List.cons_append, List.nil_append, List.set_cons_zero, List.set_cons_succ]; exact ⟨_, by simp only [List.append_assoc, List.cons_append, List.nil_append]; rfl⟩))); done)
      | (refine ⟨es.length - (k + 1), by omega, k + 1, hk', rfl, by first | exact List.prefix_refl _ | exact List.prefix_append _ _ | assumption | (refine List.IsPrefix.trans (by assumption) (List.prefix_append _ _)) | (simp only [List.append_assoc, List.cons_append, List.nil_append, List.set_cons_zero, List.set_cons_succ]; exact ⟨_, by simp only [List.append_assoc, List.cons_append, List.nil_append]; rfl⟩), all_succ hall he (by rw [hev]; first | (simp_all; done) | (simp_all; omega)), ?_⟩; simp [put_app, put_none, *]; done)
    ·simp at hc
     repeat' (first | (refine l_pl ?_; refine l_go ?_) | (refine d_pl ?_; refine d_go ?_) | (refine l_gd ?_; first | refine l_onG ?_ | refine l_offG ?_) | (refine d_gd ?_; first | refine d_onG ?_ | refine d_offG ?_) | refine wq_seq ?_ | refine wq_line ?_ | refine wq_draw (by decide +kernel) ?_ | refine wq_block ?_ | refine l_nil ?_ | refine d_nil ?_ | refine wq_skip ?_ | refine wq_ret ?_ | refine wq_exit ?_ | refine th_normal ?_ | refine th_ret ?_ | refine th_exit ?_ | refine bk_normal ?_ | refine bk_ret ?_ | refine bk_exit ?_ | refine bk_other rfl ?_)
     refine cond_go (fun hc1 => ?_) (fun hc1 => ?_)
     ·simp at hc1
      have hev := evMay_1 (es := es.take k) (n := n) hc1
      have hcall := fun H' (hp' : H <+: H') m => manyRef H' u (es.take k) m (hu.mono hp') hul
      repeat' (first | (refine l_pl ?_; refine l_go ?_) | (refine d_pl ?_; refine d_go ?_) | (refine l_gd ?_; first | refine l_onG ?_ | refine l_offG ?_) | (refine d_gd ?_; first | refine d_onG ?_ | refine d_offG ?_) | refine wq_seq ?_ | refine wq_line ?_ | refine wq_draw (by decide +kernel) ?_ | refine wq_block ?_ | refine l_nil ?_ | refine d_nil ?_ | refine wq_skip ?_ | refine wq_ret ?_ | refine wq_exit ?_ | refine th_normal ?_ | refine th_ret ?_ | refine th_exit ?_ | refine bk_normal ?_ | refine bk_ret ?_ | refine bk_exit ?_ | refine bk_other rfl ?_ | refine d_call0G (upTo12 ..) ?_ | refine d_call0G (hcall _ (by first | exact List.prefix_refl _ | exact List.prefix_append _ _ | assumption | (refine List.IsPrefix.trans (by assumption) (List.prefix_append _ _)) | (simp only [List.append_assoc, List.cons_append, List.nil_append, List.set_cons_zero, List.set_cons_succ]; exact ⟨_, by simp only [List.append_assoc, List.cons_append, List.nil_append]; rfl⟩)) _) ?_ | first | refine l_partG (fun hb => ?_) (fun hb => ?_) | refine d_partG (fun hb => ?_) (fun hb => ?_) | refine cond_go (fun hb => ?_) (fun hb => ?_))
      all_goals first
       | (refine end_ret (by simp only [resRf, resRs, resR]; first | done | rfl) (no_more he (by simp [put_app, put_none, *]) (by rw [hev]; first | (simp_all; done) | (simp_all; omega)) (by first | exact List.prefix_refl _ | exact List.prefix_append _ _ | assumption | (refine List.IsPrefix.trans (by assumption) (List.prefix_append _ _)) | (simp only [List.append_assoc, List.cons_append, List.nil_append, List.set_cons_zero, List.set_cons_succ]; exact ⟨_, by simp only [List.append_assoc, List.cons_append, List.nil_append]; rfl⟩))); done)
       | (refine ⟨es.length - (k + 1), by omega, k + 1, hk', rfl, by first | exact List.prefix_refl _ | exact List.prefix_append _ _ | assumption | (refine List.IsPrefix.trans (by assumption) (List.prefix_append _ _)) | (simp only [List.append_assoc, List.cons_append, List.nil_append, List.set_cons_zero, List.set_cons_succ]; exact ⟨_, by simp only [List.append_assoc, List.cons_append, List.nil_append]; rfl⟩), all_succ hall he (by rw [hev]; first | (simp_all; done) | (simp_all; omega)), ?_⟩; simp [put_app, put_none, *]; done)
     ·simp at hc1
      repeat' (first | (refine l_pl ?_; refine l_go ?_) | (refine d_pl ?_; refine d_go ?_) | (refine l_gd ?_; first | refine l_onG ?_ | refine l_offG ?_) | (refine d_gd ?_; first | refine d_onG ?_ | refine d_offG ?_) | refine wq_seq ?_ | refine wq_line ?_ | refine wq_draw (by decide +kernel) ?_ | refine wq_block ?_ | refine l_nil ?_ | refine d_nil ?_ | refine wq_skip ?_ | refine wq_ret ?_ | refine wq_exit ?_ | refine th_normal ?_ | refine th_ret ?_ | refine th_exit ?_ | refine bk_normal ?_ | refine bk_ret ?_ | refine bk_exit ?_ | refine bk_other rfl ?_)
      refine cond_go (fun hc2 => ?_) (fun hc2 => ?_)
      ·simp at hc2
       have hev := evMay_2 (es := es.take k) (n := n) hc2
       have hcall := fun H' (hp' : H <+: H') m => exploredRef H' u (es.take k) m (hu.mono hp') hul
       repeat' (first | (refine l_pl ?_; refine l_go ?_) | (refine d_pl ?_; refine d_go ?_) | (refine l_gd ?_; first | refine l_onG ?_ | refine l_offG ?_) | (refine d_gd ?_; first | refine d_onG ?_ | refine d_offG ?_) | refine wq_seq ?_ | refine wq_line ?_ | refine wq_draw (by decide +kernel) ?_ | refine wq_block ?_ | refine l_nil ?_ | refine d_nil ?_ | refine wq_skip ?_ | refine wq_ret ?_ | refine wq_exit ?_ | refine th_normal ?_ | refine th_ret ?_ | refine th_exit ?_ | refine bk_normal ?_ | refine bk_ret ?_ | refine bk_exit ?_ | refine bk_other rfl ?_ | refine d_call0G (hyperMay1 ..) ?_ | refine d_call0G (hcall _ (by first | exact List.prefix_refl _ | exact List.prefix_append _ _ | assumption | (refine List.IsPrefix.trans (by assumption) (List.prefix_append _ _)) | (simp only [List.append_assoc, List.cons_append, List.nil_append, List.set_cons_zero, List.set_cons_succ]; exact ⟨_, by simp only [List.append_assoc, List.cons_append, List.nil_append]; rfl⟩)) _) ?_ | first | refine l_partG (fun hb => ?_) (fun hb => ?_) | refine d_partG (fun hb => ?_) (fun hb => ?_) | refine cond_go (fun hb => ?_) (fun hb => ?_))
       all_goals first
        | (refine end_ret (by simp only [resRf, resRs, resR]; first | done | rfl) (no_more he (by simp [put_app, put_none, *]) (by rw [hev]; first | (simp_all; done) | (simp_all; omega)) (by first | exact List.prefix_refl _ | exact List.prefix_append _ _ | assumption | (refine List.IsPrefix.trans (by assumption) (List.prefix_append _ _)) | (simp only [List.append_assoc, List.cons_append, List.nil_append, List.set_cons_zero, List.set_cons_succ]; exact ⟨_, by simp only [List.append_assoc, List.cons_append, List.nil_append]; rfl⟩))); done)
        | (refine ⟨es.length - (k + 1), by omega, k + 1, hk', rfl, by first | exact List.prefix_refl _ | exact List.prefix_append _ _ | assumption | (refine List.IsPrefix.trans (by assumption) (List.prefix_append _ _)) | (simp only [List.append_assoc, List.cons_append, List.nil_append, List.set_cons_zero, List.set_cons_succ]; exact ⟨_, by simp only [List.append_assoc, List.cons_append, List.nil_append]; rfl⟩), all_succ hall he (by rw [hev]; first | (simp_all; done) | (simp_all; omega)), ?_⟩; simp [put_app, put_none, *]; done)
      ·simp at hc2
       have hev := evMay_3 (es := es.take k) (n := n) hc hc1 hc2
       repeat' (first | (refine l_pl ?_; refine l_go ?_) | (refine d_pl ?_; refine d_go ?_) | (refine l_gd ?_; first | refine l_onG ?_ | refine l_offG ?_) | (refine d_gd ?_; first | refine d_onG ?_ | refine d_offG ?_) | refine wq_seq ?_ | refine wq_line ?_ | refine wq_draw (by decide +kernel) ?_ | refine wq_block ?_ | refine l_nil ?_ | refine d_nil ?_ | refine wq_skip ?_ | refine wq_ret ?_ | refine wq_exit ?_ | refine th_normal ?_ | refine th_ret ?_ | refine th_exit ?_ | refine bk_normal ?_ | refine bk_ret ?_ | refine bk_exit ?_ | refine bk_other rfl ?_ | refine cond_go (fun hb => ?_) (fun hb => ?_))
       all_goals first
        | (refine end_ret (by simp only [resRf, resRs, resR]; first | done | rfl) (no_more he (by simp [put_app, put_none, *]) (by rw [hev]) (by first | exact List.prefix_refl _ | exact List.prefix_append _ _ | assumption | (refine List.IsPrefix.trans (by assumption) (List.prefix_append _ _)) | (simp only [List.append_assoc, List.cons_append, List.nil_append, List.set_cons_zero, List.set_cons_succ]; exact ⟨_, by simp only [List.append_assoc, List.cons_append, List.nil_append]; rfl⟩))); done)
        | (simp at hb; done)
   ·have hk' : k = es.length := by simp at hb; omega
    subst hk'
    refine goW ?_
    refine end_finG ?_; simp [put_app, put_none, *]
    exact (eventsMay_yes hn hl' fun j e he => hall j e (List.getElem?_eq_some_iff.1 he).1 he)
 ·have hn : within n 1 8 = false := by simpa using hb
  repeat' (first | (refine l_pl ?_; refine l_go ?_) | (refine d_pl ?_; refine d_go ?_) | (refine l_gd ?_; first | refine l_onG ?_ | refine l_offG ?_) | (refine d_gd ?_; first | refine d_onG ?_ | refine d_offG ?_) | refine wq_seq ?_ | refine wq_line ?_ | refine wq_draw (by decide +kernel) ?_ | refine wq_block ?_ | refine l_nil ?_ | refine d_nil ?_ | refine wq_skip ?_ | refine wq_ret ?_ | refine wq_exit ?_ | refine th_normal ?_ | refine th_ret ?_ | refine th_exit ?_ | refine bk_normal ?_ | refine bk_ret ?_ | refine bk_exit ?_ | refine bk_other rfl ?_ | refine cond_go (fun hb => ?_) (fun hb => ?_))
  all_goals first
   | (simp at hb; done)
   | (refine end_finG ?_; simp [put_app, put_none, *]; simp [eventsMay, hn]; done)
def putE (k : Chk) : Int := if kMay k = true then 0 else 1400
def putT (k : Chk) : ByteArray := if kMay k = true then textK k else ⟨#[]⟩
theorem refPutK_ (H : Heap) (w v : V) (k : Chk) (hk : KAt H w v k) (hf : k.Fit) : Call Tryz.prog 90 [.agg (kC w v k)] H (.tup [.str (putT k), .int .i64 (putE k)]) H := by
 have l1 := hf.ws
 have l2 := hf.vs
 unfold putT putE
 cases hm : kMay k with
 | true => exact refPut_good H w v k.ws k.vs k.r k.m k.t hk.ws hk.vs hm
 | false =>
  have s1 := hk.ws.cells
  have s2 := hk.vs.cells
  rw [if_neg (by decide), if_neg (by decide)]
  refine call_pure fit mixed Tryz.func90 rfl rfl rfl (by kernel_rfl) rfl fun hM => ?_
  refine wq_seq (wq_line ?_)
  refine l_boxM T45 fun b1 H1 hM => ?_
  have c1 := refChkMay_ H1 w v k.ws k.vs k.r k.m k.t (hk.ws.mono hM.pre) (hk.vs.mono hM.pre) (by omega) (by omega)
  unfold kMay at hm
  rw [hm] at c1
  clear hm
  refine goM ?_
  refine l_callG c1 ?_
  refine goM ?_
  exact end_2 (by first | exact .inl rfl | exact .inr rfl) ⟨rfl, hM.pre⟩
def docOk (s : St) (m : Chk × Int) : Bool := kMay m.1 && ((getS s.st m.2).2 && (txEq (getS s.st m.2).1 (textK m.1) && (fits s.c.i s.c.h m.1.ws && decide (m.1.t ≤ s.c.total))))
theorem docOk_eq (s : St) (m : Chk × Int) : docOk s m = (memOk s.c m && headOk s.st m) := by
 unfold docOk memOk headOk kFits memFits kMay
 cases chkMay m.1.ws m.1.vs m.1.r m.1.m m.1.t <;> cases (getS s.st m.2).2 <;> cases txEq (getS s.st m.2).1 (textK m.1) <;> cases fits s.c.i s.c.h m.1.ws <;> simp
theorem doc_all (s : St) : s.ms.all (docOk s) = (s.ms.all (memOk s.c) && s.ms.all (headOk s.st)) := by
 rw [Bool.eq_iff_iff, Bool.and_eq_true, List.all_eq_true, List.all_eq_true, List.all_eq_true]
 constructor
 ·intro h
  refine ⟨fun x hx => ?_, fun x hx => ?_⟩
  ·have := h x hx; rw [docOk_eq, Bool.and_eq_true] at this; exact this.1
  ·have := h x hx; rw [docOk_eq, Bool.and_eq_true] at this; exact this.2
 ·intro h x hx
  rw [docOk_eq, h.1 x hx, h.2 x hx]; rfl
theorem stateMay_doc (s : St) : stateMay s = (cfgMay s.c && (decide ((s.ms.length : Int) = s.c.m) && (eventsMay s.es s.c.m && (storeMay s.st && (s.ms.all (docOk s) && s.st.all (entHeld s.ms)))))) := by
 rw [doc_all]
 unfold stateMay heads
 cases cfgMay s.c <;> cases decide ((s.ms.length : Int) = s.c.m) <;> cases eventsMay s.es s.c.m <;> cases storeMay s.st <;> cases s.ms.all (memOk s.c) <;> cases s.ms.all (headOk s.st) <;> simp
theorem refStateMay_ (H : Heap) (s : St) (rv mv ev sv : V) (xs : List MR) (ha : StAt H rv mv ev sv xs s) (hf : s.Fit) :
  Call Tryz.prog 31 [.agg (stC s.c rv mv ev sv)] H (.bool (stateMay s)) H := by
 have l1 := hf.c.rows
 have l2 := hf.c.row
 have l3 := hf.ms
 have l4 := hf.es
 have l5 := hf.st
 have s1 : rv.cells = [rv] ∧ rv.isTup = false := by obtain ⟨_, h, _⟩ := ha.rows; exact h.cells
 have s2 := ha.ms.cells
 have s3 := ha.es.cells
 have s4 := ha.st.cells
 have hxl := ha.len
 have hkx := hf.kx ha
 obtain ⟨n, hn⟩ : ∃ n, s.ms.length = n := ⟨_, rfl⟩
 have hlen := ha.ms.len T29 rfl
 rw [hxl, hn] at hlen
 obtain ⟨ns, hns⟩ : ∃ n, s.st.length = n := ⟨_, rfl⟩
 have hlenS := ha.st.len T31 rfl
 rw [hns] at hlenS
 refine call_pure fit mixed Tryz.func31 rfl rfl rfl (by kernel_rfl) rfl fun hM => ?_
 refine wq_seq (wq_line ?_)
 refine l_boxM T33 fun b1 H1 hM => ?_
 have c1 := refConfMay_ H1 s.c rv (ha.rows.mono hM.pre) (by omega) (fun r hr => by have := l2 r hr; omega)
 have c3 := eventsMayRef H1 ev s.es s.c.m (ha.es.mono hM.pre) (by omega)
 have c4 := refStoreMay_ H1 sv s.st (ha.st.mono hM.pre) (by omega)
 rw [stateMay_doc]
 obtain ⟨q1, e1⟩ : ∃ q, cfgMay s.c = q := ⟨_, rfl⟩
 obtain ⟨q2, e2⟩ : ∃ q, decide ((s.ms.length : Int) = s.c.m) = q := ⟨_, rfl⟩
 obtain ⟨q4, e4⟩ : ∃ q, eventsMay s.es s.c.m = q := ⟨_, rfl⟩
 obtain ⟨q5, e5⟩ : ∃ q, storeMay s.st = q := ⟨_, rfl⟩
 have d2 : ((n : Int) != s.c.m) = !q2 := by rw [← e2, hn]; by_cases h : (n : Int) = s.c.m <;> simp [h]
 rw [e1, e2, e4, e5]
 rw [e1] at c1
 rw [e4] at c3
 rw [e5] at c4
 clear e1 e2 e4 e5
 cases q1 with
 | false =>
  refine goM ?_
  refine l_callG c1 ?_
  refine goM ?_
  exact end_1 (by first | exact .inl rfl | exact .inr rfl) ⟨rfl, hM.pre⟩
 | true =>
 cases q2 with
 | false =>
  refine goM ?_
  refine l_callG c1 ?_
  refine goM ?_
  exact end_1 (by first | exact .inl rfl | exact .inr rfl) ⟨rfl, hM.pre⟩
 | true =>
 cases q4 with
 | false =>
  refine goM ?_
  refine l_callG c1 ?_
  refine goM ?_
  refine l_callG c3 ?_
  refine goM ?_
  exact end_1 (by first | exact .inl rfl | exact .inr rfl) ⟨rfl, hM.pre⟩
 | true =>
 cases q5 with
 | false =>
  refine goM ?_
  refine l_callG c1 ?_
  refine goM ?_
  refine l_callG c3 ?_
  refine goM ?_
  refine l_callG c4 ?_
  refine goM ?_
  exact end_1 (by first | exact .inl rfl | exact .inr rfl) ⟨rfl, hM.pre⟩
 | true =>
  simp only [Bool.true_and]
  refine goM ?_
  refine l_callG c1 ?_
  refine goM ?_
  refine l_callG c3 ?_
  refine goM ?_
  refine l_callG c4 ?_
  clear c1 c3 c4 d2
  refine goM ?_
  refine wq_loop (fun cc ρ h => ∃ (k : Nat), k ≤ n ∧ cc = n - k ∧ (∀ (j : Nat) x, j < k → s.ms[j]? = some x → docOk s x = true) ∧ Mem H h [.box b1 (stC s.c rv mv ev sv)] ∧ ρ 1 = .ptr b1 0 ∧ ρ 3 = .int .i64 (k : Int)) ⟨0, Nat.zero_le _, rfl, fun j x hj => by omega, hM, by simp [put_app, put_none, rho0_app, *]⟩ ?_
  clear hM
  rintro _ ρ h ⟨k, hk, rfl, hok, hM, g1, g3⟩
  refine goM ?_
  refine cond_go (fun hb => ?_) (fun hb => ?_)
  ·have hk' : k < n := by simpa using hb
   clear hb
   obtain ⟨x, hx⟩ : ∃ x, xs[k]? = some x := ⟨xs[k]'(by omega), by simp⟩
   have hxm := List.mem_of_getElem? hx
   have hka := ha.ks x hxm
   have hkf := hkx x hxm
   have hmx : s.ms[k]? = some x.val := by rw [← ha.val, List.getElem?_map, hx]; rfl
   have t1 := hka.ws.cells
   have t2 := hka.vs.cells
   have hw := wrap_succ (n := k) (by omega)
   have hbad : docOk s x.val = false → s.ms.all (docOk s) = false := fun h => by
    rw [List.all_eq_false]
    exact ⟨x.val, List.mem_of_getElem? hmx, by rw [h]; decide⟩
   have hdd : docOk s x.val = (kMay x.k && ((getS s.st x.h).2 && (txEq (getS s.st x.h).1 (textK x.k) && (fits s.c.i s.c.h x.k.ws && decide (x.k.t ≤ s.c.total))))) := rfl
   obtain ⟨bo, o, hi, lo, loK, loH⟩ := mr_at (ha.ms.mono hM.pre) hx
   clear lo
   refine goM ?_
   refine l_newM (cs := zeroChk) T45 rfl fun b4 H4 hM => ?_
   refine l_putM T45 fun H5 hM => ?_
   clear loK loH
   obtain ⟨bo2, o2, hi2, _, _, loH⟩ := mr_at (ha.ms.mono hM.pre) hx
   rw [hi] at hi2
   cases hi2
   have c1 := refGet15_ H5 sv s.st x.h (ha.st.mono hM.pre) (by omega)
   have c2 := refPutK_ H5 x.w x.v x.k (hka.mono hM.pre) hkf
   have c3 := refFits_ H5 s.c.i s.c.h x.w x.k.ws (hka.mono hM.pre).ws (by have := hkf.ws; omega)
   have htt : kMay x.k = true → putT x.k = textK x.k := fun h => by unfold putT; rw [if_pos h]
   have hee : kMay x.k = true → putE x.k = 0 := fun h => by unfold putE; rw [if_pos h]
   have hee2 : kMay x.k = false → putE x.k = 1400 := fun h => by unfold putE; rw [h]; rfl
   have hd5 : decide (x.k.t > s.c.total) = !(decide (x.k.t ≤ s.c.total)) := by
    by_cases h : x.k.t ≤ s.c.total
    ·rw [decide_eq_true h, decide_eq_false (by omega)]; rfl
    ·rw [decide_eq_false h, decide_eq_true (by omega)]; rfl
   generalize hk0 : kMay x.k = p1 at *
   generalize hg0 : getS s.st x.h = g at *
   generalize hf0 : fits s.c.i s.c.h x.k.ws = p4 at *
   generalize hd0 : decide (x.k.t ≤ s.c.total) = p5 at *
   obtain ⟨gt, p2⟩ := g
   simp only at c1 hdd
   generalize hT0 : putT x.k = pt at *
   generalize hE0 : putE x.k = pe at *
   clear hk0 hg0 hf0 hd0 hT0 hE0 hxm hkf hka
   refine goM ?_
   refine d_call0G c1 ?_
   refine goM ?_
   refine l_callG c2 ?_
   clear c1 c2
   cases p1 with
   | false =>
    have hE := hee2 rfl
    subst hE
    rw [hbad hdd]
    clear hbad hdd hok htt hee hee2
    refine goM ?_
    exact end_1 (by first | exact .inl rfl | exact .inr rfl) ⟨rfl, hM.pre⟩
   | true =>
    have hE := hee rfl
    have hTT := htt rfl
    subst hE
    subst hTT
    clear htt hee hee2
    cases p2 with
    | false =>
     rw [hbad hdd]
     clear hbad hdd hok
     refine goM ?_
     exact end_1 (by first | exact .inl rfl | exact .inr rfl) ⟨rfl, hM.pre⟩
    | true =>
     have htd := tx_def gt (textK x.k)
     generalize hq0 : txEq gt (textK x.k) = p3 at *
     clear hq0
     cases p3 with
     | false =>
      rw [hbad hdd]
      clear hbad hdd hok
      refine goM ?_
      exact end_1 (by first | exact .inl rfl | exact .inr rfl) ⟨rfl, hM.pre⟩
     | true =>
      cases p4 with
      | false =>
       rw [hbad hdd]
       clear hbad hdd hok
       refine goM ?_
       refine l_callG c3 ?_
       refine goM ?_
       exact end_1 (by first | exact .inl rfl | exact .inr rfl) ⟨rfl, hM.pre⟩
      | true =>
       cases p5 with
       | false =>
        rw [hbad hdd]
        clear hbad hdd hok
        refine goM ?_
        refine l_callG c3 ?_
        refine goM ?_
        exact end_1 (by first | exact .inl rfl | exact .inr rfl) ⟨rfl, hM.pre⟩
       | true =>
        clear hbad
        refine goM ?_
        refine l_callG c3 ?_
        refine goM ?_
        refine ⟨n - (k + 1), by omega, k + 1, hk', rfl, fun j y hj hy => ?_, hM.subG, by simp [put_app, put_none, *]⟩
        by_cases hjk : j < k
        ·exact hok j y hjk hy
        ·obtain rfl : j = k := by omega
         rw [hmx] at hy
         cases hy
         exact hdd
  ·have hk' : k = n := by have : ¬ k < n := by simpa using hb
                          omega
   subst hk'
   clear hb
   have hall : s.ms.all (docOk s) = true := by
    rw [List.all_eq_true]
    intro y hy
    obtain ⟨j, hj⟩ := List.mem_iff_getElem?.1 hy
    exact hok j y (by have := (List.getElem?_eq_some_iff.1 hj).1; omega) hj
   rw [hall, Bool.true_and]
   clear hall hok
   refine goM ?_
   refine wq_loop (fun cc ρ h => ∃ (i : Nat), i ≤ ns ∧ cc = ns - i ∧ (∀ (j : Nat) x, j < i → s.st[j]? = some x → entHeld s.ms x = true) ∧ Mem H h [.box b1 (stC s.c rv mv ev sv)] ∧ ρ 1 = .ptr b1 0 ∧ ρ 9 = .int .i64 (i : Int)) ⟨0, Nat.zero_le _, rfl, fun j x hj => by omega, hM, by simp [put_app, put_none, *]⟩ ?_
   repeat clear hM
   clear g1 g3 hk
   rintro _ ρ h ⟨i, hi, rfl, hok, hM, g1, g9⟩
   refine goM ?_
   refine cond_go (fun hb => ?_) (fun hb => ?_)
   ·have hi' : i < ns := by simpa using hb
    clear hb
    obtain ⟨e, he⟩ : ∃ e, s.st[i]? = some e := ⟨s.st[i]'(by omega), by simp⟩
    have hw := wrap_succ (n := i) (by omega)
    have hbad : entHeld s.ms e = false → s.st.all (entHeld s.ms) = false := fun h => by
     rw [List.all_eq_false]
     exact ⟨e, List.mem_of_getElem? he, by rw [h]; decide⟩
    obtain ⟨be, oe, hie, _, loI, _, loN⟩ := ent_at (ha.st.mono hM.pre) he
    refine goM ?_
    refine wq_loop (fun cc ρ h' => ∃ (j : Nat), j ≤ k ∧ cc = k - j ∧ h' = h ∧ ρ 1 = .ptr b1 0 ∧ ρ 9 = .int .i64 (i : Int) ∧ ρ 10 = .int .i64 (countOf (s.ms.take j) e.id : Int) ∧ ρ 11 = .int .i64 (j : Int)) ⟨0, Nat.zero_le _, rfl, rfl, by simp [put_app, put_none, countOf, *]⟩ ?_
    clear g1 g9
    rintro _ ρ h' ⟨j, hj, rfl, rfl, g1, g9, g10, g11⟩
    refine goM ?_
    refine cond_go (fun hb => ?_) (fun hb => ?_)
    ·have hj' : j < k := by simpa using hb
     clear hb
     obtain ⟨x, hx⟩ : ∃ x, xs[j]? = some x := ⟨xs[j]'(by omega), by simp⟩
     have hmx : s.ms[j]? = some x.val := by rw [← ha.val, List.getElem?_map, hx]; rfl
     obtain ⟨bm, om, him, _, _, loH⟩ := mr_at (ha.ms.mono hM.pre) hx
     have hwj := wrap_succ (n := j) (by omega)
     have hcl := countOf_le (s.ms.take j) e.id
     rw [List.length_take] at hcl
     have hwc := wrap_succ (n := countOf (s.ms.take j) e.id) (by omega)
     have hsn : countOf (s.ms.take (j + 1)) e.id = countOf (s.ms.take j) e.id + if x.h = e.id then 1 else 0 := by
      rw [List.take_add_one, hmx]
      exact countOf_snoc _ _ _
     by_cases hxe : x.h = e.id
     ·have de : (x.h == e.id) = true := by simpa using hxe
      rw [if_pos hxe] at hsn
      clear hxe
      refine goM ?_
      refine ⟨k - (j + 1), by omega, j + 1, hj', rfl, rfl, ?_⟩
      rw [hsn]
      simp [put_app, put_none, *]
     ·have de : (x.h == e.id) = false := by simpa using hxe
      rw [if_neg hxe, Nat.add_zero] at hsn
      clear hxe
      refine goM ?_
      refine ⟨k - (j + 1), by omega, j + 1, hj', rfl, rfl, ?_⟩
      rw [hsn]
      simp [put_app, put_none, *]
    ·have hj' : j = k := by have : ¬ j < k := by simpa using hb
                            omega
     subst hj'
     clear hb
     rw [List.take_of_length_le (by omega)] at g10
     have hed : entHeld s.ms e = decide (e.n = (countOf s.ms e.id : Int)) := rfl
     by_cases hq : e.n = (countOf s.ms e.id : Int)
     ·have dq : ((countOf s.ms e.id : Int) != e.n) = false := by rw [hq]; simp
      rw [decide_eq_true hq] at hed
      clear hq hbad
      refine goM ?_
      refine ⟨ns - (i + 1), by omega, i + 1, hi', rfl, fun q y hqi hy => ?_, hM, by simp [put_app, put_none, *]⟩
      by_cases hqk : q < i
      ·exact hok q y hqk hy
      ·obtain rfl : q = i := by omega
       rw [he] at hy
       cases hy
       exact hed
     ·have dq : ((countOf s.ms e.id : Int) != e.n) = true := by simpa using fun h => hq h.symm
      rw [decide_eq_false hq] at hed
      rw [hbad hed]
      clear hq hbad hed hok
      refine goM ?_
      exact end_1 (by first | exact .inl rfl | exact .inr rfl) ⟨rfl, hM.pre⟩
   ·have hi' : i = ns := by have : ¬ i < ns := by simpa using hb
                            omega
    subst hi'
    clear hb
    have hall : s.st.all (entHeld s.ms) = true := by
     rw [List.all_eq_true]
     intro y hy
     obtain ⟨j, hj⟩ := List.mem_iff_getElem?.1 hy
     exact hok j y (by have := (List.getElem?_eq_some_iff.1 hj).1; omega) hj
    rw [hall]
    clear hall hok
    refine goM ?_
    exact end_1 (by first | exact .inl rfl | exact .inr rfl) ⟨rfl, hM.pre⟩
theorem cloneRows_ (H : Heap) (v : V) (xs : List (V × Int)) (hx : Sl 2 rowC H v xs) (hl : xs.length * 32 ≤ 2 ^ 47) : ∃ w H', Call Tryz.prog 191 [v] H w H' ∧ Mem H H' [.own 2 rowC w xs] := by
 refine call_mem fit mixed Tryz.func191 rfl rfl rfl (by kernel_rfl) fun hM => ?_
 rcases hx with ⟨rfl, rfl⟩ | ⟨b, off, cap, t, cs, wr, rfl, h1, h2, h3, h4⟩
 ·refine goM ?_
  exact end_1 (by first | exact .inl rfl | exact .inr rfl) (hM.nil 2 rowC)
 ·have hx : Sl 2 rowC H (.slc b off xs.length cap t 2) xs := .inr ⟨b, off, cap, t, cs, wr, rfl, h1, h2, h3, h4⟩
  clear h1 h2 h3 h4
  refine goM ?_
  refine l_sliceM rowC [] [] T24 rfl T144 rfl (cells_rows []) (by decide) fun e1 H3 hM => ?_
  refine goM ?_
  refine l_appM (hx.mono hM.pre) (xs := []) (hb := by simp only [List.length_nil]; show (0 + xs.length) * 32 ≤ _ ∧ _; omega) fun a H4 hM => ?_
  refine goM ?_
  exact end_1 (by first | exact .inl rfl | exact .inr rfl) hM
structure RowsK (qv rv : List (V × Int)) (rs : List (List Int × Int)) (k : Nat) : Prop where
 len : rv.length = rs.length
 old : ∀ j, k ≤ j → rv[j]? = qv[j]?
 y : ∀ (j : Nat) p r, rv[j]? = some p → rs[j]? = some r → p.2 = r.2
theorem rowsP_snoc {rv : List (V × Int)} {rs : List (List Int × Int)} {k : Nat} {p : V × Int} {r : List Int × Int} (hp : rv[k]? = some p) (hr : rs[k]? = some r) : rowsP (rv.take (k + 1)) (rs.take (k + 1)) = rowsP (rv.take k) (rs.take k) ++ [.own 1 intC p.1 r.1] := by
 unfold rowsP
 have h1 := (List.getElem?_eq_some_iff.1 hp).1
 have h2 := (List.getElem?_eq_some_iff.1 hr).1
 rw [List.take_add_one, List.take_add_one, hp, hr, List.zipWith_append (by rw [List.length_take, List.length_take]; omega)]
 rfl
theorem configCopy_ (H : Heap) (c : Cfg) (v : V) (hv : Rows H v c.rows) (hf : c.Fit) : ∃ w H', Call Tryz.prog 118 [.agg (cfgC c v)] H w H' ∧ ∃ u rv, w = .agg (cfgC c u) ∧ Like rv c.rows ∧ Mem H H' [.ro (pack (rowsR u rv c.rows))] := by
 have l1 := hf.rows
 have l2 := hf.row
 have s0 : v.cells = [v] ∧ v.isTup = false := by obtain ⟨_, h, _⟩ := hv; exact h.cells
 obtain ⟨qv, hqv, hql, hqa⟩ := hv
 obtain ⟨n, hn⟩ : ∃ n, c.rows.length = n := ⟨_, rfl⟩
 refine call_mem fit mixed Tryz.func118 rfl rfl rfl (by kernel_rfl) fun hM => ?_
 refine wq_seq (wq_line ?_)
 refine l_boxM T26 fun b1 H1 hM => ?_
 refine l_newM (cs := zeroCfg) T26 rfl fun b2 H2 hM => ?_
 refine goM ?_
 obtain ⟨u, H3, c1, m1⟩ := cloneRows_ H2 v qv (hqv.mono hM.pre) (by omega)
 refine l_callG c1 ?_
 have s1 := (m1.sl .here).cells
 have hlen := (m1.sl .here).len T24 rfl
 rw [hql, hn] at hlen
 replace hM := hM.call1 m1
 clear c1 m1
 refine goM ?_
 refine l_putM T24 fun H4 hM => ?_
 refine goM ?_
 have hM0 : Mem H H4 [.ro (pack []), .own 2 rowC u qv, .box b2 zeroCfg, .box b1 (cfgC c u)] := Mem.packed (L := []) hM
 refine wq_loop (fun cc ρ h => ∃ (k : Nat) (rv : List (V × Int)), k ≤ n ∧ cc = n - k ∧ RowsK qv rv c.rows k ∧ Mem H h [.ro (pack (rowsP (rv.take k) (c.rows.take k))), .own 2 rowC u rv, .box b2 zeroCfg, .box b1 (cfgC c u)] ∧ ρ 1 = .ptr b1 0 ∧ ρ 2 = .ptr b2 0 ∧ ρ 10 = .int .i64 (n : Int) ∧ ρ 11 = .int .i64 (k : Int)) ⟨0, qv, Nat.zero_le _, rfl, ⟨hql, fun _ _ => rfl, fun j p r hp hr => (hqa j p r hp hr).2⟩, hM0, by simp [put_app, put_none, rho0_app, *]⟩ ?_
 repeat clear hM
 clear hM0
 rintro _ ρ h ⟨k, rv, hk, rfl, hrk, hM, g1, g2, g10, g11⟩
 refine goM ?_
 refine cond_go (fun hb => ?_) (fun hb => ?_)
 ·have hk' : k < n := by simpa using hb
  clear hb
  have hrl := hrk.len
  obtain ⟨⟨p, y⟩, hp⟩ : ∃ p, rv[k]? = some p := ⟨rv[k]'(by omega), by simp⟩
  obtain ⟨⟨ys, z⟩, hr⟩ : ∃ r, c.rows[k]? = some r := ⟨c.rows[k]'(by omega), by simp⟩
  have hqp : qv[k]? = some (p, y) := by rw [← hrk.old k (Nat.le_refl _)]; exact hp
  have hsl : Sl 1 intC H p ys := (hqa k _ _ hqp hr).1
  have hyl : ys.length * 8 ≤ 140737488351232 := l2 _ (List.mem_of_getElem? hr)
  obtain ⟨bo, o, cs, hi, hcs, _, hlo, hlc⟩ := (hM.sl (v := u) (xs := rv) (by (repeat (first | exact Has.here | apply Has.there)))).get T24 rfl T144 rfl hp
  have ho : loadV T 27 h bo o = some p := loadV_one T27 rfl (hlc 0 p (by rw [hcs]; rfl))
  obtain ⟨a, H5, c1, m1⟩ := cloneInts_ h p ys (hsl.mono hM.pre) (by omega)
  have hw := wrap_succ (n := k) (by omega)
  have s3 := (m1.sl .here).cells
  have hM5 := hM.call1 m1
  obtain ⟨b', hi', hput⟩ := hM5.elemAt (sz := 2) (R := rowC) (v := u) (xs := rv) (by (repeat (first | exact Has.here | apply Has.there))) T24 rfl T144 rfl hp 0 T27 (by decide)
  rw [hi] at hi'
  cases hi'
  obtain ⟨H6, st, hM6⟩ := hput a (a, y) s3.2 (by rw [s3.1]; rfl) (fun cs hl hR => by rw [hR, s3.1]; rfl)
  simp only [Nat.add_zero] at st
  clear hput hlo hlc hcs
  have hrv : (rv.set k (a, y))[k]? = some (a, y) := List.getElem?_set_self (by omega)
  have hpk : Mem H H6 [.ro (pack (rowsP ((rv.set k (a, y)).take (k + 1)) (c.rows.take (k + 1)))), .own 2 rowC u (rv.set k (a, y)), .box b2 zeroCfg, .box b1 (cfgC c u)] := by
   rw [rowsP_snoc hrv hr, List.take_set_of_le (Nat.le_refl _)]
   refine Mem.packed ?_
   have h1 : Mem H H6 (rowsP (rv.take k) (c.rows.take k) ++ .own 1 intC a ys :: [.own 2 rowC u (rv.set k (a, y)), .box b2 zeroCfg, .box b1 (cfgC c u)]) := Mem.unpacked hM6.swap
   rw [List.append_assoc]
   exact h1
  have hrk2 : RowsK qv (rv.set k (a, y)) c.rows (k + 1) := ⟨by rw [List.length_set]; exact hrl, fun j hj => by rw [List.getElem?_set_ne (by omega)]; exact hrk.old j (by omega), fun j q r hq hr2 => by
   by_cases hjk : k = j
   ·subst hjk
    rw [hrv] at hq
    cases hq
    have := hrk.y k (p, y) r hp hr2
    exact this
   ·rw [List.getElem?_set_ne hjk] at hq
    exact hrk.y j q r hq hr2⟩
  clear hM5 hM6 hp hr hqp hrv
  refine goM ?_
  refine d_callG c1 (.inl m1.pre) ?_
  clear ho
  replace hM := hM.call1 m1
  clear c1 m1
  refine goM ?_
  refine d_stM st ?_
  refine goM ?_
  exact ⟨n - (k + 1), by omega, k + 1, _, hk', rfl, hrk2, hpk, by simp [put_app, put_none, *]⟩
 ·have hk' : k = n := by have : ¬ k < n := by simpa using hb
                         omega
  subst hk'
  clear hb
  rw [List.take_of_length_le (by have := hrk.len; omega), List.take_of_length_le (by omega)] at hM
  have hrk' := hrk.len
  have hlike : Like rv c.rows := ⟨hrk.len, hrk.y⟩
  clear hrk
  refine goM ?_
  refine l_putM T26 fun H5 hM => ?_
  refine goM ?_
  refine end_1 (by first | exact .inl rfl | exact .inr rfl) ⟨u, rv, rfl, hlike, ?_⟩
  have h1 := (hM.front (r := .own 2 rowC u rv) (by (repeat (first | exact Take.here | apply Take.there)))).swap
  have h2 : Mem H H5 (rowsP rv c.rows ++ .own 2 rowC u rv :: _) := Mem.unpacked h1
  have h3 : Mem H H5 (rowsR u rv c.rows ++ _) := h2.perm (List.perm_middle)
  exact h3.packed.sub (by (repeat (first | exact List.Sublist.slnil | exact List.Sublist.refl _ | refine List.Sublist.cons_cons _ ?_ | refine List.Sublist.cons _ ?_)))
theorem copyConfig22_ (H : Heap) (c : Cfg) (v : V) (hv : Rows H v c.rows) (hf : c.Fit) : ∃ w H', Call Tryz.prog 57 [.agg (cfgC c v)] H w H' ∧ ∃ u rv, w = .agg (cfgC c u) ∧ Like rv c.rows ∧ Mem H H' [.ro (pack (rowsR u rv c.rows))] := by
 have l1 := hf.rows
 have l2 := hf.row
 have hv0 := hv
 have s0 : v.cells = [v] ∧ v.isTup = false := by obtain ⟨_, h, _⟩ := hv; exact h.cells
 obtain ⟨n, hn⟩ : ∃ n, c.rows.length = n := ⟨_, rfl⟩
 have hlen : builtinP T .len [24] [v] = some (.int .i64 (n : Int)) := by
  obtain ⟨qv, hqv, hql, _⟩ := hv
  have := hqv.len T24 rfl
  rw [hql, hn] at this
  exact this
 refine call_mem fit mixed Tryz.func57 rfl rfl rfl (by kernel_rfl) fun hM => ?_
 refine wq_seq (wq_line ?_)
 refine l_boxM T26 fun b1 H1 hM => ?_
 refine l_newM (cs := zeroCfg) T26 rfl fun b2 H2 hM => ?_
 refine goM ?_
 have hM0 : Mem H H2 [.ro (pack (rowsR .nils [] [])), .box b2 zeroCfg, .box b1 (cfgC c v)] := Mem.packed (L := rowsR .nils [] []) (hM.nil 2 rowC)
 refine wq_loop (fun cc ρ h => ∃ (k : Nat) (u : V) (rv : List (V × Int)), k ≤ n ∧ cc = n - k ∧ Like rv (c.rows.take k) ∧ Mem H h [.ro (pack (rowsR u rv (c.rows.take k))), .box b2 zeroCfg, .box b1 (cfgC c v)] ∧ ρ 1 = .ptr b1 0 ∧ ρ 2 = .ptr b2 0 ∧ ρ 3 = u ∧ ρ 4 = .int .i64 (k : Int)) ⟨0, .nils, [], Nat.zero_le _, rfl, ⟨rfl, by simp⟩, hM0, by simp [put_app, put_none, rho0_app, *]⟩ ?_
 repeat clear hM
 clear hM0
 rintro _ ρ h ⟨k, u, rv, hk, rfl, hlk, hM, g1, g2, g3, g4⟩
 have hsu : u.cells = [u] ∧ u.isTup = false := by
  have := rows_pack (hM.fact (F := pack (rowsR u rv (c.rows.take k))) .here) hlk
  obtain ⟨_, h, _⟩ := this
  exact h.cells
 refine goM ?_
 refine cond_go (fun hb => ?_) (fun hb => ?_)
 ·have hk' : k < n := by simpa using hb
  clear hb
  obtain ⟨⟨xs, y⟩, hrk⟩ : ∃ r, c.rows[k]? = some r := ⟨c.rows[k]'(by omega), by simp⟩
  obtain ⟨b3, o3, x, hi3, hlo3, _, _, hxs⟩ := hv0.at hrk
  replace hlo3 := loadV_pre hM.pre hlo3
  have hxl : xs.length * 8 ≤ 140737488351232 := l2 _ (List.mem_of_getElem? hrk)
  have hw := wrap_succ (n := k) (by omega)
  have hrl : rv.length = k := by rw [hlk.1, List.length_take]; omega
  have s1 := hxs.cells
  have htk : c.rows.take (k + 1) = c.rows.take k ++ [(xs, y)] := by rw [List.take_add_one, hrk]; rfl
  clear hrk
  refine goM ?_
  refine l_newM (cs := [.nils, .int .i64 0]) T144 rfl fun b4 H1 hM => ?_
  refine l_putM T144 fun H2 hM => ?_
  refine goM ?_
  refine l_sliceM intC [] [] T27 rfl T3 rfl (cells_ints []) (by decide) fun e1 H3 hM => ?_
  refine goM ?_
  refine l_appM (hxs.mono hM.pre) fun a H4 hM => ?_
  have s3 := (hM.sl .here).cells
  refine goM ?_
  refine l_putM T27 fun H5 hM => ?_
  refine goM ?_
  refine l_sliceM rowC [(a, y)] [a, .int .i64 y] T24 rfl T144 rfl (cells_rows [(a, y)]) (by decide) (fun e2 H6 hM => ?_)
  have hM2 : Mem H H6 (.own 2 rowC e2 [(a, y)] :: .own 2 rowC u rv :: .box b4 [a, .int .i64 y] :: .box b2 zeroCfg :: .box b1 (cfgC c v) :: .own 1 intC a ([] ++ xs) :: rowsP rv (c.rows.take k)) := by
   have h1 := hM.front (r := .ro (pack (rowsR u rv (c.rows.take k)))) (by (repeat (first | exact Take.here | apply Take.there)))
   have h2 := (h1.sub (L' := [.ro (pack (rowsR u rv (c.rows.take k))), .own 2 rowC e2 [(a, y)], .own 1 intC a ([] ++ xs), .box b4 [a, .int .i64 y], .box b2 zeroCfg, .box b1 (cfgC c v)]) (by (repeat (first | exact List.Sublist.slnil | exact List.Sublist.refl _ | refine List.Sublist.cons_cons _ ?_ | refine List.Sublist.cons _ ?_)))).unpacked
   refine h2.perm ?_
   refine (List.perm_append_comm (l₁ := rowsR u rv (c.rows.take k))).trans ?_
   refine List.Perm.cons _ ?_
   show (Res.own 1 intC a ([] ++ xs) :: .box b4 [a, .int .i64 y] :: .box b2 zeroCfg :: .box b1 (cfgC c v) :: Res.own 2 rowC u rv :: rowsP rv (c.rows.take k)).Perm _
   refine (List.perm_middle (l₁ := [Res.own 1 intC a ([] ++ xs), .box b4 [a, .int .i64 y], .box b2 zeroCfg, .box b1 (cfgC c v)])).trans (List.Perm.cons _ ?_)
   exact (List.perm_middle (l₁ := [Res.box b4 [a, .int .i64 y], .box b2 zeroCfg, .box b1 (cfgC c v)])).symm
  clear hM
  have hM := hM2
  clear hM2
  refine goM ?_
  refine l_appM (hM.sl .here) (xs := rv) (hh := .there .here) (hb := by simp only [List.length_cons, List.length_nil]; rw [hrl]; omega) fun u' H7 hM => ?_
  refine goM ?_
  refine ⟨n - (k + 1), by omega, k + 1, u', rv ++ [(a, y)], hk', rfl, ?_, ?_, by simp [put_app, put_none, *]⟩
  ·rw [htk]
   have h3 : (c.rows.take k).length = k := by rw [List.length_take]; omega
   refine ⟨by simp [hrl, h3], fun j p r hp hr => ?_⟩
   by_cases hj : j < k
   ·rw [List.getElem?_append_left (by omega)] at hp hr
    exact hlk.2 j p r hp hr
   ·rw [List.getElem?_append_right (by omega)] at hp hr
    rw [hrl] at hp
    rw [h3] at hr
    match hq : j - k, hp, hr with
    | 0, hp, hr => simp at hp hr; subst hp; subst hr; rfl
    | q + 1, hp, hr => simp at hp
  ·rw [htk]
   have h3 : (c.rows.take k).length = k := by rw [List.length_take]; omega
   have hz : rowsP (rv ++ [(a, y)]) (c.rows.take k ++ [(xs, y)]) = rowsP rv (c.rows.take k) ++ [.own 1 intC a xs] := by
    unfold rowsP
    rw [List.zipWith_append (by omega)]; rfl
   unfold rowsR
   rw [hz]
   refine Mem.packed ?_
   refine ((hM.drop).sub (L' := .own 2 rowC u' (rv ++ [(a, y)]) :: .box b2 zeroCfg :: .box b1 (cfgC c v) :: .own 1 intC a ([] ++ xs) :: rowsP rv (c.rows.take k)) (by (repeat (first | exact List.Sublist.slnil | exact List.Sublist.refl _ | refine List.Sublist.cons_cons _ ?_ | refine List.Sublist.cons _ ?_)))).perm ?_
   refine List.Perm.cons _ ?_
   refine (List.perm_append_comm (l₁ := [Res.box b2 zeroCfg, .box b1 (cfgC c v)]) (l₂ := .own 1 intC a ([] ++ xs) :: rowsP rv (c.rows.take k))).trans ?_
   exact List.Perm.append_right _ (List.perm_append_comm (l₁ := [Res.own 1 intC a xs]) (l₂ := rowsP rv (c.rows.take k)))
 ·have hk' : k = n := by have : ¬ k < n := by simpa using hb
                         omega
  subst hk'
  clear hb
  rw [List.take_of_length_le (by omega)] at hM hlk
  refine goM ?_
  refine l_putM T24 fun H4 hM => ?_
  refine goM ?_
  refine l_putM T26 fun H5 hM => ?_
  refine goM ?_
  exact end_1 (by first | exact .inl rfl | exact .inr rfl) ⟨u, rv, rfl, hlk, hM.subG⟩
def mems (xs : List MR) : List Res := xs.map fun x => kPart x.w x.v x.k.ws x.k.vs
def stOwn (u mv ev sv : V) (rvs : List (V × Int)) (xs : List MR) (s : St) : List Res := [.ro (pack (rowsR u rvs s.c.rows)), .ro (pack (mems xs)), .own 6 mrC mv xs, .own 6 evC ev s.es, .own 3 entC sv s.st]
theorem mems_at {H : Heap} {xs : List MR} (h : (pack (mems xs)).p H) : ∀ x ∈ xs, KAt H x.w x.v x.k := fun x hx => by
 obtain ⟨i, hi⟩ := List.mem_iff_getElem?.1 hx
 have hm := pack_mem h
 have hr : (mems xs)[i]? = some (kPart x.w x.v x.k.ws x.k.vs) := by unfold mems; rw [List.getElem?_map, hi]; rfl
 exact kPart_at (hm.get (Has.nth hr))
theorem st_at {B H : Heap} {u mv ev sv : V} {rvs : List (V × Int)} {xs : List MR} {s : St} {L : List Res} (hM : Mem B H (stOwn u mv ev sv rvs xs s ++ L)) (hl : Like rvs s.c.rows) (hv : xs.map MR.val = s.ms) : StAt H u mv ev sv xs s :=
 ⟨rows_pack (hM.fact .here) hl, hM.sl (.there (.there .here)), hv, mems_at (hM.fact (.there .here)), hM.sl (.there (.there (.there .here))), hM.sl (.there (.there (.there (.there .here))))⟩
theorem mems_snoc (xs : List MR) (x : MR) : mems (xs ++ [x]) = mems xs ++ [kPart x.w x.v x.k.ws x.k.vs] := by unfold mems; rw [List.map_append]; rfl
theorem Mem.memsMore {B H : Heap} {xs : List MR} {x : MR} {M : List Res} (h : Mem B H (.own 1 intC x.w x.k.ws :: .own 1 intC x.v x.k.vs :: .ro (pack (mems xs)) :: M)) : Mem B H (.ro (pack (mems (xs ++ [x]))) :: M) := by
 have h1 : Mem B H (.ro (pack (mems xs)) :: kPart x.w x.v x.k.ws x.k.vs :: M) := h.pack2.swap
 rw [mems_snoc]
 refine Mem.packed ?_
 have h2 := h1.unpacked
 rw [List.append_assoc]
 exact h2
theorem firstR_of {c : Cfg} (hc : cfgMay c = true) {k : Nat} (hk : (k : Int) < c.m) : firstOk c k = true := by
 obtain ⟨hm2, _⟩ := cfgMay_split hc
 unfold firstOk
 rw [hc, wrap_m hm2, within_iff.2 ⟨by omega, by omega⟩]; rfl
theorem no_state {H : Heap} : Mem H H (stOwn .nils .nils .nils .nils [] [] noSt) :=
 Mem.packed (L := rowsR .nils [] []) ((Mem.packed (L := []) ((((Mem.start H).nil 3 entC).nil 6 evC).nil 6 mrC)).nil 2 rowC)
theorem sameEvents (H : Heap) (u v : V) (xs ys : List Ev) (hx : Sl 6 evC H u xs) (hy : Sl 6 evC H v ys) (lx : xs.length ≤ 2 ^ 47) : Call Tryz.prog 41 [u, v] H (.bool (decide (xs = ys))) H := by
 refine call_plain fit mixed Tryz.func41 rfl rfl rfl (by kernel_rfl) rfl ?_
 have hlx := hx.len T30 rfl
 have hly := hy.len T30 rfl
 refine goW ?_
 refine cond_go (fun hb => ?_) (fun hb => ?_)
 ·refine goW ?_
  refine end_finG ?_; simp [put_app, put_none, *]
  intro e
  subst e
  simp at hb
 ·have hl : xs.length = ys.length := by simp at hb; omega
  refine goW ?_
  refine wq_loop (fun c ρ h => ∃ k, k ≤ xs.length ∧ c = xs.length - k ∧ h = H ∧ xs.take k = ys.take k ∧ ρ 0 = u ∧ ρ 1 = v ∧ ρ 5 = .int .i64 (k : Nat)) ⟨0, Nat.zero_le _, rfl, rfl, by simp, rfl, rfl, rfl⟩ ?_
  rintro _ ρ h ⟨k, hk, rfl, rfl, hsame, h0, h1, h5⟩
  refine goW ?_
  refine cond_go (fun hb => ?_) (fun hb => ?_)
  ·have hk' : k < xs.length := by simp at hb; omega
   obtain ⟨x, hxk⟩ : ∃ e, xs[k]? = some e := ⟨xs[k], by simp [hk']⟩
   obtain ⟨y, hyk⟩ : ∃ e, ys[k]? = some e := ⟨ys[k]'(by omega), by simp⟩
   obtain ⟨b, o, cs, hi, rfl, _, hlo, _⟩ := hx.get T30 rfl T61 rfl hxk
   obtain ⟨b2, o2, cs, hi2, rfl, _, hlo2, _⟩ := hy.get T30 rfl T61 rfl hyk
   have ho := loadV_agg T61 rfl hlo
   have ho2 := loadV_agg T61 rfl hlo2
   have hw := wrap_succ (n := k) (by omega)
   refine goW ?_
   refine cond_go (fun hc => ?_) (fun hc => ?_)
   all_goals rw [ev_eq] at hc
   all_goals simp at hc
   ·refine goW ?_
    refine end_finG ?_; simp [put_app, put_none, *]
    intro e
    subst e
    rw [hxk] at hyk
    exact hc (Option.some.inj hyk)
   ·refine goW ?_
    refine ⟨xs.length - (k + 1), by omega, k + 1, hk', rfl, rfl, take_succ_eq hsame hxk hyk hc, ?_⟩
    simp [put_app, put_none, *]
  ·have hk' : k = xs.length := by simp at hb; omega
   subst hk'
   refine goW ?_
   refine end_finG ?_; simp [put_app, put_none, *]
   rw [List.take_of_length_le (Nat.le_refl _), List.take_of_length_le (by omega)] at hsame
   exact hsame
theorem refNew_ (H : Heap) (c : Cfg) (rv : V) (hr : Rows H rv c.rows) (hf : c.Fit) :
  ∃ w H', Call Tryz.prog 18 [.agg (cfgC c rv)] H w H' ∧ ∃ u mv sv rvs xs, w = .tup [.agg (stC (newR c).1.c u mv .nils sv), .int .i64 (newR c).2] ∧ Like rvs (newR c).1.c.rows ∧ xs.map MR.val = (newR c).1.ms ∧ Mem H H' (stOwn u mv .nils sv rvs xs (newR c).1) := by
 have l1 := hf.rows
 have l2 := hf.row
 have s0 : rv.cells = [rv] ∧ rv.isTup = false := by obtain ⟨_, h, _⟩ := hr; exact h.cells
 refine call_mem fit mixed Tryz.func18 rfl rfl rfl (by kernel_rfl) fun hM => ?_
 refine wq_seq (wq_line ?_)
 refine l_boxM T26 fun b1 H1 hM => ?_
 refine l_newM (cs := zeroSt) T33 rfl fun b2 H2 hM => ?_
 have c1 := refConfMay_ H2 c rv (hr.mono hM.pre) (by omega) (fun r hr => by have := l2 r hr; omega)
 unfold newR
 cases hc : cfgMay c with
 | false =>
  rw [hc] at c1
  rw [if_neg (by decide)]
  clear hc
  refine goM ?_
  refine l_callG c1 ?_
  refine goM ?_
  refine l_putM T33 fun H3 hM => ?_
  refine goM ?_
  exact end_2 (by first | exact .inl rfl | exact .inr rfl) ⟨.nils, .nils, .nils, [], [], rfl, ⟨rfl, by simp⟩, rfl, (no_state (H := H3)).low' hM.pre⟩
 | true =>
  rw [hc] at c1
  rw [if_pos rfl]
  obtain ⟨hm2, _⟩ := cfgMay_split hc
  obtain ⟨n, hn⟩ : ∃ n : Nat, c.m = n := ⟨c.m.toNat, by omega⟩
  have hn8 : n ≤ 8 := by omega
  have hlt : ∀ k : Nat, k < n → firstOk c k = true := fun k h => firstR_of hc (by omega)
  have hnew := fun i h => (new_ok hc i h).1
  have hnat : c.m.toNat = n := by omega
  have hS : newS c = ⟨c, (newF c n).1, [], (newF c n).2⟩ := by unfold newS; rw [hnat]
  rw [hS]
  clear hS hnat
  replace hn : Held (c.m = n) := hn
  refine goM ?_
  refine l_callG c1 ?_
  clear c1
  refine goM ?_
  obtain ⟨_, H3, c1, u, rvs, rfl, hlk, m1⟩ := copyConfig22_ H2 c rv (hr.mono hM.pre) hf
  refine l_callG c1 ?_
  have s1 : u.cells = [u] ∧ u.isTup = false := by obtain ⟨_, h, _⟩ := rows_pack (m1.fact .here) hlk; exact h.cells
  replace hM := hM.call1 m1
  clear c1 m1
  refine goM ?_
  refine l_newM (cs := zeroSt) T33 rfl fun b4 H4 hM => ?_
  refine l_putM T33 fun H5 hM => ?_
  refine goM ?_
  have hM0 : Mem H H5 [.box b4 (stC c u .nils .nils .nils), .ro (pack (mems [])), .own 6 mrC .nils [], .own 3 entC .nils [], .ro (pack (rowsR u rvs c.rows)), .box b2 zeroSt, .box b1 (cfgC c rv)] := by
   have h1 := Mem.packed (L := []) ((hM.nil 3 entC).nil 6 mrC)
   exact (h1.front (r := .box b4 (stC c u .nils .nils .nils)) (.there (.there (.there .here)))).sub (by (repeat (first | exact List.Sublist.slnil | exact List.Sublist.refl _ | refine List.Sublist.cons_cons _ ?_ | refine List.Sublist.cons _ ?_)))
  refine wq_loop (fun cc ρ h => ∃ (k : Nat) (mv sv : V) (xs : List MR), k ≤ n ∧ cc = n - k ∧ xs.map MR.val = (newF c k).1 ∧ Mem H h [.box b4 (stC c u mv .nils sv), .ro (pack (mems xs)), .own 6 mrC mv xs, .own 3 entC sv (newF c k).2, .ro (pack (rowsR u rvs c.rows)), .box b2 zeroSt, .box b1 (cfgC c rv)] ∧ ρ 1 = .ptr b1 0 ∧ ρ 2 = .ptr b2 0 ∧ ρ 4 = .ptr b4 0 ∧ ρ 5 = .int .i64 (k : Int)) ⟨0, .nils, .nils, [], Nat.zero_le _, rfl, rfl, hM0, by simp [put_app, put_none, rho0_app, *]⟩ ?_
  repeat clear hM
  clear hM0
  rintro _ ρ h ⟨k, mv, sv, xs, hk, rfl, hval, hM, g1, g2, g4, g5⟩
  have t1 := (hM.sl (v := mv) (xs := xs) (by (repeat (first | exact Has.here | apply Has.there)))).cells
  have t2 := (hM.sl (v := sv) (xs := (newF c k).2) (by (repeat (first | exact Has.here | apply Has.there)))).cells
  have hxl : xs.length = k := by rw [← List.length_map (f := MR.val), hval]; exact (hnew k (by omega)).len
  have hsl := (hnew k (by omega)).stl
  by_cases hk' : k < n
  ·have dk : decide ((k : Int) < c.m) = true := decide_eq_true (by have : c.m = (n : Int) := hn; omega)
   have hw := wrap_succ (n := k) (by omega)
   obtain ⟨_, H6, c1, a, b', rfl, m1⟩ := ref_First h c rv k (hr.mono hM.pre) hf
   have hfk : firstKR c k = firstK c k := by unfold firstKR; rw [if_pos (hlt k hk')]
   have hfs : strOf (firstSR c k) = textK (firstK c k) := by unfold firstSR; rw [if_pos (hlt k hk')]; rfl
   have hfe : firstER c k = 0 := by unfold firstER; rw [if_pos (hlt k hk')]
   rw [hfk] at m1
   rw [hfk, hfs, hfe] at c1
   have s3 := (m1.sl .here).cells
   have s4 := (m1.sl (.there .here)).cells
   have hsucc : newF c (k + 1) = ((newF c k).1 ++ [(firstK c (k : Int), (putS (newF c k).2 (textK (firstK c (k : Int)))).2.1)], (putS (newF c k).2 (textK (firstK c (k : Int)))).1) := rfl
   clear hfk hfs hfe
   generalize hK : firstK c (k : Int) = K at *
   refine goM ?_
   refine l_callG c1 ?_
   replace hM := hM.call2 m1
   clear c1 m1
   refine goM ?_
   refine l_newM (cs := zeroMem) T51 rfl fun b6 H7 hM => ?_
   refine l_putM T51 fun H8 hM => ?_
   refine goM ?_
   obtain ⟨_, H9, c1, sv', rfl, m1⟩ := refPut15_ H8 sv (newF c k).2 (textK K) (hM.sl (v := sv) (xs := (newF c k).2) (by (repeat (first | exact Has.here | apply Has.there)))) (by omega)
   refine l_callG c1 ?_
   have s5 := (m1.sl .here).cells
   replace hM := hM.call1 m1
   clear c1 m1
   generalize putS (newF c k).2 (textK K) = o at *
   obtain ⟨st', id', er'⟩ := o
   simp only at hsucc hM ⊢
   refine goM ?_
   refine l_putM T3 fun H10 hM => ?_
   refine goM ?_
   refine l_putM T31 fun H11 hM => ?_
   refine goM ?_
   refine l_sliceM mrC [⟨a, b', K, id'⟩] (mC a b' K id') T29 rfl T51 rfl (cells_mrs [⟨a, b', K, id'⟩]) (by decide) fun e1 H12 hM => ?_
   refine goM ?_
   refine l_appM (hM.sl .here) (xs := xs) (hh := by (repeat (first | exact Has.here | apply Has.there))) (hb := by rw [hxl]; show (k + 1) * 80 ≤ _ ∧ k + 1 ≤ _; omega) fun mv' H13 hM => ?_
   have s6 := (hM.sl (v := mv') (xs := xs ++ [⟨a, b', K, id'⟩]) (by (repeat (first | exact Has.here | apply Has.there)))).cells
   refine goM ?_
   refine l_putM T29 fun H14 hM => ?_
   refine goM ?_
   have h1 := ((hM.front (r := .ro (pack (mems xs))) (by (repeat (first | exact Take.here | apply Take.there)))).front (r := .own 1 intC b' K.vs) (by (repeat (first | exact Take.here | apply Take.there)))).front (r := .own 1 intC a K.ws) (by (repeat (first | exact Take.here | apply Take.there)))
   have h2 := Mem.memsMore (x := ⟨a, b', K, id'⟩) h1
   have h3 := (((h2.front (r := .own 3 entC sv' st') (by (repeat (first | exact Take.here | apply Take.there)))).front (r := .own 6 mrC mv' (xs ++ [⟨a, b', K, id'⟩])) (by (repeat (first | exact Take.here | apply Take.there)))).front (r := .ro (pack (mems (xs ++ [⟨a, b', K, id'⟩])))) (by (repeat (first | exact Take.here | apply Take.there)))).front (r := .box b4 (stC c u mv' .nils sv')) (by (repeat (first | exact Take.here | apply Take.there)))
   refine ⟨n - (k + 1), by omega, k + 1, mv', sv', xs ++ [⟨a, b', K, id'⟩], hk', rfl, ?_, ?_, by simp [put_app, put_none, *]⟩
   ·rw [hsucc, List.map_append, hval]; rfl
   ·rw [hsucc]
    exact h3.sub (by (repeat (first | exact List.Sublist.slnil | exact List.Sublist.refl _ | refine List.Sublist.cons_cons _ ?_ | refine List.Sublist.cons _ ?_)))
  ·have dk : decide ((k : Int) < c.m) = false := decide_eq_false (by have : c.m = (n : Int) := hn; omega)
   have hk'' : k = n := by omega
   subst hk''
   refine goM ?_
   refine l_putM T33 fun H6 hM => ?_
   refine goM ?_
   refine end_2 (by first | exact .inl rfl | exact .inr rfl) ⟨u, mv, sv, rvs, xs, rfl, hlk, hval, ?_⟩
   have h1 := ((hM.front (r := .own 3 entC sv (newF c k).2) (by (repeat (first | exact Take.here | apply Take.there)))).nil 6 evC)
   exact (((h1.front (r := .own 6 mrC mv xs) (by (repeat (first | exact Take.here | apply Take.there)))).front (r := .ro (pack (mems xs))) (by (repeat (first | exact Take.here | apply Take.there)))).front (r := .ro (pack (rowsR u rvs c.rows))) (by (repeat (first | exact Take.here | apply Take.there)))).sub (by unfold stOwn; (repeat (first | exact List.Sublist.slnil | exact List.Sublist.refl _ | refine List.Sublist.cons_cons _ ?_ | refine List.Sublist.cons _ ?_)))
theorem sameState_ (H : Heap) (s : St) (rv mv ev sv rv' mv' ev' sv' : V) (xs ys : List MR) (ha : StAt H rv mv ev sv xs s) (hb' : StAt H rv' mv' ev' sv' ys s) (hf : s.Fit) :
  Call Tryz.prog 36 [.agg (stC s.c rv mv ev sv), .agg (stC s.c rv' mv' ev' sv')] H (.bool true) H := by
 have z1 : rv.cells = [rv] ∧ rv.isTup = false := by obtain ⟨_, h, _⟩ := ha.rows; exact h.cells
 have z2 := ha.ms.cells
 have z3 := ha.es.cells
 have z4 := ha.st.cells
 have y1 : rv'.cells = [rv'] ∧ rv'.isTup = false := by obtain ⟨_, h, _⟩ := hb'.rows; exact h.cells
 have y2 := hb'.ms.cells
 have y3 := hb'.es.cells
 have y4 := hb'.st.cells
 have l1 := hf.c.rows
 have l2 := hf.c.row
 have l4 := hf.es
 have l5 := hf.st
 obtain ⟨n, hn⟩ : ∃ n, xs.length = n := ⟨_, rfl⟩
 have hn2 : ys.length = n := by rw [hb'.len, ← ha.len, hn]
 have hlen := ha.ms.len T29 rfl
 rw [hn] at hlen
 have hlen2 := hb'.ms.len T29 rfl
 rw [hn2] at hlen2
 have hkx := hf.kx ha
 have hnb : n * 80 ≤ 140737488351232 := by have := hf.ms; rw [← hn, ha.len]; exact this
 refine call_pure fit mixed Tryz.func36 rfl rfl rfl (by kernel_rfl) rfl fun hM => ?_
 refine wq_seq (wq_line ?_)
 refine l_boxM T33 fun b2 H1 hM => ?_
 refine l_boxM T33 fun b3 H2 hM => ?_
 have hself : ((n : Int) != (n : Int)) = false := by simp
 refine goM ?_
 refine wq_loop (fun cc ρ h => ∃ (k : Nat), k ≤ n ∧ cc = n - k ∧ Mem H h [.box b3 (stC s.c rv' mv' ev' sv'), .box b2 (stC s.c rv mv ev sv)] ∧ ρ 2 = .ptr b2 0 ∧ ρ 3 = .ptr b3 0 ∧ ρ 5 = .int .i64 (k : Int)) ⟨0, Nat.zero_le _, rfl, hM, by simp [put_app, put_none, rho0_app, *]⟩ ?_
 repeat clear hM
 rintro _ ρ h ⟨k, hk, rfl, hM, g2, g3, g5⟩
 refine goM ?_
 refine cond_go (fun hb => ?_) (fun hb => ?_)
 ·have hk' : k < n := by simpa using hb
  clear hb
  obtain ⟨x, hx⟩ : ∃ x, xs[k]? = some x := ⟨xs[k]'(by omega), by simp⟩
  obtain ⟨y, hy⟩ : ∃ x, ys[k]? = some x := ⟨ys[k]'(by omega), by simp⟩
  have hxy : x.val = y.val := by
   have h1 : s.ms[k]? = some x.val := by rw [← ha.val, List.getElem?_map, hx]; rfl
   have h2 : s.ms[k]? = some y.val := by rw [← hb'.val, List.getElem?_map, hy]; rfl
   rw [h1] at h2
   exact Option.some.inj h2
  have hka := ha.ks x (List.mem_of_getElem? hx)
  have hkb := hb'.ks y (List.mem_of_getElem? hy)
  have hkf := hkx x (List.mem_of_getElem? hx)
  obtain ⟨bo, o, hi, _, loK, loH⟩ := mr_at (ha.ms.mono hM.pre) hx
  obtain ⟨bo2, o2, hi2, _, loK2, loH2⟩ := mr_at (hb'.ms.mono hM.pre) hy
  obtain ⟨xw, xv, xk, xh⟩ := x
  obtain ⟨yw, yv, yk, yh⟩ := y
  unfold MR.val at hxy
  simp only [Prod.mk.injEq] at hxy
  obtain ⟨rfl, rfl⟩ := hxy
  simp only at hka hkb hkf loK loH loK2 loH2
  have hw := wrap_succ (n := k) (by omega)
  have c1 := sameK_ h xw xv yw yv xk xk (hka.mono hM.pre) (hkb.mono hM.pre) hkf
  rw [kEq_self] at c1
  clear hx hy
  refine goM ?_
  refine d_call0G c1 ?_
  refine goM ?_
  exact ⟨n - (k + 1), by omega, k + 1, hk', rfl, hM, by simp [put_app, put_none, *]⟩
 ·have hk' : k = n := by have : ¬ k < n := by simpa using hb
                         omega
  subst hk'
  clear hb
  have c1 := sameConfig_ h s.c rv rv' (ha.rows.mono hM.pre) (hb'.rows.mono hM.pre) (by omega) (fun r hr => by have := l2 r hr; omega)
  have c2 := sameEvents h ev ev' s.es s.es (ha.es.mono hM.pre) (hb'.es.mono hM.pre) (by omega)
  have c3 := sameEnts_ h sv sv' s.st s.st (ha.st.mono hM.pre) (hb'.st.mono hM.pre) (by omega)
  rw [decide_eq_true rfl] at c2
  rw [entsEq_self] at c3
  refine goM ?_
  refine l_callG c1 ?_
  refine goM ?_
  refine l_callG c2 ?_
  refine goM ?_
  refine l_callG c3 ?_
  refine goM ?_
  exact end_1 (by first | exact .inl rfl | exact .inr rfl) ⟨rfl, hM.pre⟩
def Lies (W : List Res) (v : V) (xs : List Int) : Prop := (v = .nils ∧ xs = []) ∨ Res.own 1 intC v xs ∈ W
theorem Lies.more {W : List Res} {v : V} {xs : List Int} (h : Lies W v xs) (N : List Res) : Lies (N ++ W) v xs := h.imp id fun h => List.mem_append_right _ h
theorem Lies.sl {W : List Res} {v : V} {xs : List Int} (h : Lies W v xs) {H : Heap} (hW : (pack W).p H) : Sl 1 intC H v xs := by
 rcases h with ⟨rfl, rfl⟩ | h
 ·exact .inl ⟨rfl, rfl⟩
 ·have hm := pack_mem hW
  have h2 : Mem [] H [.own 1 intC v xs] := hm.sub (List.singleton_sublist.2 h)
  exact h2.sl .here
abbrev evV (e : Ev) : List V := [.int .i64 e.kind, .int .i64 e.member, .int .i64 e.donor, .int .i64 e.at_, .int .i64 e.rate, .int .i64 e.mom]
structure HChk where
 w : V
 v : V
 k : Chk
def ckC (cs : List V) (x : HChk) : Prop := cs = kC x.w x.v x.k
structure HRow where
 v : V
 r : List HChk
def hrPart (x : HRow) : Res := .own 5 ckC x.v x.r
def hrs (rw : List HRow) : List Res := rw.map hrPart
theorem cloneMems_ (H : Heap) (v : V) (xs : List MR) (hx : Sl 6 mrC H v xs) (hl : xs.length * 80 ≤ 2 ^ 47) : ∃ w H', Call Tryz.prog 131 [v] H w H' ∧ Mem H H' [.own 6 mrC w xs] := by
 refine call_mem fit mixed Tryz.func131 rfl rfl rfl (by kernel_rfl) fun hM => ?_
 rcases hx with ⟨rfl, rfl⟩ | ⟨b, off, cap, t, cs, wr, rfl, h1, h2, h3, h4⟩
 ·refine goM ?_
  exact end_1 (by first | exact .inl rfl | exact .inr rfl) (hM.nil 6 mrC)
 ·have hx : Sl 6 mrC H (.slc b off xs.length cap t 6) xs := .inr ⟨b, off, cap, t, cs, wr, rfl, h1, h2, h3, h4⟩
  clear h1 h2 h3 h4
  refine goM ?_
  refine l_sliceM (sz := 6) mrC [] [] T29 rfl T51 rfl (cells_mrs []) (by decide) fun e1 H3 hM => ?_
  refine goM ?_
  refine l_appM (hx.mono hM.pre) (xs := []) (hb := by simp only [List.length_nil]; show (0 + xs.length) * 80 ≤ _ ∧ _; omega) fun a H4 hM => ?_
  refine goM ?_
  exact end_1 (by first | exact .inl rfl | exact .inr rfl) hM
theorem cloneEvs_ (H : Heap) (v : V) (xs : List Ev) (hx : Sl 6 evC H v xs) (hl : xs.length * 48 ≤ 2 ^ 47) : ∃ w H', Call Tryz.prog 133 [v] H w H' ∧ Mem H H' [.own 6 evC w xs] := by
 refine call_mem fit mixed Tryz.func133 rfl rfl rfl (by kernel_rfl) fun hM => ?_
 rcases hx with ⟨rfl, rfl⟩ | ⟨b, off, cap, t, cs, wr, rfl, h1, h2, h3, h4⟩
 ·refine goM ?_
  exact end_1 (by first | exact .inl rfl | exact .inr rfl) (hM.nil 6 evC)
 ·have hx : Sl 6 evC H (.slc b off xs.length cap t 6) xs := .inr ⟨b, off, cap, t, cs, wr, rfl, h1, h2, h3, h4⟩
  clear h1 h2 h3 h4
  refine goM ?_
  refine l_sliceM (sz := 6) evC [] [] T30 rfl T61 rfl Cells.nil (by decide) fun e1 H3 hM => ?_
  refine goM ?_
  refine l_appM (hx.mono hM.pre) (xs := []) (hb := by simp only [List.length_nil]; show (0 + xs.length) * 48 ≤ _ ∧ _; omega) fun a H4 hM => ?_
  refine goM ?_
  exact end_1 (by first | exact .inl rfl | exact .inr rfl) hM
theorem memberCopy_ (H : Heap) (w v : V) (k : Chk) (hd : Int) (hk : KAt H w v k) (hf : k.Fit) : ∃ u H', Call Tryz.prog 132 [.agg (mC w v k hd)] H u H' ∧ ∃ a b, u = .agg (mC a b k hd) ∧ Mem H H' [.own 1 intC b k.vs, .own 1 intC a k.ws] := by
 have s1 := hk.ws.cells
 have s2 := hk.vs.cells
 refine call_mem fit mixed Tryz.func132 rfl rfl rfl (by kernel_rfl) fun hM => ?_
 refine wq_seq (wq_line ?_)
 refine l_boxM T51 fun b1 H1 hM => ?_
 refine l_newM (cs := zeroMem) T51 rfl fun b2 H2 hM => ?_
 refine goM ?_
 obtain ⟨_, H3, c1, a, b, rfl, m1⟩ := checkCopy_ H2 w v k (hk.mono hM.pre) hf
 refine l_callG c1 ?_
 have s3 := (m1.sl .here).cells
 have s4 := (m1.sl (.there .here)).cells
 replace hM := hM.call2 m1
 clear c1 m1
 refine goM ?_
 refine l_putM T45 fun H4 hM => ?_
 refine goM ?_
 refine l_putM T51 fun H5 hM => ?_
 refine goM ?_
 exact end_1 (by first | exact .inl rfl | exact .inr rfl) ⟨a, b, rfl, hM.subG⟩
theorem mr_put {B H : Heap} {L : List Res} {f : Res → List Res} {u : V} {ys : List MR} (hM : Mem B H L) (hh : Has L (.own 6 mrC u ys) f) {k : Nat} {y : MR} (hp : ys[k]? = some y) {b o : Nat} (hi : idxV T 29 u (k : Int) = some (.ptr b o))
  (off : Nat) {te : Nat} {it : TI} (hTe : T te = some it) (hoff : off + it.size ≤ 6) {w : V} {y' : MR} (hw : w.isTup = false) (hl : w.cells.length = it.size) (hs : setL (mC y.w y.v y.k y.h) off w.cells = mC y'.w y'.v y'.k y'.h) :
  ∃ H', storeV T te H b (o + off) w = some H' ∧ Mem B H' (f (.own 6 mrC u (ys.set k y'))) := by
 obtain ⟨b', hix, hput⟩ := hM.elemAt hh T29 rfl T51 rfl hp off hTe hoff
 rw [hi] at hix
 cases hix
 exact hput w y' hw hl fun cs hl hR => by rw [hR]; exact hs
theorem mr_in {H : Heap} {v : V} {xs : List MR} (h : Sl 6 mrC H v xs) {j b o : Nat} {x : MR} (hi : idxV T 29 v (j : Int) = some (.ptr b o)) (hx : xs[j]? = some x) :
  loadV T 45 H b o = some (.agg (kC x.w x.v x.k)) ∧ loadV T 43 H b (o + 2) = some (.agg [.int .i64 x.k.r, .int .i64 x.k.m]) ∧ loadV T 3 H b (o + 4) = some (.int .i64 x.k.t) ∧ loadV T 3 H b (o + 5) = some (.int .i64 x.h) := by
 obtain ⟨b', o', cs, hi', hc, _, hlo, hlc⟩ := h.get T29 rfl T51 rfl hx
 rw [hi] at hi'
 cases hi'
 rw [hc] at hlo hlc
 exact ⟨loadV_agg T45 rfl (loadN_in (j := 0) (n := 5) hlo (by decide)), loadV_agg T43 rfl (loadN_in (j := 2) (n := 2) hlo (by decide)), loadV_one T3 rfl (hlc 4 _ rfl), loadV_one T3 rfl (hlc 5 _ rfl)⟩
theorem set_same {α : Type} {l : List α} {k : Nat} {a : α} (h : l[k]? = some a) : l.set k a = l := by
 apply List.ext_getElem?
 intro j
 rw [List.getElem?_set]
 by_cases hj : k = j
 ·subst hj
  rw [if_pos rfl, if_pos (List.getElem?_eq_some_iff.1 h).1, h]
 ·rw [if_neg hj]
structure MrsK (xs ys : List MR) (k : Nat) : Prop where
 len : ys.length = xs.length
 old : ∀ j, k ≤ j → ys[j]? = xs[j]?
 val : ys.map MR.val = xs.map MR.val
theorem controlCopy_ (H : Heap) (s : St) (rv mv ev sv : V) (xs : List MR) (ha : StAt H rv mv ev sv xs s) (hf : s.Fit) (hl64 : s.st.length ≤ 64) :
  ∃ w H', Call Tryz.prog 61 [.agg (stC s.c rv mv ev sv)] H w H' ∧ ∃ u mv' ev' sv' rvs xs', w = .agg (stC s.c u mv' ev' sv') ∧ Like rvs s.c.rows ∧ xs'.map MR.val = s.ms ∧ Mem H H' (stOwn u mv' ev' sv' rvs xs' s) := by
 have z1 : rv.cells = [rv] ∧ rv.isTup = false := by obtain ⟨_, h, _⟩ := ha.rows; exact h.cells
 have z2 := ha.ms.cells
 have z3 := ha.es.cells
 have z4 := ha.st.cells
 have l4 := hf.es
 have l5 := hf.st
 have hkx := hf.kx ha
 have hnb : xs.length * 80 ≤ 140737488351232 := by have := hf.ms; rw [ha.len]; exact this
 refine call_mem fit mixed Tryz.func61 rfl rfl rfl (by kernel_rfl) fun hM => ?_
 refine wq_seq (wq_line ?_)
 refine l_boxM T33 fun b1 H1 hM => ?_
 refine l_newM (cs := zeroSt) T33 rfl fun b2 H2 hM => ?_
 obtain ⟨n, hn⟩ : ∃ n, xs.length = n := ⟨_, rfl⟩
 refine goM ?_
 obtain ⟨_, H3, c1, u, rvs, rfl, hlk, m1⟩ := configCopy_ H2 s.c rv (ha.rows.mono hM.pre) hf.c
 refine d_callG c1 (.inl m1.pre) ?_
 have s7 : u.cells = [u] ∧ u.isTup = false := by obtain ⟨_, h, _⟩ := rows_pack (m1.fact .here) hlk; exact h.cells
 replace hM := hM.call1 m1
 clear c1 m1
 refine goM ?_
 obtain ⟨v, H4, c1, m1⟩ := cloneMems_ H3 mv xs (ha.ms.mono hM.pre) (by omega)
 refine d_callG c1 (.inl m1.pre) ?_
 have s8 := (m1.sl .here).cells
 have hlen := (m1.sl .here).len T29 rfl
 rw [hn] at hlen
 replace hM := hM.call1 m1
 clear c1 m1
 refine goM ?_
 refine d_putM T26 fun H5 hM => ?_
 refine goM ?_
 refine d_putM T29 fun H6 hM => ?_
 refine goM ?_
 have hM0 : Mem H H6 [.ro (pack (mems (xs.take 0))), .own 6 mrC v xs, .ro (pack (rowsR u rvs s.c.rows)), .box b2 zeroSt, .box b1 (stC s.c u v ev sv)] := Mem.packed (L := []) hM
 refine wq_loop (fun cc ρ h => ∃ (k : Nat) (ys : List MR), k ≤ n ∧ cc = n - k ∧ MrsK xs ys k ∧ Mem H h [.ro (pack (mems (ys.take k))), .own 6 mrC v ys, .ro (pack (rowsR u rvs s.c.rows)), .box b2 zeroSt, .box b1 (stC s.c u v ev sv)] ∧ ρ 1 = .ptr b1 0 ∧ ρ 2 = .ptr b2 0 ∧ ρ 14 = .int .i64 (n : Int) ∧ ρ 15 = .int .i64 (k : Int)) ⟨0, xs, Nat.zero_le _, rfl, ⟨rfl, fun _ _ => rfl, rfl⟩, hM0, by simp [put_app, put_none, rho0_app, *]⟩ ?_
 repeat clear hM
 clear hM0 hlen
 rintro _ ρ h ⟨k, ys, hk, rfl, hmk, hM, g1, g2, g14, g15⟩
 refine goM ?_
 refine cond_go (fun hb => ?_) (fun hb => ?_)
 ·have hk' : k < n := by simpa using hb
  clear hb
  have hyl := hmk.len
  obtain ⟨x, hx⟩ : ∃ x, ys[k]? = some x := ⟨ys[k]'(by omega), by simp⟩
  have hxx : xs[k]? = some x := by rw [← hmk.old k (Nat.le_refl _)]; exact hx
  have hka := ha.ks x (List.mem_of_getElem? hxx)
  have hkf := hkx x (List.mem_of_getElem? hxx)
  obtain ⟨bo, o, hi, lo, _, _⟩ := mr_at (hM.sl (v := v) (xs := ys) (by (repeat (first | exact Has.here | apply Has.there)))) hx
  have s1 := hka.ws.cells
  have s2 := hka.vs.cells
  have hw := wrap_succ (n := k) (by omega)
  obtain ⟨_, H7, c1, a, b', rfl, m1⟩ := memberCopy_ h x.w x.v x.k x.h (hka.mono hM.pre) hkf
  have hM7 := hM.call2 m1
  obtain ⟨H8, st, hM8⟩ := mr_put hM7 (u := v) (ys := ys) (by (repeat (first | exact Has.here | apply Has.there))) hx hi 0 T51 (by decide) (w := .agg (mC a b' x.k x.h)) (y' := ⟨a, b', x.k, x.h⟩) rfl rfl rfl
  rw [Nat.add_zero] at st
  have hm1 := ((hM8.front (r := .ro (pack (mems (ys.take k)))) (by (repeat (first | exact Take.here | apply Take.there)))).front (r := .own 1 intC b' x.k.vs) (by (repeat (first | exact Take.here | apply Take.there)))).front (r := .own 1 intC a x.k.ws) (by (repeat (first | exact Take.here | apply Take.there)))
  have hm2 := Mem.memsMore (x := ⟨a, b', x.k, x.h⟩) hm1
  have hmk2 : MrsK xs (ys.set k ⟨a, b', x.k, x.h⟩) (k + 1) := ⟨by rw [List.length_set]; exact hyl, fun j hj => by rw [List.getElem?_set_ne (by omega)]; exact hmk.old j (by omega), by
   rw [List.map_set, ← hmk.val]
   exact set_same (by rw [List.getElem?_map, hx]; rfl)⟩
  have htk : ys.take k ++ [⟨a, b', x.k, x.h⟩] = (ys.set k ⟨a, b', x.k, x.h⟩).take (k + 1) := by
   rw [List.take_add_one, List.getElem?_set_self (by omega), List.take_set_of_le (Nat.le_refl _)]; rfl
  rw [htk] at hm2
  clear hm1 htk hM8 hM7 hx hxx hmk
  refine goM ?_
  refine d_callG c1 (.inl m1.pre) ?_
  replace hM := hM.call2 m1
  clear c1 m1
  refine goM ?_
  refine d_stM st ?_
  clear hM
  refine goM ?_
  exact ⟨n - (k + 1), by omega, k + 1, _, hk', rfl, hmk2, hm2.sub (by (repeat (first | exact List.Sublist.slnil | exact List.Sublist.refl _ | refine List.Sublist.cons_cons _ ?_ | refine List.Sublist.cons _ ?_))), by simp [put_app, put_none, *]⟩
 ·have hk' : k = n := by have : ¬ k < n := by simpa using hb
                         omega
  subst hk'
  clear hb
  have hyl := hmk.len
  have hyv := hmk.val
  rw [List.take_of_length_le (by omega)] at hM
  rw [ha.val] at hyv
  clear hmk
  refine goM ?_
  obtain ⟨ev', H7, c1, m1⟩ := cloneEvs_ h ev s.es (ha.es.mono hM.pre) (by omega)
  refine d_callG c1 (.inl m1.pre) ?_
  have s5 := (m1.sl .here).cells
  replace hM := hM.call1 m1
  clear c1 m1
  refine goM ?_
  obtain ⟨sv', H8, c1, m1⟩ := cloneEnt_ H7 sv s.st (ha.st.mono hM.pre) hl64
  refine d_callG c1 (.inl m1.pre) ?_
  have s6 := (m1.sl .here).cells
  replace hM := hM.call1 m1
  clear c1 m1
  refine goM ?_
  refine d_putM T30 fun H9 hM => ?_
  refine goM ?_
  refine d_putM T31 fun H10 hM => ?_
  refine goM ?_
  refine l_putM T33 fun H11 hM => ?_
  refine goM ?_
  refine end_1 (by first | exact .inl rfl | exact .inr rfl) ⟨u, v, ev', sv', rvs, ys, rfl, hlk, hyv, ?_⟩
  have h1 := (((hM.front (r := .own 3 entC sv' s.st) (by (repeat (first | exact Take.here | apply Take.there)))).front (r := .own 6 evC ev' s.es) (by (repeat (first | exact Take.here | apply Take.there)))).front (r := .own 6 mrC v ys) (by (repeat (first | exact Take.here | apply Take.there)))).front (r := .ro (pack (mems ys))) (by (repeat (first | exact Take.here | apply Take.there)))
  exact (h1.front (r := .ro (pack (rowsR u rvs s.c.rows))) (by (repeat (first | exact Take.here | apply Take.there)))).sub (by unfold stOwn; (repeat (first | exact List.Sublist.slnil | exact List.Sublist.refl _ | refine List.Sublist.cons_cons _ ?_ | refine List.Sublist.cons _ ?_)))
theorem Mem.newMr {B H : Heap} {ys : List MR} {M : List Res} {y : MR} {i : Nat} (h : Mem B H (.own 1 intC y.w y.k.ws :: .own 1 intC y.v y.k.vs :: .ro (pack (mems ys)) :: M)) (hi : i < ys.length) : Mem B H (.ro (pack (mems (ys.set i y))) :: M) := by
 have h1 := h.pack2.swap
 have h2 := Mem.repack h1 i (by unfold mems; rw [List.length_map]; exact hi)
 have e : (mems ys).set i (.ro (pack [.own 1 intC y.w y.k.ws, .own 1 intC y.v y.k.vs])) = mems (ys.set i y) := by
  unfold mems; rw [List.map_set]; rfl
 rw [e] at h2
 exact h2
theorem mems_same {ys : List MR} {p q : MR} {i : Nat} (hp : ys[i]? = some p) (e1 : q.w = p.w) (e2 : q.v = p.v) (e3 : q.k.ws = p.k.ws) (e4 : q.k.vs = p.k.vs) : mems (ys.set i q) = mems ys := by
 unfold mems
 rw [List.map_set]
 have : kPart q.w q.v q.k.ws q.k.vs = kPart p.w p.v p.k.ws p.k.vs := by rw [e1, e2, e3, e4]
 rw [this]
 apply List.ext_getElem?
 intro j
 rw [List.getElem?_set]
 by_cases hj : i = j
 ·subst hj
  rw [List.getElem?_map, hp]
  have := (List.getElem?_eq_some_iff.1 hp).1
  simp [this]
 ·simp [hj]
abbrev spC (c : Cfg) (rv mv ev sv : V) (p : Nat) (cb co : Nat) : List V := [.int .i64 c.m, .int .i64 c.i, .int .i64 c.h, rv, .int .i64 c.seed, .int .i64 c.total, .int .i64 c.interval, .int .i64 c.cutn, .bool c.pert, mv, ev, sv, .int .i64 p, .ptr cb co]
abbrev spM (bt : Nat) (u mv ev sv : V) (rvs : List (V × Int)) (ys : List MR) (c : Cfg) (es : List Ev) (st : List Ent) (p cb co : Nat) (L : List Res) : List Res :=
 .box bt (spC c u mv ev sv p cb co) :: .own 6 mrC mv ys :: .own 6 evC ev es :: .own 3 entC sv st :: .ro (pack (mems ys)) :: .ro (pack (rowsR u rvs c.rows)) :: L
theorem cells_ev (e : Ev) : Cells 6 evC (evV e) [e] := cells_of (R := evC) evV (fun x => ⟨rfl, rfl⟩) [e]
theorem tell_ {B H : Heap} {L : List Res} {bt : Nat} {u mv ev sv : V} {rvs : List (V × Int)} {ys : List MR} {c : Cfg} {es : List Ev} {st : List Ent} {p cb co : Nat} (e : Ev) (hM : Mem B H (spM bt u mv ev sv rvs ys c es st p cb co L)) (hl : es.length ≤ 2000) :
  ∃ w H', Call Tryz.prog 63 [.ptr bt 0, .agg (evV e)] H w H' ∧ w = .tup [] ∧ ∃ ev', Mem B H' (spM bt u mv ev' sv rvs ys c (es ++ [⟨e.kind, p, e.donor, e.at_, e.rate, e.mom⟩]) st p cb co L) := by
 have s1 := (hM.sl (v := ev) (xs := es) (by (repeat (first | exact Has.here | apply Has.there)))).cells
 refine call_turn fit mixed hM Tryz.func63 rfl rfl rfl (by kernel_rfl) fun _ => ?_
 refine wq_seq (wq_line ?_)
 refine l_boxM T61 fun b1 H1 hM => ?_
 refine goM ?_
 refine l_putM T3 fun H2 hM => ?_
 refine goM ?_
 refine d_sliceM evC [⟨e.kind, p, e.donor, e.at_, e.rate, e.mom⟩] (evV ⟨e.kind, p, e.donor, e.at_, e.rate, e.mom⟩) T30 rfl T61 rfl (cells_ev _) (by decide) fun e1 H3 hM => ?_
 refine goM ?_
 refine d_appM (hM.sl .here) (xs := es) (hh := by (repeat (first | exact Has.here | apply Has.there))) (hb := by simp only [List.length_cons, List.length_nil]; show (es.length + 1) * 48 ≤ _ ∧ es.length + 1 ≤ _; omega) fun ev' H4 hM => ?_
 have s2 := (hM.sl (v := ev') (xs := es ++ [⟨e.kind, p, e.donor, e.at_, e.rate, e.mom⟩]) (by (repeat (first | exact Has.here | apply Has.there)))).cells
 refine goM ?_
 refine d_putM T30 fun H5 hM => ?_
 refine goM ?_
 refine end_normal (by simp only [resRf, resRs, resR]; first | done | rfl) ⟨rfl, ev', hM.subG⟩
def hypMR (c : Cfg) (y : MR) (k : Nat) : MR := ⟨y.w, y.v, ⟨y.k.ws, y.k.vs, (triedR c y.k.r y.k.m k).1, (triedR c y.k.r y.k.m k).2, y.k.t⟩, y.h⟩
def hypEv (c : Cfg) (y : MR) (k p : Nat) : Ev := ⟨2, p, 0, 0, (triedR c y.k.r y.k.m k).1, (triedR c y.k.r y.k.m k).2⟩
theorem explore_ {B H : Heap} {L : List Res} {bt : Nat} {u mv ev sv : V} {rvs : List (V × Int)} {ys : List MR} {c : Cfg} {es : List Ev} {st : List Ent} {p cb co : Nat} {y : MR} (k : Nat) (hM : Mem B H (spM bt u mv ev sv rvs ys c es st p cb co L)) (hy : ys[p]? = some y)
  (hi : idxV T 29 mv (p : Int) = some (.ptr cb co)) (hc : cfgMay c = true) (hh : hyperMay y.k.r y.k.m = true) (hk : k ≤ 1000000) (hl : es.length ≤ 1999) :
  ∃ w H', Call Tryz.prog 141 [.ptr bt 0, .int .i64 k] H w H' ∧ w = .tup [] ∧ ∃ ev', Mem B H' (spM bt u mv ev' sv rvs (ys.set p (hypMR c y k)) c (es ++ [hypEv c y k p]) st p cb co L) := by
 obtain ⟨_, _, ⟨hs0, hs1⟩, _⟩ := cfgMay_split hc
 have hsn : ((c.seed.toNat : Nat) : Int) = c.seed := Int.toNat_of_nonneg hs0
 have hml : p < ys.length := (List.getElem?_eq_some_iff.1 hy).1
 obtain ⟨l0, l2, l4, l5⟩ := mr_in (hM.sl (v := mv) (xs := ys) (by (repeat (first | exact Has.here | apply Has.there)))) hi hy
 have w1 := wrap_succ (n := k) (by omega)
 have w2 : IntKind.i64.wrap ((k : Int) + 2) = (k : Int) + 2 := wrap_i64 (by omega) (by omega)
 obtain ⟨yw, yv, yk, yh⟩ := y
 obtain ⟨kws, kvs, kr, km, kt⟩ := yk
 unfold hypMR hypEv
 simp only at hh l0 l2 l4 l5 ⊢
 have hset : ∀ a b : Int, ∃ H1, storeV T 43 H cb (co + 2) (.agg [.int .i64 a, .int .i64 b]) = some H1 ∧ loadV T 43 H1 cb (co + 2) = some (.agg [.int .i64 a, .int .i64 b]) ∧ Mem B H1 (spM bt u mv ev sv rvs (ys.set p ⟨yw, yv, ⟨kws, kvs, a, b, kt⟩, yh⟩) c es st p cb co L) := fun a b => by
  obtain ⟨H1, st1, hM1⟩ := mr_put hM (u := mv) (ys := ys) (by (repeat (first | exact Has.here | apply Has.there))) hy hi 2 T43 (by decide) (w := .agg [.int .i64 a, .int .i64 b]) (y' := ⟨yw, yv, ⟨kws, kvs, a, b, kt⟩, yh⟩) rfl rfl rfl
  have hy1 : (ys.set p ⟨yw, yv, ⟨kws, kvs, a, b, kt⟩, yh⟩)[p]? = some ⟨yw, yv, ⟨kws, kvs, a, b, kt⟩, yh⟩ := List.getElem?_set_self hml
  obtain ⟨_, g2, _⟩ := mr_in (hM1.sl (v := mv) (xs := ys.set p ⟨yw, yv, ⟨kws, kvs, a, b, kt⟩, yh⟩) (by (repeat (first | exact Has.here | apply Has.there)))) hi hy1
  refine ⟨H1, st1, g2, ?_⟩
  unfold spM
  rw [mems_same (q := ⟨yw, yv, ⟨kws, kvs, a, b, kt⟩, yh⟩) hy rfl rfl rfl rfl]
  exact hM1
 unfold triedR
 obtain ⟨ct, hct⟩ : ∃ q, c.pert = q := ⟨_, rfl⟩
 cases ct with
 | true =>
  rw [if_pos hct]
  have hm : drawMay (c.seed.toNat : Nat) ((k + 1 : Nat) : Int) = true := by
   unfold drawMay
   rw [within_iff.2 (by omega), within_iff.2 (by omega)]; rfl
  have hb4 : pickN c.seed.toNat (k + 1) 4 < 4 := pickN_lt (s := c.seed.toNat) (k := k + 1) (b := 4) (by decide)
  have c1 : Call Tryz.prog 198 [.int .i64 c.seed, .int .i64 ((k : Int) + 1), .int .i64 4] H (.tup [.int .i64 (pickN c.seed.toNat (k + 1) 4 : Nat), .int .i64 0]) H := by
   have := drawPick_ H c.seed.toNat (k + 1) 4 hm (by decide) (by decide)
   rw [hsn] at this
   exact this
  have c2 := perturb_ H kr km (pickN c.seed.toNat (k + 1) 4) hh hb4
  generalize pickN c.seed.toNat (k + 1) 4 = x at *
  generalize pertR kr km x = z at *
  obtain ⟨H1, st1, g2, hM1⟩ := hset z.1 z.2
  obtain ⟨_, H2, c3, rfl, ev', hM2⟩ := tell_ ⟨2, 0, 0, 0, z.1, z.2⟩ hM1 (by omega)
  clear hset hsn hm
  refine call_turn fit mixed hM Tryz.func141 rfl rfl rfl (by kernel_rfl) fun _ => ?_
  refine goM ?_
  refine l_callG c1 ?_
  refine goM ?_
  refine d_call0G c2 ?_
  refine goM ?_
  refine d_stM st1 ?_
  clear hM l0 l2 l4 l5
  have hM := hM1
  clear hM1
  refine goM ?_
  refine l_callG c3 ?_
  refine goM ?_
  refine end_normal (by simp only [resRf, resRs, resR]; first | done | rfl) ⟨rfl, ev', hM2⟩
 | false =>
  rw [if_neg (by rw [hct]; decide)]
  have c1 : Call Tryz.prog 204 [.int .i64 c.seed, .int .i64 ((k : Int) + 2)] H (.tup [.agg [.int .i64 (rateN c.seed.toNat (k + 2) : Nat), .int .i64 (momN c.seed.toNat (k + 2) : Nat)], .int .i64 0]) H := by
   have := resample_ H c.seed.toNat (k + 2) (by omega) (by omega)
   rw [hsn] at this
   exact this
  generalize rateN c.seed.toNat (k + 2) = a at *
  generalize momN c.seed.toNat (k + 2) = b at *
  obtain ⟨H1, st1, g2, hM1⟩ := hset a b
  obtain ⟨_, H2, c3, rfl, ev', hM2⟩ := tell_ ⟨2, 0, 0, 0, a, b⟩ hM1 (by omega)
  clear hset hsn
  refine call_turn fit mixed hM Tryz.func141 rfl rfl rfl (by kernel_rfl) fun _ => ?_
  refine goM ?_
  refine d_call0G c1 ?_
  refine goM ?_
  refine d_stM st1 ?_
  clear hM l0 l2 l4 l5
  have hM := hM1
  clear hM1
  refine goM ?_
  refine l_callG c3 ?_
  refine goM ?_
  refine end_normal (by simp only [resRf, resRs, resR]; first | done | rfl) ⟨rfl, ev', hM2⟩
def headMR (st : List Ent) (y : MR) : MR := ⟨y.w, y.v, y.k, (put2 st (textK y.k)).2.1⟩
theorem keep_ {B H : Heap} {L : List Res} {bt : Nat} {u mv ev sv : V} {rvs : List (V × Int)} {ys : List MR} {c : Cfg} {es : List Ev} {st : List Ent} {p cb co : Nat} {y : MR} (hM : Mem B H (spM bt u mv ev sv rvs ys c es st p cb co L)) (hy : ys[p]? = some y)
  (hi : idxV T 29 mv (p : Int) = some (.ptr cb co)) (hf : kFits c y.k = true) (hl : st.length ≤ 100) :
  ∃ w H', Call Tryz.prog 65 [.ptr bt 0] H w H' ∧ w = .tup [] ∧ ∃ sv', Mem B H' (spM bt u mv ev sv' rvs (ys.set p (headMR st y)) c es (dropS (put2 st (textK y.k)).1 y.h).1 p cb co L) := by
 have hml : p < ys.length := (List.getElem?_eq_some_iff.1 hy).1
 obtain ⟨l0, _, _, l5⟩ := mr_in (hM.sl (v := mv) (xs := ys) (by (repeat (first | exact Has.here | apply Has.there)))) hi hy
 have hka := mems_at (hM.fact (F := pack (mems ys)) (by (repeat (first | exact Has.here | apply Has.there)))) y (List.mem_of_getElem? hy)
 have hcm : chkMay y.k.ws y.k.vs y.k.r y.k.m y.k.t = true := by
  unfold kFits memFits at hf
  rw [Bool.and_eq_true] at hf
  exact hf.1
 obtain ⟨yw, yv, yk, yh⟩ := y
 simp only at l0 l5 hka hcm hf
 have s1 := hka.ws.cells
 have s2 := hka.vs.cells
 have c1 : Call Tryz.prog 142 [.agg (kC yw yv yk)] H (.tup [.str (textK yk), .int .i64 0]) H := checkPut_ H yw yv yk.ws yk.vs yk.r yk.m yk.t hka.ws hka.vs hcm
 have e1 : mems (ys.set p (headMR st ⟨yw, yv, yk, yh⟩)) = mems ys := mems_same hy rfl rfl rfl rfl
 unfold headMR at e1 ⊢
 simp only at e1 ⊢
 obtain ⟨_, H1, c2, x1, rfl, m1⟩ := put15_ H sv st (textK yk) (hM.sl (v := sv) (xs := st) (by (repeat (first | exact Has.here | apply Has.there)))) (by omega)
 have t1 := (m1.sl .here).cells
 have hpl := putS_len st (textK yk)
 refine call_turn fit mixed hM Tryz.func65 rfl rfl rfl (by kernel_rfl) fun _ => ?_
 refine goM ?_
 refine l_callG c1 ?_
 refine goM ?_
 refine l_callG c2 ?_
 replace hM := hM.call1 m1
 clear c1 c2 m1 l0 l5 hka
 unfold put2 at e1 ⊢
 by_cases hq : (putS st (textK yk)).2.2 = 0
 ·have q0 : ((putS st (textK yk)).2.2 != 0) = false := by rw [hq]; rfl
  rw [if_pos hq] at e1 ⊢
  generalize putS st (textK yk) = o at *
  obtain ⟨st', id', er'⟩ := o
  simp only at q0 hM hpl e1 ⊢
  obtain ⟨_, _, _, l5⟩ := mr_in (hM.sl (v := mv) (xs := ys) (by (repeat (first | exact Has.here | apply Has.there)))) hi hy
  simp only at l5
  obtain ⟨_, H2, c3, x2, rfl, m2⟩ := drop15_ H1 x1 st' yh (hM.sl (v := x1) (xs := st') (by (repeat (first | exact Has.here | apply Has.there)))) (by omega)
  have t2 := (m2.sl .here).cells
  refine goM ?_
  refine d_callG c3 (.inl m2.pre) ?_
  replace hM := hM.call1 m2
  clear c3 m2 l5
  refine goM ?_
  refine d_putM T31 fun H3 hM => ?_
  obtain ⟨H4, st4, hM4⟩ := mr_put hM (u := mv) (ys := ys) (by (repeat (first | exact Has.here | apply Has.there))) hy hi 5 T3 (by decide) (w := .int .i64 id') (y' := ⟨yw, yv, yk, id'⟩) rfl rfl rfl
  rw [← e1] at hM4
  refine goM ?_
  refine d_stM st4 ?_
  refine goM ?_
  clear hM
  refine end_normal (by simp only [resRf, resRs, resR]; first | done | rfl) ⟨rfl, x2, ?_⟩
  have h1 := (hM4.front (r := .own 3 entC x2 (dropS st' yh).1) (by (repeat (first | exact Take.here | apply Take.there)))).front (r := .own 6 evC ev es) (by (repeat (first | exact Take.here | apply Take.there)))
  have h2 := h1.front (r := .own 6 mrC mv (ys.set p ⟨yw, yv, yk, id'⟩)) (by (repeat (first | exact Take.here | apply Take.there)))
  exact (h2.front (r := .box bt (spC c u mv ev x2 p cb co)) (by (repeat (first | exact Take.here | apply Take.there)))).sub (by (repeat (first | exact List.Sublist.slnil | exact List.Sublist.refl _ | refine List.Sublist.cons_cons _ ?_ | refine List.Sublist.cons _ ?_)))
 ·have q0 : ((putS st (textK yk)).2.2 != 0) = true := by simpa using hq
  rw [if_neg hq] at e1 ⊢
  generalize putS st (textK yk) = o at *
  obtain ⟨st', id', er'⟩ := o
  simp only at q0 hM hpl
  obtain ⟨_, H2, c3, x2, rfl, m2⟩ := sweep15_ H1 sv st (hM.sl (v := sv) (xs := st) (by (repeat (first | exact Has.here | apply Has.there)))) (by omega)
  have hsl := sweepS_len st
  generalize sweepS st = o at *
  obtain ⟨st2, er2⟩ := o
  simp only at hsl m2 e1 ⊢
  have t2 := (m2.sl .here).cells
  refine goM ?_
  refine l_callG c3 ?_
  replace hM := hM.call1 m2
  clear c3 m2
  refine goM ?_
  refine l_putM T31 fun H3 hM => ?_
  obtain ⟨_, H4, c4, x3, rfl, m3⟩ := put15_ H3 x2 st2 (textK yk) (hM.sl (v := x2) (xs := st2) (by (repeat (first | exact Has.here | apply Has.there)))) (by omega)
  have t3 := (m3.sl .here).cells
  have hpl2 := putS_len st2 (textK yk)
  refine goM ?_
  refine l_callG c4 ?_
  replace hM := hM.call1 m3
  clear c4 m3
  generalize putS st2 (textK yk) = o at *
  obtain ⟨st3, id3, er3⟩ := o
  simp only at hM hpl2 e1 ⊢
  obtain ⟨_, _, _, l5⟩ := mr_in (hM.sl (v := mv) (xs := ys) (by (repeat (first | exact Has.here | apply Has.there)))) hi hy
  simp only at l5
  obtain ⟨_, H5, c5, x4, rfl, m4⟩ := drop15_ H4 x3 st3 yh (hM.sl (v := x3) (xs := st3) (by (repeat (first | exact Has.here | apply Has.there)))) (by omega)
  have t4 := (m4.sl .here).cells
  refine goM ?_
  refine d_callG c5 (.inl m4.pre) ?_
  replace hM := hM.call1 m4
  clear c5 m4 l5
  refine goM ?_
  refine d_putM T31 fun H6 hM => ?_
  obtain ⟨H7, st7, hM7⟩ := mr_put hM (u := mv) (ys := ys) (by (repeat (first | exact Has.here | apply Has.there))) hy hi 5 T3 (by decide) (w := .int .i64 id3) (y' := ⟨yw, yv, yk, id3⟩) rfl rfl rfl
  rw [← e1] at hM7
  refine goM ?_
  refine d_stM st7 ?_
  refine goM ?_
  clear hM
  refine end_normal (by simp only [resRf, resRs, resR]; first | done | rfl) ⟨rfl, x4, ?_⟩
  have h1 := (hM7.front (r := .own 3 entC x4 (dropS st3 yh).1) (by (repeat (first | exact Take.here | apply Take.there)))).front (r := .own 6 evC ev es) (by (repeat (first | exact Take.here | apply Take.there)))
  have h2 := h1.front (r := .own 6 mrC mv (ys.set p ⟨yw, yv, yk, id3⟩)) (by (repeat (first | exact Take.here | apply Take.there)))
  exact (h2.front (r := .box bt (spC c u mv ev x4 p cb co)) (by (repeat (first | exact Take.here | apply Take.there)))).sub (by (repeat (first | exact List.Sublist.slnil | exact List.Sublist.refl _ | refine List.Sublist.cons_cons _ ?_ | refine List.Sublist.cons _ ?_)))
structure SV where
 u : V
 mv : V
 ev : V
 sv : V
 rvs : List (V × Int)
 xs : List MR
def SV.own (q : SV) (s : St) : Res := .ro (pack (stOwn q.u q.mv q.ev q.sv q.rvs q.xs s))
structure SV.Ok (q : SV) (s : St) : Prop where
 lk : Like q.rvs s.c.rows
 val : q.xs.map MR.val = s.ms
abbrev SV.c (q : SV) (s : St) : List V := stC s.c q.u q.mv q.ev q.sv
theorem SV.at_ {B H : Heap} {L : List Res} {f : Res → List Res} {q : SV} {s : St} (hk : q.Ok s) (hM : Mem B H L) (hh : Has L (q.own s) f := by (repeat (first | exact Has.here | apply Has.there))) : StAt H q.u q.mv q.ev q.sv q.xs s :=
 st_at (L := []) (by have := pack_mem (hM.fact (show Has L (.ro (pack (stOwn q.u q.mv q.ev q.sv q.rvs q.xs s))) f from hh)); simpa using this) hk.lk hk.val
structure Celled (u mv ev sv : V) : Prop where
 u : u.cells = [u] ∧ u.isTup = false
 mv : mv.cells = [mv] ∧ mv.isTup = false
 ev : ev.cells = [ev] ∧ ev.isTup = false
 sv : sv.cells = [sv] ∧ sv.isTup = false
theorem StAt.celled {H : Heap} {rv mv ev sv : V} {xs : List MR} {s : St} (h : StAt H rv mv ev sv xs s) : Celled rv mv ev sv :=
 ⟨by obtain ⟨_, h, _⟩ := h.rows; exact h.cells, h.ms.cells, h.es.cells, h.st.cells⟩
theorem Mem.sv {B H : Heap} {L : List Res} {u mv ev sv : V} {rvs : List (V × Int)} {xs : List MR} {s : St} (h : Mem B H (stOwn u mv ev sv rvs xs s ++ L)) : Mem B H (SV.own ⟨u, mv, ev, sv, rvs, xs⟩ s :: L) := h.packed
theorem Mem.svN {B H : Heap} {u mv ev sv : V} {rvs : List (V × Int)} {xs : List MR} {s : St} (h : Mem B H (stOwn u mv ev sv rvs xs s)) : Mem B H [SV.own ⟨u, mv, ev, sv, rvs, xs⟩ s] := Mem.packed (L := stOwn u mv ev sv rvs xs s) (M := []) (by simpa using h)
def AnsS (H : Heap) (r : St × Int) (w : V) (H' : Heap) : Prop := ∃ q : SV, w = .tup [.agg (q.c r.1), .int .i64 r.2] ∧ q.Ok r.1 ∧ Mem H H' [q.own r.1]
theorem no_own (H : Heap) : Mem H H [SV.own ⟨.nils, .nils, .nils, .nils, [], []⟩ noSt] := (no_state (H := H)).svN
theorem no_ok : SV.Ok ⟨.nils, .nils, .nils, .nils, [], []⟩ noSt := ⟨⟨rfl, by simp [noSt, noCfg]⟩, rfl⟩
theorem newD_ (H : Heap) (c : Cfg) (rv : V) (hr : Rows H rv c.rows) (hf : c.Fit) : ∃ w H', Call Tryz.prog 18 [.agg (cfgC c rv)] H w H' ∧ AnsS H (newR c) w H' := by
 obtain ⟨w, H', h, u, mv, sv, rvs, xs, rfl, h1, h2, h3⟩ := refNew_ H c rv hr hf
 exact ⟨_, H', h, ⟨u, mv, .nils, sv, rvs, xs⟩, rfl, ⟨h1, h2⟩, h3.svN⟩
theorem sameP_ (H : Heap) (s : St) {rv mv ev sv rv' mv' ev' sv' : V} {xs ys : List MR} (ha : StAt H rv mv ev sv xs s) (hb' : StAt H rv' mv' ev' sv' ys s) (hf : s.Fit) :
  Call Tryz.prog 36 [.agg (stC s.c rv mv ev sv), .agg (stC s.c rv' mv' ev' sv')] H (.bool true) H := sameState_ H s rv mv ev sv rv' mv' ev' sv' xs ys ha hb' hf
end Go.Proofs.YtaofdhgkgklppaaGreat.VM
