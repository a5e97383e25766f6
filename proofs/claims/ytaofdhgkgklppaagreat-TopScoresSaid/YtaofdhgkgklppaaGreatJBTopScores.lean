/- Joined texts: TopC. -/
import Derived.Test.YtaofdhgkgklppaaGreatJB1
import Derived.Test.YtaofdhgkgklppaaGreatJB2
import Derived.Test.YtaofdhgkgklppaaGreatJB3
import Derived.Test.YtaofdhgkgklppaaGreatJB4
import Derived.Test.YtaofdhgkgklppaaGreatJB5
import Derived.Test.YtaofdhgkgklppaaGreatJB6
import Derived.Test.YtaofdhgkgklppaaGreatJB7
import Derived.Test.YtaofdhgkgklppaaGreatJB8
import Derived.Test.YtaofdhgkgklppaaGreatJB9
import Derived.Test.YtaofdhgkgklppaaGreatJB10
import Derived.Test.YtaofdhgkgklppaaGreatJB11
import Derived.Test.YtaofdhgkgklppaaGreatJB12
import Derived.Test.YtaofdhgkgklppaaGreatJB13
import Derived.Test.YtaofdhgkgklppaaGreatJBTopAll
namespace Go.Proofs.YtaofdhgkgklppaaGreat.VM
open Go
set_option linter.unusedVariables false
set_option linter.unusedSimpArgs false
attribute [local irreducible] wq wqL wqD wqE wqO Th Bk EndR
set_option maxHeartbeats 8000000
theorem loss_may (i h : Nat) (ws : List Int) (rs : List (List Int × Int)) : fixMay (lossN i h ws rs) = true := by
 unfold lossN
 have gen : ∀ (rs : List (List Int × Int)) (a : Int), fixMay a = true → fixMay (rs.foldl (fun a r => plus a (times (errN i h ws r) (errN i h ws r))) a) = true := by
  intro rs
  induction rs with
  | nil => intro a ha; exact ha
  | cons r rs ih => intro a _; exact ih _ (cut_may _)
 exact gen rs 0 (by decide)
theorem score_may (c : Cfg) (k : Chk) : fixMay (scoreR c k).1 = true := by
 unfold scoreR
 split
 ·exact loss_may _ _ _ _
 ·decide
theorem scoreL_rank {s : St} (h : StOk s) : rankMay (scoreL s) = true := by
 obtain ⟨⟨h2, h8⟩, _⟩ := cfgMay_split h.c
 have hl := h.len
 unfold rankMay vecMay scoreL
 simp only [Bool.and_eq_true, decide_eq_true_eq, List.length_map, List.all_map, List.all_eq_true]
 exact ⟨⟨by omega, by omega⟩, by omega, fun m _ => score_may _ _⟩
theorem lossQ_ (H : Heap) (c : Cfg) (rv w v : V) (k : Chk) (hr : Rows H rv c.rows) (hk : KAt H w v k) (hc : cfgMay c = true) (hf : kFits c k = true) :
  Call Tryz.prog 28 [.agg [.int .i64 c.i, .int .i64 c.h], w, rv] H (.tup [.int .i64 (scoreR c k).1, .int .i64 0]) H := by
 obtain ⟨_, hloss, _⟩ := cfgMay_split hc
 obtain ⟨hs, _⟩ := lossMay_split hloss
 obtain ⟨a, b, ha, hb, ha1, ha3, hb1, hb3⟩ := shape_ab hs
 have hf' := hf
 unfold kFits memFits at hf'
 rw [Bool.and_eq_true] at hf'
 obtain ⟨_, hfi⟩ := hf'
 have e : scoreR c k = (lossN a b k.ws c.rows, 0) := by
  unfold scoreR
  rw [hc, hf, ha, hb]; rfl
 rw [e]
 have hsz : k.ws.length = netSize a b := by
  rw [ha, hb] at hfi
  simp only [fits, Bool.and_eq_true, decide_eq_true_eq] at hfi
  have hcast := size_cast a b
  omega
 rw [ha, hb] at hfi hloss
 rw [ha, hb]
 exact lossOf_ H a b w rv k.ws c.rows hk.ws hr hfi hloss hsz ha3 hb3
theorem mr_ws {H : Heap} {v : V} {xs : List MR} (h : Sl 6 mrC H v xs) {j b o : Nat} {x : MR} (hi : idxV T 29 v (j : Int) = some (.ptr b o)) (hx : xs[j]? = some x) : loadV T 27 H b o = some x.w := by
 obtain ⟨b', o', cs, hi', hc, _, hlo, hlc⟩ := h.get T29 rfl T51 rfl hx
 rw [hi] at hi'
 cases hi'
 rw [hc] at hlc
 exact loadV_one T27 rfl (hlc 0 _ rfl)
theorem law_topScores {D : Type} (K : Heap) (vs : List V) (ds : List (DataW D)) (ro : Ro K) (h : RdAll T K [33] vs ds) : ∃ K', Call Tryz.prog 4 vs K (.bool true) K' := by
 obtain ⟨v1, vs, d1, ds, rfl, rfl, hv1, h⟩ := rdAll_cons h
 obtain ⟨rfl, rfl⟩ := rdAll_nil h
 obtain ⟨s, rv, mv, ev, sv, xs, rfl, ha, sf⟩ := rd_state hv1
 clear hv1 h
 have hmlen := ha.ms.len T29 rfl
 obtain ⟨n, hn⟩ : ∃ n, xs.length = n := ⟨_, rfl⟩
 rw [hn] at hmlen
 refine ⟨K, ?_⟩
 refine call_pure fit mixed Tryz.func4 rfl rfl rfl (by kernel_rfl) rfl fun hM => ?_
 refine wq_seq (wq_line ?_)
 refine l_boxM T33 fun b1 H1 hM => ?_
 refine goM ?_
 refine l_callG (awakeT_ _) ?_
 obtain ⟨_, H2, c1, u, rfl, m1⟩ := controlScores_ H1 s rv mv ev sv xs (ha.mono hM.pre) sf
 have c2 := controlMay_ H2 s rv mv ev sv xs (ha.mono (hM.pre.trans m1.pre)) sf
 unfold scoresR at c1 m1
 cases hm : stateMay s with
 | false =>
  rw [hm, if_neg (by decide)] at c1 m1
  simp only at c1 m1
  rw [hm] at c2
  have hl := (m1.sl .here).len T27 rfl
  replace hl : builtinP T .len [27] [u] = some (.int .i64 0) := hl
  clear hm
  refine goM ?_
  refine l_callG c1 ?_
  replace hM := hM.call1 m1
  clear c1 m1
  refine goM ?_
  refine l_callG (num_ _ _) ?_
  refine goM ?_
  refine l_callG c2 ?_
  refine goM ?_
  exact end_1 (by first | exact .inl rfl | exact .inr rfl) ⟨rfl, hM.pre⟩
 | true =>
  rw [hm, if_pos rfl] at c1 m1
  simp only at c1 m1
  have hok := stOk_of hm
  have hrank := scoreL_rank hok
  have hsl : (scoreL s).length = n := by rw [← hn, ha.len]; unfold scoreL; rw [List.length_map]
  have hl := (m1.sl .here).len T27 rfl
  rw [hsl] at hl
  have hn8 : n ≤ 8 := by
   have := hok.len
   obtain ⟨⟨_, h8⟩, _⟩ := cfgMay_split hok.c
   rw [← ha.len, hn] at this
   omega
  have hnn : ((n : Int) != (n : Int)) = false := by simp
  clear hm c2
  refine goM ?_
  refine l_callG c1 ?_
  replace hM := hM.call1 m1
  clear c1 m1
  refine goM ?_
  refine l_callG (num_ _ _) ?_
  refine goM ?_
  refine wq_meet (fun ρ h => Mem K h [.own 1 intC u (scoreL s), .box b1 (stC s.c rv mv ev sv)] ∧ ρ 3 = u) ?_ ?_
  ·refine wq_loop (fun cc ρ h => ∃ (k : Nat), k ≤ n ∧ cc = n - k ∧ Mem K h [.own 1 intC u (scoreL s), .box b1 (stC s.c rv mv ev sv)] ∧ ρ 1 = .ptr b1 0 ∧ ρ 3 = u ∧ ρ 5 = .int .i64 (k : Int)) ⟨0, Nat.zero_le _, rfl, hM, by simp [put_app, put_none, rho0_app, *]⟩ ?_
   repeat clear hM
   rintro _ ρ h ⟨k, hk, rfl, hM, g1, g3, g5⟩
   by_cases hk' : k < n
   ·have dk : decide ((k : Int) < (n : Int)) = true := decide_eq_true (by omega)
    have hw := wrap_succ (n := k) (by omega)
    have hat := ha.mono hM.pre
    obtain ⟨x, hx⟩ : ∃ x, xs[k]? = some x := ⟨xs[k]'(by omega), by simp⟩
    have hka := hat.ks x (List.mem_of_getElem? hx)
    have hxm : x.val ∈ s.ms := by rw [← ha.val]; exact List.mem_map_of_mem (List.mem_of_getElem? hx)
    have hfit : kFits s.c x.k = true := hok.fits _ hxm
    obtain ⟨bo, oo, hi, _⟩ := mr_at hat.ms hx
    have lo := mr_ld hat.ms hi hx
    have lw := mr_ws hat.ms hi hx
    have c1 := lossQ_ h s.c rv x.w x.v x.k hat.rows hka hok.c hfit
    have c2 := member_Score h s.c rv x.w x.v x.k x.h hat.rows hka sf.c (kFits_fit hfit)
    rw [score_ok hok.c hfit] at c2
    have hsk : (scoreL s)[k]? = some (scoreR s.c x.k).1 := by
     unfold scoreL
     rw [List.getElem?_map, ← ha.val, List.getElem?_map, hx]; rfl
    obtain ⟨b4, o4, _, ji, rfl, _, jlo, _⟩ := (hM.sl .here).get T27 rfl T3 rfl hsk
    have jl := loadV_one T3 rfl jlo
    have s1 := hka.ws.cells
    have s2 := hka.vs.cells
    generalize (scoreR s.c x.k).1 = z at *
    have hzz : (z != z) = false := by simp
    clear hat hka hxm hfit hsk hx jlo hrank hsl
    refine goM ?_
    refine d_call0G c1 ?_
    refine goM ?_
    refine d_call0G c2 ?_
    refine goM ?_
    refine l_callG (num_ _ _) ?_
    refine goM ?_
    refine l_callG (num_ _ _) ?_
    refine goM ?_
    exact ⟨n - (k + 1), by omega, k + 1, hk', rfl, hM, by simp [put_app, put_none, *]⟩
   ·have dk : decide ((k : Int) < (n : Int)) = false := decide_eq_false (by omega)
    refine goM ?_
    exact ⟨hM, by simp [put_app, put_none, *]⟩
  ·repeat clear hM
   rintro ρ h ⟨hM, g3⟩
   obtain ⟨_, H3, c1, r, rfl, m1⟩ := rankOf_ h u (scoreL s) (hM.sl .here) (by omega)
   have hrl := (m1.sl .here).len T27 rfl
   have e1 : rankE (scoreL s) = 0 := by unfold rankE; rw [hrank]; rfl
   have e2 : (rankL (scoreL s)).length = n := by unfold rankL; rw [hrank, if_pos rfl, rankN_len, hsl]
   rw [e2] at hrl
   rw [e1] at c1
   have hq : ((n : Int) == (n : Int)) = true := by simp
   clear hrank hsl e1 e2
   refine goM ?_
   refine l_callG c1 ?_
   replace hM := hM.call1 m1
   clear c1 m1
   refine goM ?_
   refine l_callG (num_ _ _) ?_
   refine goM ?_
   exact end_1 (by first | exact .inl rfl | exact .inr rfl) ⟨rfl, hM.pre⟩
end Go.Proofs.YtaofdhgkgklppaaGreat.VM
