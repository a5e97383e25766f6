/- Joined texts: EvD, CtlA, StepV, StepA, CtlB, CtlC, CtlE, CtlF, EvF, CtlG, FoldV, FoldW. -/
import Derived.Test.YtncjbjlmgnjhiaaGreatJC5
import Derived.Test.YtncjbjlmgnjhiaaGreatJC7
import Derived.Test.YtncjbjlmgnjhiaaGreatJC8
import Derived.Test.YtncjbjlmgnjhiaaGreatJC9
namespace Go.Proofs.YtncjbjlmgnjhiaaGreat.VM
open Go
set_option linter.unusedVariables false
set_option linter.unusedSimpArgs false
attribute [local irreducible] wq wqL wqD wqE wqO Th Bk EndR
set_option maxHeartbeats 8000000
theorem inside (H : Heap) (b : Nat) (n x : Int) (hb : H.loadN b 0 1 = some [.int .i64 n]) : Call Tryz.prog 217 [.int .i64 x, .ptr b 0] H (.bool (decide (x ≥ 0) && decide (x < n))) H := by
 refine AJ fit mixed Tryz.func217 rfl rfl rfl (by kernel_rfl) rfl ?_
 have hl : loadV T 3 H b 0 = some (.int .i64 n) := AF T3 rfl hb
 repeat' (first | (refine Bs ?_; refine CH ?_) | (refine Bz ?_; refine CZ ?_) | (refine CG ?_; first | refine BO ?_ | refine At ?_) | (refine CF ?_; first | refine BS ?_ | refine Aw ?_) | refine AO ?_ | refine AK ?_ | refine Ae (by decide +kernel) ?_ | refine AW ?_ | refine BN ?_ | refine BM ?_ | refine Ah ?_ | refine As ?_ | refine Ag ?_ | refine AR ?_ | refine Ar ?_ | refine Ad ?_ | refine AS ?_ | refine Aq ?_ | refine Ac ?_ | refine AV rfl ?_ | first | refine Br (fun hb => ?_) (fun hb => ?_) | refine Bp (fun hb => ?_) (fun hb => ?_))
 all_goals refine Ai ?_; simp [AD, AB, *]
 all_goals simp_all
 all_goals (first | done | omega)
def Nc (cs : List V) (es : List Ev) : Prop := cs.length = 16 ∧ ∀ m : Nat, m < 8 → cs[m]? = some (.int .i64 (BD es (m : Int))) ∧ cs[8 + m]? = some (.int .i64 (Gm es (m : Int)))
theorem gO (H : Heap) (cs : List V) (es : List Ev) (e : Ev) (q : Nat) (b o : Nat) (hq : q < 8) (hm : e.member = (q : Int)) (ht : Nc cs es) (hl : es.length ≤ 2 ^ 47) (he : ∀ l, (H ++ l).loadN b o 1 = some [.int .i64 e.kind]) (he1 : ∀ l, (H ++ l).loadN b (o + 1) 1 = some [.int .i64 e.member]) :
  ∃ cs', Nc cs' (es ++ [e]) ∧ Call Tryz.prog 171 [.ptr H.length 0, .ptr b o] (H ++ [.row cs true]) (.tup []) (H ++ [.row cs' true]) := by
 obtain ⟨h1, h2⟩ := ht
 obtain ⟨c1, c2⟩ := h2 q hq
 have hle := Ji es (q : Int)
 have hw := AG (n := BD es (q : Int)) (by omega)
 have x1 : ∀ l, loadV T 3 (H ++ l) b o = some (.int .i64 e.kind) := fun l => AF T3 rfl (he l)
 have x2 : ∀ l, loadV T 3 (H ++ l) b (o + 1) = some (.int .i64 (q : Int)) := fun l => by rw [← hm]; exact AF T3 rfl (he1 l)
 have i1 := Ko (b := H.length) (off := 0) Xw rfl T3 rfl hq
 have i2 := Ko (b := H.length) (off := 8) Xw rfl T3 rfl hq
 rw [Nat.zero_add] at i1
 have l1 := La (H := H) (w := true) T3 rfl c1
 have s1 := QH (H := H) (v := .int .i64 ((BD es (q : Int) : Int) + 1)) (q := q) (cs := cs) T3 rfl rfl rfl (by omega)
 have s2 := QH (H := H) (v := .int .i64 e.kind) (q := 8 + q) (cs := cs.set q (.int .i64 ((BD es (q : Int) : Int) + 1))) T3 rfl rfl rfl (by simp; omega)
 refine ⟨(cs.set q (.int .i64 ((BD es (q : Int) : Int) + 1))).set (8 + q) (.int .i64 e.kind), ⟨by simp [h1], fun m hm' => ?_⟩, ?_⟩
 ·obtain ⟨d1, d2⟩ := h2 m hm'
  rw [Sn, PS, hm]
  by_cases hmq : q = m
  ·subst hmq
   simp [List.getElem?_set, h1]
   omega
  ·have : ¬ (q : Int) = (m : Int) := by omega
   simp [List.getElem?_set, h1, this, hmq]
   rw [if_neg (by omega), if_neg (by omega), d1, d2]
   exact ⟨rfl, rfl⟩
 ·obtain ⟨v', H', ⟨rfl, rfl⟩, hc⟩ := CY (R := fun v h => v = .tup [] ∧ h = H ++ [.row ((cs.set q (.int .i64 ((BD es (q : Int) : Int) + 1))).set (8 + q) (.int .i64 e.kind)) true]) (args := [.ptr H.length 0, .ptr b o]) (H := H ++ [.row cs true]) fit mixed Tryz.func171 rfl rfl rfl (by kernel_rfl) (by
   refine goW ?_
   refine Bu (by simp only [resRf, resRs, resR]; first | done | rfl) ⟨rfl, rfl⟩)
  exact hc
theorem Jp (x n : Int) : within x 0 (n - 1) = (decide (x ≥ 0) && decide (x < n)) := by
 unfold within
 congr 1
 apply decide_eq_decide.2
 omega
theorem iB (H : Heap) (cs : List V) (es : List Ev) (e : Ev) (n : Int) (b o : Nat) (hn : 1 ≤ n ∧ n ≤ 8) (ht : Nc cs es) (hl : es.length ≤ 2 ^ 47)
  (he : ∀ l, (H ++ l).loadN b o 6 = some e.cells) (hf : ∀ l (j : Nat) c, e.cells[j]? = some c → (H ++ l).loadN b (o + j) 1 = some [c]) :
  Call Tryz.prog 170 [.ptr H.length 0, .ptr b o, .int .i64 n] (H ++ [.row cs true]) (.bool (Dy es n e)) (H ++ [.row cs true]) := by
 obtain ⟨h1, h2⟩ := ht
 have x0 : ∀ l, loadV T 3 (H ++ l) b o = some (.int .i64 e.kind) := fun l => AF T3 rfl (hf l 0 _ rfl)
 have x1 : ∀ l, loadV T 3 (H ++ l) b (o + 1) = some (.int .i64 e.member) := fun l => AF T3 rfl (hf l 1 _ rfl)
 have x2 : ∀ l, loadV T 3 (H ++ l) b (o + 2) = some (.int .i64 e.BV) := fun l => AF T3 rfl (hf l 2 _ rfl)
 have x3 : ∀ l, loadV T 3 (H ++ l) b (o + 3) = some (.int .i64 e.at_) := fun l => AF T3 rfl (hf l 3 _ rfl)
 have x5 : ∀ l, loadV T 119 (H ++ l) b o = some (.agg [.int .i64 e.kind, .int .i64 e.member, .int .i64 e.BV, .int .i64 e.at_, .int .i64 e.rate, .int .i64 e.mom]) := fun l => AZ GY rfl (he l)
 refine AJ fit mixed Tryz.func170 rfl rfl rfl (by kernel_rfl) rfl ?_
 have hwl : within e.member 0 (n - 1) = (decide (e.member ≥ 0) && decide (e.member < n)) := Jp ..
 repeat' (first | (refine Bs ?_; refine CH ?_) | (refine Bz ?_; refine CZ ?_) | (refine CG ?_; first | refine BO ?_ | refine At ?_) | (refine CF ?_; first | refine BS ?_ | refine Aw ?_) | refine AO ?_ | refine AK ?_ | refine Ae (by decide +kernel) ?_ | refine AW ?_ | refine BN ?_ | refine BM ?_ | refine Ah ?_ | refine As ?_ | refine Ag ?_ | refine AR ?_ | refine Ar ?_ | refine Ad ?_ | refine AS ?_ | refine Aq ?_ | refine Ac ?_ | refine AV rfl ?_ | refine Yp (by exact (by simp only [callsWhom, beq_self_eq_true, bne_self_eq_false, Ic, FA, GG, V.of, V.ofs, AD, AB, BT, reduceIte, Nat.reduceEqDiff, reduceCtorEq, List.getD_cons_zero, List.getD_cons_succ, evs, optEv, evParts, Option.map_some, List.cons_append, List.nil_append, List.append_nil, List.append_assoc, Nat.zero_add, Nat.add_zero, *]; first | done | rfl)) (inside _ _ n _ (by first | (simp only [DI, Ab]; first | done | rfl) | (simp only [List.append_assoc, List.cons_append, List.nil_append, List.length_append, List.length_cons, List.length_nil, Nat.zero_add, Nat.add_zero, Nat.reduceAdd, List.set_cons_zero, List.set_cons_succ, DI, Ab]; first | done | rfl))) ?_)
 refine AE (fun hb => ?_) (fun hb => ?_)
 ·repeat' (first | (refine Bs ?_; refine CH ?_) | (refine Bz ?_; refine CZ ?_) | (refine CG ?_; first | refine BO ?_ | refine At ?_) | (refine CF ?_; first | refine BS ?_ | refine Aw ?_) | refine AO ?_ | refine AK ?_ | refine Ae (by decide +kernel) ?_ | refine AW ?_ | refine BN ?_ | refine BM ?_ | refine Ah ?_ | refine As ?_ | refine Ag ?_ | refine AR ?_ | refine Ar ?_ | refine Ad ?_ | refine AS ?_ | refine Aq ?_ | refine Ac ?_ | refine AV rfl ?_)
  refine Ai ?_; simp [AD, AB, *]
  have : within e.member 0 (n - 1) = false := by rw [hwl]; cases h : (decide (e.member ≥ 0) && decide (e.member < n)) <;> simp_all
  simp [Dy, this]
 ·have hin : within e.member 0 (n - 1) = true := by rw [hwl]; simpa using hb
  have hm : 0 ≤ e.member ∧ e.member < n := by simpa [Jp] using hin
  clear hwl hb
  repeat' (first | (refine Bs ?_; refine CH ?_) | (refine Bz ?_; refine CZ ?_) | (refine CG ?_; first | refine BO ?_ | refine At ?_) | (refine CF ?_; first | refine BS ?_ | refine Aw ?_) | refine AO ?_ | refine AK ?_ | refine Ae (by decide +kernel) ?_ | refine AW ?_ | refine BN ?_ | refine BM ?_ | refine Ah ?_ | refine As ?_ | refine Ag ?_ | refine AR ?_ | refine Ar ?_ | refine Ad ?_ | refine AS ?_ | refine Aq ?_ | refine Ac ?_ | refine AV rfl ?_)
  refine AE (fun hc => ?_) (fun hc => ?_)
  ·simp at hc
   repeat' (first | (refine Bs ?_; refine CH ?_) | (refine Bz ?_; refine CZ ?_) | (refine CG ?_; first | refine BO ?_ | refine At ?_) | (refine CF ?_; first | refine BS ?_ | refine Aw ?_) | refine AO ?_ | refine AK ?_ | refine Ae (by decide +kernel) ?_ | refine AW ?_ | refine BN ?_ | refine BM ?_ | refine Ah ?_ | refine As ?_ | refine Ag ?_ | refine AR ?_ | refine Ar ?_ | refine Ad ?_ | refine AS ?_ | refine Aq ?_ | refine Ac ?_ | refine AV rfl ?_)
   refine Ai ?_; simp [AD, AB, *]
   rw [VZ hc, hin]
   simp [Bool.and_assoc]
  ·simp at hc
   repeat' (first | (refine Bs ?_; refine CH ?_) | (refine Bz ?_; refine CZ ?_) | (refine CG ?_; first | refine BO ?_ | refine At ?_) | (refine CF ?_; first | refine BS ?_ | refine Aw ?_) | refine AO ?_ | refine AK ?_ | refine Ae (by decide +kernel) ?_ | refine AW ?_ | refine BN ?_ | refine BM ?_ | refine Ah ?_ | refine As ?_ | refine Ag ?_ | refine AR ?_ | refine Ar ?_ | refine Ad ?_ | refine AS ?_ | refine Aq ?_ | refine Ac ?_ | refine AV rfl ?_)
   refine AE (fun hc1 => ?_) (fun hc1 => ?_)
   ·simp at hc1
    repeat' (first | (refine Bs ?_; refine CH ?_) | (refine Bz ?_; refine CZ ?_) | (refine CG ?_; first | refine BO ?_ | refine At ?_) | (refine CF ?_; first | refine BS ?_ | refine Aw ?_) | refine AO ?_ | refine AK ?_ | refine Ae (by decide +kernel) ?_ | refine AW ?_ | refine BN ?_ | refine BM ?_ | refine Ah ?_ | refine As ?_ | refine Ag ?_ | refine AR ?_ | refine Ar ?_ | refine Ad ?_ | refine AS ?_ | refine Aq ?_ | refine Ac ?_ | refine AV rfl ?_)
    refine NZ ?_
    repeat (first | refine iA ?_ | refine fS ?_ | refine fT ?_ | refine Ey ?_)
    have hd : (∃ d, idxV T 227 (.ptr H.length 0) e.BV = some (.ptr H.length d) ∧ ∀ l, loadV T 3 (H ++ (.row cs true :: l)) H.length d = some (.int .i64 (BD es e.BV))) ∨ ¬ (0 ≤ e.BV ∧ e.BV < n) := by
     by_cases hd : 0 ≤ e.BV ∧ e.BV < n
     ·obtain ⟨d, hde⟩ : ∃ d : Nat, e.BV = (d : Int) := ⟨e.BV.toNat, by omega⟩
      have hd8 : d < 8 := by omega
      have i1 := Ko (b := H.length) (off := 0) Xw rfl T3 rfl hd8
      rw [Nat.zero_add] at i1
      exact .inl ⟨d, by rw [hde]; exact i1, fun l => by rw [hde]; exact La T3 rfl (h2 d hd8).1 l⟩
     ·exact .inr hd
    have hev := Qj (es := es) (n := n) hc1
    rw [hin, Jp] at hev
    rcases hd with ⟨d, i1, l1⟩ | hd
    ·repeat' (first | (refine Bs ?_; refine CH ?_) | (refine Bz ?_; refine CZ ?_) | (refine CG ?_; first | refine BO ?_ | refine At ?_) | (refine CF ?_; first | refine BS ?_ | refine Aw ?_) | refine AO ?_ | refine AK ?_ | refine Ae (by decide +kernel) ?_ | refine AW ?_ | refine BN ?_ | refine BM ?_ | refine Ah ?_ | refine As ?_ | refine Ag ?_ | refine AR ?_ | refine Ar ?_ | refine Ad ?_ | refine AS ?_ | refine Aq ?_ | refine Ac ?_ | refine AV rfl ?_ | refine Qe (by exact (by simp only [callsWhom, beq_self_eq_true, bne_self_eq_false, Ic, FA, GG, V.of, V.ofs, AD, AB, BT, reduceIte, Nat.reduceEqDiff, reduceCtorEq, List.getD_cons_zero, List.getD_cons_succ, evs, optEv, evParts, Option.map_some, List.cons_append, List.nil_append, List.append_nil, List.append_assoc, Nat.zero_add, Nat.add_zero, *]; first | done | rfl)) (inside _ _ n _ (by first | (simp only [DI, Ab]; first | done | rfl) | (simp only [List.append_assoc, List.cons_append, List.nil_append, List.length_append, List.length_cons, List.length_nil, Nat.zero_add, Nat.add_zero, Nat.reduceAdd, List.set_cons_zero, List.set_cons_succ, DI, Ab]; first | done | rfl))) ?_ | first | refine Br (fun hb => ?_) (fun hb => ?_) | refine Bp (fun hb => ?_) (fun hb => ?_))
     all_goals refine AL (by simp only [resRf, resRs, resR]; first | done | rfl) ⟨?_, by first | exact List.prefix_refl _ | exact List.prefix_append _ _ | assumption | (refine List.IsPrefix.trans (by assumption) (List.prefix_append _ _)) | (simp only [List.append_assoc, List.cons_append, List.nil_append, List.set_cons_zero, List.set_cons_succ]; exact ⟨_, by simp only [List.append_assoc, List.cons_append, List.nil_append]; rfl⟩)⟩
     all_goals (rw [hev]; clear he hf h2 x0 x1 x2 x3 x5; first | (simp [AD, AB, *]; done) | (simp_all [AD, AB]; done))
    ·have hd' : (decide (e.BV ≥ 0) && decide (e.BV < n)) = false := by
      cases h : (decide (e.BV ≥ 0) && decide (e.BV < n)) with
      | false => rfl
      | true =>
       exfalso
       simp at h
       exact hd ⟨by omega, by omega⟩
     clear hd
     rw [hd'] at hev
     repeat' (first | (refine Bs ?_; refine CH ?_) | (refine Bz ?_; refine CZ ?_) | (refine CG ?_; first | refine BO ?_ | refine At ?_) | (refine CF ?_; first | refine BS ?_ | refine Aw ?_) | refine AO ?_ | refine AK ?_ | refine Ae (by decide +kernel) ?_ | refine AW ?_ | refine BN ?_ | refine BM ?_ | refine Ah ?_ | refine As ?_ | refine Ag ?_ | refine AR ?_ | refine Ar ?_ | refine Ad ?_ | refine AS ?_ | refine Aq ?_ | refine Ac ?_ | refine AV rfl ?_ | refine Qe (by exact (by simp only [callsWhom, beq_self_eq_true, bne_self_eq_false, Ic, FA, GG, V.of, V.ofs, AD, AB, BT, reduceIte, Nat.reduceEqDiff, reduceCtorEq, List.getD_cons_zero, List.getD_cons_succ, evs, optEv, evParts, Option.map_some, List.cons_append, List.nil_append, List.append_nil, List.append_assoc, Nat.zero_add, Nat.add_zero, *]; first | done | rfl)) (inside _ _ n _ (by first | (simp only [DI, Ab]; first | done | rfl) | (simp only [List.append_assoc, List.cons_append, List.nil_append, List.length_append, List.length_cons, List.length_nil, Nat.zero_add, Nat.add_zero, Nat.reduceAdd, List.set_cons_zero, List.set_cons_succ, DI, Ab]; first | done | rfl))) ?_ | first | refine Br (fun hb => ?_) (fun hb => ?_) | refine Bp (fun hb => ?_) (fun hb => ?_))
     all_goals refine AL (by simp only [resRf, resRs, resR]; first | done | rfl) ⟨?_, by first | exact List.prefix_refl _ | exact List.prefix_append _ _ | assumption | (refine List.IsPrefix.trans (by assumption) (List.prefix_append _ _)) | (simp only [List.append_assoc, List.cons_append, List.nil_append, List.set_cons_zero, List.set_cons_succ]; exact ⟨_, by simp only [List.append_assoc, List.cons_append, List.nil_append]; rfl⟩)⟩
     all_goals (rw [hev]; clear he hf h2 x0 x1 x2 x3 x5; first | (simp [AD, AB, *]; done) | (simp_all [AD, AB]; done))
   ·simp at hc1
    repeat' (first | (refine Bs ?_; refine CH ?_) | (refine Bz ?_; refine CZ ?_) | (refine CG ?_; first | refine BO ?_ | refine At ?_) | (refine CF ?_; first | refine BS ?_ | refine Aw ?_) | refine AO ?_ | refine AK ?_ | refine Ae (by decide +kernel) ?_ | refine AW ?_ | refine BN ?_ | refine BM ?_ | refine Ah ?_ | refine As ?_ | refine Ag ?_ | refine AR ?_ | refine Ar ?_ | refine Ad ?_ | refine AS ?_ | refine Aq ?_ | refine Ac ?_ | refine AV rfl ?_)
    refine AE (fun hc2 => ?_) (fun hc2 => ?_)
    ·simp at hc2
     have hev := Qk (es := es) (n := n) hc2
     rw [hin, PN] at hev
     obtain ⟨d, i1, i2, l1, l2⟩ : ∃ d, idxV T 227 (.ptr H.length 0) e.member = some (.ptr H.length d) ∧ idxV T 227 (.ptr H.length 8) e.member = some (.ptr H.length (8 + d)) ∧ (∀ l, loadV T 3 (H ++ (.row cs true :: l)) H.length d = some (.int .i64 (BD es e.member))) ∧ (∀ l, loadV T 3 (H ++ (.row cs true :: l)) H.length (8 + d) = some (.int .i64 (Gm es e.member))) := by
      obtain ⟨d, hde⟩ : ∃ d : Nat, e.member = (d : Int) := ⟨e.member.toNat, by omega⟩
      have hd8 : d < 8 := by omega
      have i1 := Ko (b := H.length) (off := 0) Xw rfl T3 rfl hd8
      have i2 := Ko (b := H.length) (off := 8) Xw rfl T3 rfl hd8
      rw [Nat.zero_add] at i1
      exact ⟨d, by rw [hde]; exact i1, by rw [hde]; exact i2, fun l => by rw [hde]; exact La T3 rfl (h2 d hd8).1 l, fun l => by rw [hde]; exact La T3 rfl (h2 d hd8).2 l⟩
     have x4 : ∀ l, loadV T 80 (H ++ l) b (o + 4) = some (.agg [.int .i64 e.rate, .int .i64 e.mom]) := fun l => by
      refine AZ T80 rfl ?_
      have h4 := he l
      unfold Heap.loadN at h4 ⊢
      split at h4
      ·rename_i rw_ _ hb
       split at h4
       ·rename_i hle
        simp only [Option.some.injEq] at h4
        rw [if_pos (by omega)]
        have := congrArg (fun l => (l.drop 4).take 2) h4
        simpa [Ev.cells, List.drop_take, List.take_take, List.drop_drop, Nat.add_comm] using this
       ·cases h4
      ·cases h4
     repeat' (first | (refine Bs ?_; refine CH ?_) | (refine Bz ?_; refine CZ ?_) | (refine CG ?_; first | refine BO ?_ | refine At ?_) | (refine CF ?_; first | refine BS ?_ | refine Aw ?_) | refine AO ?_ | refine AK ?_ | refine Ae (by decide +kernel) ?_ | refine AW ?_ | refine BN ?_ | refine BM ?_ | refine Ah ?_ | refine As ?_ | refine Ag ?_ | refine AR ?_ | refine Ar ?_ | refine Ad ?_ | refine AS ?_ | refine Aq ?_ | refine Ac ?_ | refine AV rfl ?_ | refine AI (MD ..) ?_ | first | refine Br (fun hb => ?_) (fun hb => ?_) | refine Bp (fun hb => ?_) (fun hb => ?_))
     all_goals refine AL (by simp only [resRf, resRs, resR]; first | done | rfl) ⟨?_, by first | exact List.prefix_refl _ | exact List.prefix_append _ _ | assumption | (refine List.IsPrefix.trans (by assumption) (List.prefix_append _ _)) | (simp only [List.append_assoc, List.cons_append, List.nil_append, List.set_cons_zero, List.set_cons_succ]; exact ⟨_, by simp only [List.append_assoc, List.cons_append, List.nil_append]; rfl⟩)⟩
     all_goals (rw [hev]; clear he hf h2 x0 x1 x2 x3 x5; first | (simp [AD, AB, *]; done) | (simp_all [AD, AB]; done))
    ·simp at hc2
     have hev := Va (es := es) (n := n) hc hc1 hc2
     repeat' (first | (refine Bs ?_; refine CH ?_) | (refine Bz ?_; refine CZ ?_) | (refine CG ?_; first | refine BO ?_ | refine At ?_) | (refine CF ?_; first | refine BS ?_ | refine Aw ?_) | refine AO ?_ | refine AK ?_ | refine Ae (by decide +kernel) ?_ | refine AW ?_ | refine BN ?_ | refine BM ?_ | refine Ah ?_ | refine As ?_ | refine Ag ?_ | refine AR ?_ | refine Ar ?_ | refine Ad ?_ | refine AS ?_ | refine Aq ?_ | refine Ac ?_ | refine AV rfl ?_)
     refine AL (by simp only [resRf, resRs, resR]; first | done | rfl) ⟨?_, by first | exact List.prefix_refl _ | exact List.prefix_append _ _ | assumption | (refine List.IsPrefix.trans (by assumption) (List.prefix_append _ _)) | (simp only [List.append_assoc, List.cons_append, List.nil_append, List.set_cons_zero, List.set_cons_succ]; exact ⟨_, by simp only [List.append_assoc, List.cons_append, List.nil_append]; rfl⟩)⟩
     rw [hev]
     simp [AD, AB, *]
theorem fE : Nc (List.replicate 16 (.int .i64 0)) [] := by
 refine ⟨by simp, fun m hm => ?_⟩
 constructor
 ·rw [List.getElem?_replicate, if_pos (by omega)]; rfl
 ·rw [List.getElem?_replicate, if_pos (by omega)]; rfl
theorem KW (H : Heap) (v : V) (es : List Ev) (n : Int) (hes : Sl 6 evC H v es) (hl : es.length ≤ 2 ^ 47) : Call Tryz.prog 111 [v, .int .i64 n] H (.bool (Ap es n)) H := by
 refine AJ fit mixed Tryz.func111 rfl rfl rfl (by kernel_rfl) rfl ?_
 have hlen := hes.len T29 rfl
 by_cases hbad : within n 1 8 = true ∧ es.length ≤ 1024
 ·obtain ⟨hn, hl'⟩ := hbad
  have hn' := hn
  simp [within] at hn'
  have q1 : decide (n < 1) = false := by simp; omega
  have q2 : decide (n > 8) = false := by simp; omega
  have q3 : decide ((es.length : Int) > 1024) = false := by simp; omega
  repeat (first | (refine Bs ?_; refine CH ?_) | (refine Bz ?_; refine CZ ?_) | (refine CG ?_; first | refine BO ?_ | refine At ?_) | (refine CF ?_; first | refine BS ?_ | refine Aw ?_) | refine AO ?_ | refine AK ?_ | refine Ae (by decide +kernel) ?_ | refine AW ?_ | refine BN ?_ | refine BM ?_ | refine Ah ?_ | refine As ?_ | refine Ag ?_ | refine AR ?_ | refine Ar ?_ | refine Ad ?_ | refine AS ?_ | refine Aq ?_ | refine Ac ?_ | refine AV rfl ?_)
  refine AE (fun hb => ?_) (fun hb => ?_)
  ·cases hb
  ·clear hb
   repeat (first | (refine Bs ?_; refine CH ?_) | (refine Bz ?_; refine CZ ?_) | (refine CG ?_; first | refine BO ?_ | refine At ?_) | (refine CF ?_; first | refine BS ?_ | refine Aw ?_) | refine AO ?_ | refine AK ?_ | refine Ae (by decide +kernel) ?_ | refine AW ?_ | refine BN ?_ | refine BM ?_ | refine Ah ?_ | refine As ?_ | refine Ag ?_ | refine AR ?_ | refine Ar ?_ | refine Ad ?_ | refine AS ?_ | refine Aq ?_ | refine Ac ?_ | refine AV rfl ?_)
   refine AT (fun c ρ h => ∃ k cs, k ≤ es.length ∧ c = es.length - k ∧ h = H ++ [.row cs true] ∧ Nc cs (es.take k) ∧ (∀ (j : Nat) e, j < k → es[j]? = some e → Dy (es.take j) n e = true) ∧ ρ 0 = v ∧ ρ 1 = .int .i64 n ∧ ρ 5 = .ptr H.length 0 ∧ ρ 21 = .int .i64 es.length ∧ ρ 22 = .int .i64 (k : Nat)) ⟨0, _, Nat.zero_le _, rfl, rfl, fE, by intro j e hj; omega, rfl, rfl, rfl, rfl, rfl⟩ ?_
   rintro _ ρ h ⟨k, cs, hk, rfl, rfl, htal, hall, h0, h1, h5, h21, h22⟩
   repeat (first | (refine Bs ?_; refine CH ?_) | (refine Bz ?_; refine CZ ?_) | (refine CG ?_; first | refine BO ?_ | refine At ?_) | (refine CF ?_; first | refine BS ?_ | refine Aw ?_) | refine AO ?_ | refine AK ?_ | refine Ae (by decide +kernel) ?_ | refine AW ?_ | refine BN ?_ | refine BM ?_ | refine Ah ?_ | refine As ?_ | refine Ag ?_ | refine AR ?_ | refine Ar ?_ | refine Ad ?_ | refine AS ?_ | refine Aq ?_ | refine Ac ?_ | refine AV rfl ?_)
   refine AE (fun hb => ?_) (fun hb => ?_)
   ·have hk' : k < es.length := by simp at hb; omega
    clear hb
    obtain ⟨e, he⟩ : ∃ e, es[k]? = some e := ⟨es[k], by simp [hk']⟩
    obtain ⟨b, o, cs', hi, rfl, _, hlo, hlc⟩ := hes.get T29 rfl GY rfl he
    have hw := AG (n := k) (by omega)
    have hul : (es.take k).length ≤ 2 ^ 47 := by rw [List.length_take]; omega
    have hmay := iB H cs (es.take k) e n b o hn' htal hul (fun l => Bc (List.prefix_append H l) hlo) (fun l j c hj => Bc (List.prefix_append H l) (hlc j c hj))
    repeat (first | (refine Bs ?_; refine CH ?_) | (refine Bz ?_; refine CZ ?_) | (refine CG ?_; first | refine BO ?_ | refine At ?_) | (refine CF ?_; first | refine BS ?_ | refine Aw ?_) | refine AO ?_ | refine AK ?_ | refine Ae (by decide +kernel) ?_ | refine AW ?_ | refine BN ?_ | refine BM ?_ | refine Ah ?_ | refine As ?_ | refine Ag ?_ | refine AR ?_ | refine Ar ?_ | refine Ad ?_ | refine AS ?_ | refine Aq ?_ | refine Ac ?_ | refine AV rfl ?_)
    refine AA hmay ?_
    repeat (first | (refine Bs ?_; refine CH ?_) | (refine Bz ?_; refine CZ ?_) | (refine CG ?_; first | refine BO ?_ | refine At ?_) | (refine CF ?_; first | refine BS ?_ | refine Aw ?_) | refine AO ?_ | refine AK ?_ | refine Ae (by decide +kernel) ?_ | refine AW ?_ | refine BN ?_ | refine BM ?_ | refine Ah ?_ | refine As ?_ | refine Ag ?_ | refine AR ?_ | refine Ar ?_ | refine Ad ?_ | refine AS ?_ | refine Aq ?_ | refine Ac ?_ | refine AV rfl ?_)
    refine AE (fun hc => ?_) (fun hc => ?_)
    ·simp at hc
     repeat (first | (refine Bs ?_; refine CH ?_) | (refine Bz ?_; refine CZ ?_) | (refine CG ?_; first | refine BO ?_ | refine At ?_) | (refine CF ?_; first | refine BS ?_ | refine Aw ?_) | refine AO ?_ | refine AK ?_ | refine Ae (by decide +kernel) ?_ | refine AW ?_ | refine BN ?_ | refine BM ?_ | refine Ah ?_ | refine As ?_ | refine Ag ?_ | refine AR ?_ | refine Ar ?_ | refine Ad ?_ | refine AS ?_ | refine Aq ?_ | refine Ac ?_ | refine AV rfl ?_)
     refine AL (by simp only [resRf, resRs, resR]; first | done | rfl) (LR he (by simp [AD, AB, *]) hc (by first | exact List.prefix_refl _ | exact List.prefix_append _ _ | assumption | (refine List.IsPrefix.trans (by assumption) (List.prefix_append _ _)) | (simp only [List.append_assoc, List.cons_append, List.nil_append, List.set_cons_zero, List.set_cons_succ]; exact ⟨_, by simp only [List.append_assoc, List.cons_append, List.nil_append]; rfl⟩)))
    ·simp at hc
     have hm : 0 ≤ e.member ∧ e.member < n := by
      have hx : within e.member 0 (n - 1) = true := by
       unfold Dy at hc
       simp only [Bool.and_eq_true] at hc
       exact hc.1
      simpa [Jp] using hx
     obtain ⟨q, hq⟩ : ∃ q : Nat, e.member = (q : Int) := ⟨e.member.toNat, by omega⟩
     obtain ⟨cs2, ht2, hcall⟩ := gO H cs (es.take k) e q b o (by omega) hq htal hul (fun l => Bc (List.prefix_append H l) (hlc 0 _ rfl)) (fun l => Bc (List.prefix_append H l) (hlc 1 _ rfl))
     clear hm hq
     repeat (first | (refine Bs ?_; refine CH ?_) | (refine Bz ?_; refine CZ ?_) | (refine CG ?_; first | refine BO ?_ | refine At ?_) | (refine CF ?_; first | refine BS ?_ | refine Aw ?_) | refine AO ?_ | refine AK ?_ | refine Ae (by decide +kernel) ?_ | refine AW ?_ | refine BN ?_ | refine BM ?_ | refine Ah ?_ | refine As ?_ | refine Ag ?_ | refine AR ?_ | refine Ar ?_ | refine Ad ?_ | refine AS ?_ | refine Aq ?_ | refine Ac ?_ | refine AV rfl ?_)
     refine AA hcall ?_
     repeat (first | (refine Bs ?_; refine CH ?_) | (refine Bz ?_; refine CZ ?_) | (refine CG ?_; first | refine BO ?_ | refine At ?_) | (refine CF ?_; first | refine BS ?_ | refine Aw ?_) | refine AO ?_ | refine AK ?_ | refine Ae (by decide +kernel) ?_ | refine AW ?_ | refine BN ?_ | refine BM ?_ | refine Ah ?_ | refine As ?_ | refine Ag ?_ | refine AR ?_ | refine Ar ?_ | refine Ad ?_ | refine AS ?_ | refine Aq ?_ | refine Ac ?_ | refine AV rfl ?_)
     refine ⟨es.length - (k + 1), by omega, k + 1, cs2, hk', rfl, rfl, ?_, all_succ hall he hc, ?_⟩
     ·rw [List.take_add_one, he]; exact ht2
     ·simp [AD, AB, *]
   ·have hk' : k = es.length := by simp at hb; omega
    subst hk'
    repeat (first | (refine Bs ?_; refine CH ?_) | (refine Bz ?_; refine CZ ?_) | (refine CG ?_; first | refine BO ?_ | refine At ?_) | (refine CF ?_; first | refine BS ?_ | refine Aw ?_) | refine AO ?_ | refine AK ?_ | refine Ae (by decide +kernel) ?_ | refine AW ?_ | refine BN ?_ | refine BM ?_ | refine Ah ?_ | refine As ?_ | refine Ag ?_ | refine AR ?_ | refine Ar ?_ | refine Ad ?_ | refine AS ?_ | refine Aq ?_ | refine Ac ?_ | refine AV rfl ?_)
    refine AL (by simp only [resRf, resRs, resR]; first | done | rfl) ⟨?_, by first | exact List.prefix_refl _ | exact List.prefix_append _ _ | assumption | (refine List.IsPrefix.trans (by assumption) (List.prefix_append _ _)) | (simp only [List.append_assoc, List.cons_append, List.nil_append, List.set_cons_zero, List.set_cons_succ]; exact ⟨_, by simp only [List.append_assoc, List.cons_append, List.nil_append]; rfl⟩)⟩
    rw [EP hn hl' fun j e he => hall j e (List.getElem?_eq_some_iff.1 he).1 he]
    simp [AD, AB, *]
 ·have hno : Ap es n = false := by
   unfold Ap
   cases h1 : within n 1 8 with
   | false => simp
   | true =>
    have : ¬ es.length ≤ 1024 := fun h => hbad ⟨h1, h⟩
    simp [this]
  repeat' (first | (refine Bs ?_; refine CH ?_) | (refine Bz ?_; refine CZ ?_) | (refine CG ?_; first | refine BO ?_ | refine At ?_) | (refine CF ?_; first | refine BS ?_ | refine Aw ?_) | refine AO ?_ | refine AK ?_ | refine Ae (by decide +kernel) ?_ | refine AW ?_ | refine BN ?_ | refine BM ?_ | refine Ah ?_ | refine As ?_ | refine Ag ?_ | refine AR ?_ | refine Ar ?_ | refine Ad ?_ | refine AS ?_ | refine Aq ?_ | refine Ac ?_ | refine AV rfl ?_ | first | refine Br (fun hb => ?_) (fun hb => ?_) | refine Bp (fun hb => ?_) (fun hb => ?_))
  all_goals refine AE (fun hb => ?_) (fun hb => ?_)
  all_goals first
   | (cases hb; done)
   | ((repeat (first | (refine Bs ?_; refine CH ?_) | (refine Bz ?_; refine CZ ?_) | (refine CG ?_; first | refine BO ?_ | refine At ?_) | (refine CF ?_; first | refine BS ?_ | refine Aw ?_) | refine AO ?_ | refine AK ?_ | refine Ae (by decide +kernel) ?_ | refine AW ?_ | refine BN ?_ | refine BM ?_ | refine Ah ?_ | refine As ?_ | refine Ag ?_ | refine AR ?_ | refine Ar ?_ | refine Ad ?_ | refine AS ?_ | refine Aq ?_ | refine Ac ?_ | refine AV rfl ?_)); refine AL (by simp only [resRf, resRs, resR]; first | done | rfl) ⟨?_, by first | exact List.prefix_refl _ | exact List.prefix_append _ _ | assumption | (refine List.IsPrefix.trans (by assumption) (List.prefix_append _ _)) | (simp only [List.append_assoc, List.cons_append, List.nil_append, List.set_cons_zero, List.set_cons_succ]; exact ⟨_, by simp only [List.append_assoc, List.cons_append, List.nil_append]; rfl⟩)⟩; simp [AD, AB, hno]; done)
   | (exfalso; apply hbad; clear hno hbad hlen; simp_all [within]; done)
   | (exfalso; apply hbad; clear hno hbad hlen; simp_all [within]; omega)
structure MR where
 w : V
 v : V
 k : Chk
 h : Int
def MR.val (x : MR) : Chk × Int := (x.k, x.h)
def mrC (cs : List V) (x : MR) : Prop := cs = mC x.w x.v x.k x.h
abbrev stC (c : Cfg) (rv mv ev sv : V) : List V := [.int .i64 c.m, .int .i64 c.i, .int .i64 c.h, rv, .int .i64 c.seed, .int .i64 c.total, .int .i64 c.interval, .int .i64 c.cutn, .bool c.pert, mv, ev, sv]
abbrev Au : List V := [.int .i64 0, .int .i64 0, .int .i64 0, .AN, .int .i64 0, .int .i64 0, .int .i64 0, .int .i64 0, .bool false, .AN, .AN, .AN]
theorem Hm (xs : List MR) : Cells 6 mrC (xs.flatMap fun x => mC x.w x.v x.k x.h) xs := Fc (R := mrC) (fun x => mC x.w x.v x.k x.h) (fun x => ⟨rfl, rfl⟩) xs
structure Da (H : Heap) (rv mv ev sv : V) (xs : List MR) (s : St) : Prop where
 rows : Rows H rv s.c.rows
 ms : Sl 6 mrC H mv xs
 val : xs.map MR.val = s.ms
 ks : ∀ x ∈ xs, KAt H x.w x.v x.k
 es : Sl 6 evC H ev s.es
 st : Sl 3 BE H sv s.st
theorem Da.mono {H H' : Heap} (hp : H <+: H') {rv mv ev sv : V} {xs : List MR} {s : St} (h : Da H rv mv ev sv xs s) : Da H' rv mv ev sv xs s :=
 ⟨h.rows.mono hp, h.ms.mono hp, h.val, fun x hx => (h.ks x hx).mono hp, h.es.mono hp, h.st.mono hp⟩
structure St.Fit (s : St) : Prop where
 c : s.c.Fit
 ms : s.ms.length * 80 ≤ 140737488351232
 k : ∀ m ∈ s.ms, m.1.Fit
 es : s.es.length * 48 ≤ 140737488351232
 st : s.st.length * 32 ≤ 140737488351232
theorem EM {H : Heap} {v : V} {xs : List MR} (h : Sl 6 mrC H v xs) {j : Nat} {x : MR} (hx : xs[j]? = some x) :
  ∃ b o, idxV T 28 v (j : Int) = some (.ptr b o) ∧ loadV T 84 H b o = some (.agg (mC x.w x.v x.k x.h)) ∧ loadV T 82 H b o = some (.agg (kC x.w x.v x.k)) ∧ loadV T 3 H b (o + 5) = some (.int .i64 x.h) := by
 obtain ⟨b, o, cs, hi, hc, _, hlo, hlc⟩ := h.get T28 rfl T84 rfl hx
 rw [hc] at hlo hlc
 exact ⟨b, o, hi, AZ T84 rfl hlo, AZ T82 rfl (JL (j := 0) (n := 5) hlo (by decide)), AF T3 rfl (hlc 5 _ rfl)⟩
def OA {α : Type} (es : List α) (p : α → Bool) : Int := if es.findIdx p < es.length then (es.findIdx p : Int) else -1
theorem SX {α : Type} (es : List α) (p : α → Bool) : decide (OA es p ≥ 0) = es.any p := by
 unfold OA
 by_cases h : es.findIdx p < es.length
 ·rw [if_pos h, decide_eq_true (by omega)]
  symm
  rw [List.any_eq_true]
  exact ⟨_, List.getElem_mem h, List.findIdx_getElem⟩
 ·rw [if_neg h]
  have h2 : es.findIdx p = es.length := by have := List.findIdx_le_length (xs := es) (p := p); omega
  symm
  show es.any p = false
  rw [List.any_eq_false]
  intro x hx
  obtain ⟨i, hi, rfl⟩ := List.mem_iff_getElem.1 hx
  have := List.not_of_lt_findIdx (xs := es) (p := p) (i := i) (by omega)
  simpa using this
theorem Wn (H : Heap) (v : V) (es : List MR) (g : Nat) (caps : List V) (p : MR → Bool) (hx : Sl 6 mrC H v es) (hl : es.length ≤ 2 ^ 47) (hg : ∀ e ∈ es, Call Tryz.prog g (.agg (mC e.w e.v e.k e.h) :: caps) H (.bool (p e)) H) :
  Call Tryz.prog 120 [v, .fn g caps] H (.int .i64 (OA es p)) H := by
 refine AQ fit mixed Tryz.func120 rfl rfl rfl (by kernel_rfl) rfl fun hM => ?_
 obtain ⟨n, hn⟩ : ∃ n, es.length = n := ⟨_, rfl⟩
 have hlen := hx.len T28 rfl
 rw [hn] at hlen
 obtain ⟨k0, hk0⟩ : ∃ k, es.findIdx p = k := ⟨_, rfl⟩
 have hkn : k0 ≤ n := by rw [← hk0, ← hn]; exact List.findIdx_le_length
 have hres : OA es p = if k0 < n then (k0 : Int) else -1 := by unfold OA; rw [hk0, hn]
 refine goM ?_
 refine AT (fun c ρ h => ∃ k, k ≤ k0 ∧ c = n - k ∧ h = H ∧ ρ 0 = v ∧ ρ 1 = .fn g caps ∧ ρ 7 = .int .i64 (n : Int) ∧ ρ 8 = .int .i64 (k : Int)) ⟨0, Nat.zero_le _, rfl, rfl, rfl, rfl, rfl, rfl⟩ ?_
 clear hM
 rintro _ ρ h ⟨k, hk, rfl, rfl, h0, h1, h7, h8⟩
 refine goM ?_
 refine AE (fun hb => ?_) (fun hb => ?_)
 ·have hk' : k < n := by simpa using hb
  clear hb
  obtain ⟨e, he⟩ : ∃ e, es[k]? = some e := ⟨es[k]'(by omega), by simp⟩
  obtain ⟨b, o, hi, hlo, _⟩ := EM hx he
  have hw := AG (n := k) (by omega)
  have c1 := hg e (List.mem_of_getElem? he)
  have hpe : p e = decide (k = k0) := by
   have hkl : k < es.length := by omega
   have hek : es[k] = e := by rw [List.getElem?_eq_getElem hkl] at he; exact Option.some.inj he
   by_cases hkk : k < k0
   ·have := List.not_of_lt_findIdx (xs := es) (p := p) (i := k) (by omega)
    rw [hek] at this
    rw [this]; exact (decide_eq_false (by omega)).symm
   ·obtain rfl : k = k0 := by omega
    have := List.findIdx_getElem (xs := es) (p := p) (w := by omega)
    rw [decide_eq_true rfl, ← hek]
    simpa [hk0] using this
  rw [hpe] at c1
  clear he hpe hlen
  by_cases hkk : k = k0
  ·rw [decide_eq_true hkk] at c1
   rw [if_pos (by omega), ← hkk] at hres
   rw [hres]
   clear hres hk0 hkk hk hkn
   refine goM ?_
   refine AA c1 ?_
   refine goM ?_
   exact AY ⟨rfl, List.prefix_refl _⟩
  ·rw [decide_eq_false hkk] at c1
   have hk1 : k + 1 ≤ k0 := by omega
   clear hres hk0 hkk
   refine goM ?_
   refine AA c1 ?_
   refine goM ?_
   exact ⟨n - (k + 1), by omega, k + 1, hk1, rfl, rfl, by simp [AD, AB, *]⟩
 ·have hk' : k = n := by have : ¬ k < n := by simpa using hb
                         omega
  clear hb
  rw [if_neg (by omega)] at hres
  rw [hres]
  clear hres hk0
  refine goM ?_
  exact AY ⟨rfl, List.prefix_refl _⟩
theorem Ks (H : Heap) (v : V) (es : List MR) (g : Nat) (caps : List V) (p : MR → Bool) (hx : Sl 6 mrC H v es) (hl : es.length ≤ 2 ^ 47) (hg : ∀ e ∈ es, Call Tryz.prog g (.agg (mC e.w e.v e.k e.h) :: caps) H (.bool (p e)) H) :
  Call Tryz.prog 60 [v, .fn g caps] H (.bool (es.any p)) H := by
 refine AQ fit mixed Tryz.func60 rfl rfl rfl (by kernel_rfl) rfl fun hM => ?_
 have c1 := Wn H v es g caps p hx hl hg
 have h1 := SX es p
 generalize OA es p = z at *
 refine goM ?_
 refine AA c1 ?_
 refine goM ?_
 exact AY ⟨rfl, List.prefix_refl _⟩
theorem Qb (H : Heap) (v : V) (es : List Ent) (g : Nat) (caps : List V) (p : Ent → Bool) (hx : Sl 3 BE H v es) (hl : es.length ≤ 2 ^ 47) (hg : ∀ e ∈ es, Call Tryz.prog g (.agg (Hy e) :: caps) H (.bool (p e)) H) :
  Call Tryz.prog 174 [v, .fn g caps] H (.bool (es.any p)) H := by
 refine AQ fit mixed Tryz.func174 rfl rfl rfl (by kernel_rfl) rfl fun hM => ?_
 have c1 := ME H v es g caps p hx hl hg
 have h1 : decide (UX es p ≥ 0) = es.any p := SX es p
 generalize UX es p = z at *
 refine goM ?_
 refine AA c1 ?_
 refine goM ?_
 exact AY ⟨rfl, List.prefix_refl _⟩
theorem Wy (H : Heap) (cb co kb ko : Nat) (c : Cfg) (w v : V) (k : Chk) (l1 : loadV T 23 H cb (co + 1) = some (.agg [.int .i64 c.i, .int .i64 c.h])) (l0 : loadV T 82 H kb ko = some (.agg (kC w v k))) (l2 : loadV T 27 H kb ko = some w) (hk : KAt H w v k) (hf : k.Fit) :
  Call Tryz.prog 110 [.ptr cb co, .ptr kb ko] H (.bool (BW c k)) H := by
 refine AQ fit mixed Tryz.func110 rfl rfl rfl (by kernel_rfl) rfl fun hM => ?_
 have f1 := hf.ws
 have f2 := hf.vs
 have c1 := NJ H w v k.ws k.vs k.r k.m k.t hk.ws hk.vs (by omega) (by omega)
 have c2 := Gu H c.i c.h w k.ws hk.ws (by omega)
 unfold BW BI
 obtain ⟨r1, e1⟩ : ∃ q, CT k.ws k.vs k.r k.m k.t = q := ⟨_, rfl⟩
 rw [e1] at c1 ⊢
 clear e1 hk hf f1 f2
 cases r1
 ·refine goM ?_
  refine AI c1 ?_
  refine goM ?_
  exact AY ⟨rfl, hM.pre⟩
 ·refine goM ?_
  refine AI c1 ?_
  refine goM ?_
  refine AI c2 ?_
  refine goM ?_
  exact AY ⟨rfl, hM.pre⟩
theorem iD (H : Heap) (b cb co : Nat) (c : Cfg) (x : MR) (hb : H[b]? = some (.row [.ptr cb co] true)) (l1 : loadV T 23 H cb (co + 1) = some (.agg [.int .i64 c.i, .int .i64 c.h])) (l5 : loadV T 3 H cb (co + 5) = some (.int .i64 c.total)) (hk : KAt H x.w x.v x.k) (hf : x.k.Fit) :
  Call Tryz.prog 109 [.agg (mC x.w x.v x.k x.h), .ptr b 0] H (.bool (!(FO c x.val))) H := by
 have s1 := hk.ws.cells
 have s2 := hk.vs.cells
 have hl0 : loadV T 141 H b 0 = some (.ptr cb co) := AU dI rfl hb rfl
 refine AQ fit mixed Tryz.func109 rfl rfl rfl (by kernel_rfl) rfl fun hM => ?_
 refine AO (AK ?_)
 refine Ax T84 fun b1 H1 hM => ?_
 have c1 := Wy H1 cb co b1 0 c x.w x.v x.k (CX hM.pre l1) (hM.ldA .here T82 rfl (by show 0 + 5 ≤ 6; decide) rfl) (hM.ld .here T27 rfl rfl) (hk.mono hM.pre) hf
 have hl := CX hM.pre hl0
 have l5' := CX hM.pre l5
 clear hl0 l1 l5 hb hk hf
 unfold FO MR.val
 simp only
 obtain ⟨q, hq⟩ : ∃ q, BW c x.k = q := ⟨_, rfl⟩
 rw [hq] at c1 ⊢
 have hd : (!decide (x.k.t ≤ c.total)) = decide (x.k.t > c.total) := by
  by_cases h : x.k.t ≤ c.total
  ·rw [decide_eq_true h, decide_eq_false (by omega)]; rfl
  ·rw [decide_eq_false h, decide_eq_true (by omega)]; rfl
 clear hq
 cases q
 ·refine goM ?_
  refine AI c1 ?_
  refine goM ?_
  exact AY ⟨rfl, hM.pre⟩
 ·rw [Bool.true_and, hd]
  clear hd
  refine goM ?_
  refine AI c1 ?_
  refine goM ?_
  exact AY ⟨rfl, hM.pre⟩
theorem Uf {s : St} (h : It s) (hc : s.c.Fit) : s.Fit := by
 obtain ⟨h2, _⟩ := AX h.c
 have hl := h.len
 have h3 := (Nw h.es).2.1
 have h4 := h.st.len
 exact ⟨hc, by omega, fun m hm => Di (h.fits m hm), by omega, by omega⟩
theorem UI {s : St} {p : Nat} {o : Chk × Int} (h : EN s p o) (hf : s.Fit) : (doS s p).Fit := Uf (Eh (GP h).may) hf.c
theorem eP : DN.Fit := ⟨⟨by simp [DN, Vu], by simp [DN, Vu]⟩, by simp [DN], by simp [DN], by simp [DN], by simp [DN]⟩
theorem WN (H : Heap) (x : Int) (dn : Bool) : Call Tryz.prog 229 [.int .i64 x, .bool dn] H (.int .i64 (Is x dn)) H := by
 refine AQ fit mixed Tryz.func229 rfl rfl rfl (by kernel_rfl) rfl fun hM => ?_
 have c1 := Dh H x 52429
 have c2 := Dh H x 81920
 unfold Is
 cases dn
 ·refine goM ?_
  refine AA c2 ?_
  refine goM ?_
  exact AY ⟨rfl, hM.pre⟩
 ·refine goM ?_
  refine AA c1 ?_
  refine goM ?_
  exact AY ⟨rfl, hM.pre⟩
theorem WA (b : Nat) : ((b : Int).tmod 2 == 1) = (b % 2 == 1) := by
 rw [Int.tmod_eq_emod_of_nonneg (by omega)]
 by_cases h : b % 2 = 1
 ·rw [show ((b : Int) % 2) = 1 by omega, h]; rfl
 ·have : b % 2 = 0 := by omega
  rw [show ((b : Int) % 2) = 0 by omega, this]; rfl
theorem ZO (H : Heap) (r m : Int) (b : Nat) (hy : BK r m = true) (hb : b < 4) : Call Tryz.prog 203 [.agg [.int .i64 r, .int .i64 m], .int .i64 b] H (.tup [.agg [.int .i64 (IG r m b).1, .int .i64 (IG r m b).2], .int .i64 0]) H := by
 refine AQ fit mixed Tryz.func203 rfl rfl rfl (by kernel_rfl) rfl fun hM => ?_
 refine AO (AK ?_)
 refine Ax T80 fun b1 H1 hM => ?_
 refine Aj (cs := [.int .i64 0, .int .i64 0]) T80 rfl fun b2 H2 hM => ?_
 have c0 := MD H2 r m
 rw [hy] at c0
 have g1 : decide ((b : Int) < 0) = false := decide_eq_false (by omega)
 have g2 : decide ((b : Int) > 3) = false := decide_eq_false (by omega)
 have e1 := WA b
 have e2 : decide ((b : Int) ≥ 2) = decide (2 ≤ b) := by
  by_cases h : 2 ≤ b
  ·rw [decide_eq_true h, decide_eq_true (by omega)]
  ·rw [decide_eq_false h, decide_eq_false (by omega)]
 clear hy hb
 unfold IG
 have c1 := WN H2 r (b % 2 == 1)
 have c2 := WN H2 m (decide (2 ≤ b))
 generalize (b % 2 == 1) = d1 at *
 generalize decide (2 ≤ b) = d2 at *
 generalize Is r d1 = x1 at *
 generalize Is m d2 = x2 at *
 have q1 : (if x1 > 64 then x1 else 64) = max 64 x1 := by omega
 have q2 : (if max 64 x1 < 16384 then max 64 x1 else 16384) = min 16384 (max 64 x1) := by omega
 have q3 : (if x2 > 0 then x2 else 0) = max 0 x2 := by omega
 have q4 : (if max 0 x2 < 58982 then max 0 x2 else 58982) = min 58982 (max 0 x2) := by omega
 refine goM ?_
 refine AA c0 ?_
 refine goM ?_
 refine AI c1 ?_
 refine goM ?_
 refine AI c2 ?_
 refine goM ?_
 refine AM T80 fun H3 hM => ?_
 refine goM ?_
 exact An ⟨rfl, hM.pre⟩
end Go.Proofs.YtncjbjlmgnjhiaaGreat.VM
namespace Go.Proofs.YtncjbjlmgnjhiaaGreat.VM
open Go
set_option linter.unusedVariables false
set_option linter.unusedSimpArgs false
attribute [local irreducible] wq wqL wqD wqE wqO Th Bk EndR
set_option maxHeartbeats 8000000
section maps
variable {P : Program} {T : Tab}
theorem Xd {ρ : Rho} {H : Heap} {t : Nat} : CP T ρ H (.makeMap t none) (.map H.length) (H ++ [.mp []]) := Cw rfl rfl rfl
theorem TT {ρ : Rho} {H : Heap} {t : Nat} {i : TI} {x ix : Operand} {b : Nat} {k : Int} {es : List (Int × Int)} (hT : T t = some i) (hk : i.k = .map) (hx : ρ.ev x = some (.map b)) (hix : ρ.ev ix = some (.int .i64 k)) (hb : H[b]? = some (.mp es)) : CP T ρ H (.lookup t x ix false) (.int .i64 ((mapGet es k).getD 0)) H := by
 obtain ⟨kk, size, bytes, zero, cmp⟩ := i
 simp only at hk
 subst hk
 exact Cw rfl rfl (by simp only [memOp, hT, hx, hix, hb])
theorem TU {ρ : Rho} {H : Heap} {t : Nat} {i : TI} {x ix y : Operand} {b : Nat} {k v : Int} {es : List (Int × Int)} (hT : T t = some i) (hk : i.k = .map) (hx : ρ.ev x = some (.map b)) (hix : ρ.ev ix = some (.int .i64 k)) (hy : ρ.ev y = some (.int .i64 v)) (hb : H[b]? = some (.mp es)) : CP T ρ H (.mapUpdate t x ix y) V.undef (H.set b (.mp (DK es k v))) := by
 obtain ⟨kk, size, bytes, zero, cmp⟩ := i
 simp only at hk
 subst hk
 exact Cw rfl rfl (by simp only [memOp, hT, hx, hix, hy, hb])
end maps
def Ud (b : Nat) (es : List (Int × Int)) : Fact where
 S c := c = b
 p H := H[b]? = some (.mp es)
 st H H' h hf := (hf b rfl).trans h
 lt H c h hc := by subst hc; exact (List.getElem?_eq_some_iff.1 h).1
theorem Mem.eK {B H : Heap} {L : List Res} (h : Mem B H L) : Mem B (H ++ [.mp []]) (.ro (Ud H.length []) :: L) := by
 refine h.call (L' := [.ro (Ud H.length [])]) ⟨List.prefix_append _ _, fun r hr => ?_, fun r hr c hc => ?_, by simp⟩
 ·rcases List.mem_singleton.1 hr with rfl
  show (H ++ [Blk.mp []])[H.length]? = some (.mp [])
  simp
 ·rcases List.mem_singleton.1 hr with rfl
  have : c = H.length := hc
  omega
theorem Mem.DK {B H : Heap} {L : List Res} {f : Res → List Res} {b : Nat} {es : List (Int × Int)} (h : Mem B H L) (hh : Has L (.ro (Ud b es)) f) (k v : Int) : Mem B (H.set b (.mp (VM.DK es k v))) (f (.ro (Ud b (VM.DK es k v)))) := by
 have hg : H[b]? = some (.mp es) := h.fact hh
 have hb := (List.getElem?_eq_some_iff.1 hg).1
 refine h.VB hh (by simp) (fun c hc hne => by rw [List.getElem?_set_ne (fun e => hne e.symm)]) ?_ fun c hc => .inl hc
 show (H.set b (.mp (VM.DK es k v)))[b]? = some (.mp (VM.DK es k v))
 rw [List.getElem?_set_self hb]
theorem Vf (k v j : Int) : ∀ es : List (Int × Int), (mapGet (DK es k v) j).getD 0 = if j = k then v else (mapGet es j).getD 0
 | [] => by
  unfold DK mapGet
  by_cases h : j = k
  ·subst h; simp
  ·rw [if_neg h]; simp [mapGet, Ne.symm h]
 | (a, b) :: r => by
  have ih := Vf k v j r
  unfold DK
  by_cases ha : a = k
  ·subst ha
   rw [if_pos rfl]
   by_cases h : j = a
   ·subst h; simp [mapGet]
   ·simp [mapGet, h, Ne.symm h]
  ·rw [if_neg ha]
   by_cases h : a = j
   ·subst h; simp [mapGet, ha]
   ·simp only [mapGet, if_neg h]
    exact ih
theorem aV (H : Heap) (b mb : Nat) (m : List (Int × Int)) (e : Ent) (hb : H[b]? = some (.row [.map mb] true)) (hm : H[mb]? = some (.mp m)) : Call Tryz.prog 175 [.agg (Hy e), .ptr b 0] H (.bool (e.n != (mapGet m e.id).getD 0)) H := by
 have hl0 : loadV T 233 H b 0 = some (.map mb) := AU WU rfl hb rfl
 refine AQ fit mixed Tryz.func175 rfl rfl rfl (by kernel_rfl) rfl fun hM => ?_
 refine AO (AK ?_)
 refine Ax T63 fun b1 H1 hM => ?_
 have hl := CX hM.pre hl0
 have hm1 := (Cp hM.pre (List.getElem?_eq_some_iff.1 hm).1).trans hm
 clear hl0 hb hm
 refine goM ?_
 refine Bs ?_
 refine BC (TT WU rfl eLk eLk hm1) ?_
 refine goM ?_
 exact AY ⟨rfl, hM.pre⟩
theorem eA (H : Heap) (b : Nat) (s : St) (rv mv ev sv : V) (xs : List MR) (l9 : loadV T 28 H b 9 = some mv) (l11 : loadV T 30 H b 11 = some sv) (ha : Da H rv mv ev sv xs s) (hst : s.st.length ≤ 2 ^ 47) (h8 : xs.length ≤ 8) (hk : ∀ x ∈ xs, BW s.c x.k = true) :
  Call Tryz.prog 113 [.ptr b 0] H (.bool (HJ s)) H := by
 refine AQ fit mixed Tryz.func113 rfl rfl rfl (by kernel_rfl) rfl fun hM => ?_
 obtain ⟨n, hn⟩ : ∃ n, xs.length = n := ⟨_, rfl⟩
 have hlen := ha.ms.len T28 rfl
 rw [hn] at hlen
 have hsl : s.ms.length = n := by rw [← ha.val, List.length_map, hn]
 refine goM ?_
 refine Bs ?_
 refine BC Xd ?_
 replace hM := hM.eK
 generalize hmb : H.length = mb at *
 generalize hH1 : H ++ [Blk.mp []] = H1 at *
 refine Aj (cs := [.nilm]) WU rfl fun b3 H2 hM => ?_
 refine AM WU fun H3 hM => ?_
 have l9'' := CX hM.pre l9
 refine goM ?_
 refine AT (fun cc ρ h => ∃ (k : Nat) (m : List (Int × Int)), k ≤ n ∧ cc = n - k ∧ (∀ (j : Nat) x, j < k → xs[j]? = some x → FW s.st x.val = true) ∧ (∀ id, (mapGet m id).getD 0 = (BQ (s.ms.take k) id : Int)) ∧ Mem H h [.box b3 [.map mb], .ro (Ud mb m)] ∧ ρ 0 = .ptr b 0 ∧ ρ 3 = .ptr b3 0 ∧ ρ 14 = mv ∧ ρ 15 = .int .i64 (n : Int) ∧ ρ 16 = .int .i64 (k : Int)) ⟨0, [], Nat.zero_le _, rfl, fun j x hj => by omega, fun id => rfl, hM, by simp [AD, AB, BT, *]⟩ ?_
 clear l9'' l9 hH1
 repeat clear hM
 rintro _ ρ h ⟨k, m, hkn, rfl, hok, hcnt, hM, g0, g3, g14, g15, g16⟩
 refine goM ?_
 refine AE (fun hb => ?_) (fun hb => ?_)
 ·have hk' : k < n := by simpa using hb
  clear hb
  obtain ⟨x, hx⟩ : ∃ x, xs[k]? = some x := ⟨xs[k]'(by omega), by simp⟩
  have hxm := List.mem_of_getElem? hx
  have hka := ha.ks x hxm
  have hkf := hk x hxm
  have hchk : CT x.k.ws x.k.vs x.k.r x.k.m x.k.t = true := by
   unfold BW BI at hkf
   rw [Bool.and_eq_true] at hkf
   exact hkf.1
  have hmx : s.ms[k]? = some x.val := by rw [← ha.val, List.getElem?_map, hx]; rfl
  obtain ⟨bo, o, hi, lo, _, _⟩ := EM (ha.ms.mono hM.pre) hx
  have s1 := hka.ws.cells
  have s2 := hka.vs.cells
  have hw := AG (n := k) (by omega)
  have hcs := fun id => hcnt id
  have hsnoc : ∀ id, BQ (s.ms.take (k + 1)) id = BQ (s.ms.take k) id + if x.h = id then 1 else 0 := fun id => by
   rw [List.take_add_one, hmx]
   exact IX _ _ _
  have hle := KH (s.ms.take k) x.h
  rw [List.length_take] at hle
  have hho : FW s.st x.val = ((Cl s.st x.h).2 && EF (Cl s.st x.h).1 (BB x.k)) := rfl
  have hbad : FW s.st x.val = false → HJ s = false := fun h => by
   unfold HJ
   have : s.ms.all (FW s.st) = false := by
    rw [List.all_eq_false]
    exact ⟨x.val, List.mem_of_getElem? hmx, by rw [h]; decide⟩
   rw [this, Bool.false_and]
  have hgt := Ye h sv s.st x.h (ha.st.mono hM.pre) hst
  clear hmx hkf hxm
  refine goM ?_
  refine Aj (cs := Dr) T84 rfl fun b5 H4 hM => ?_
  refine AM T84 fun H5 hM => ?_
  refine goM ?_
  have c1 := Lr H5 x.w x.v x.k.ws x.k.vs x.k.r x.k.m x.k.t (hka.mono hM.pre).ws (hka.mono hM.pre).vs hchk
  refine AA c1 ?_
  clear c1 hgt
  have htxt : strOf (MP x.k.ws x.k.vs x.k.r x.k.m x.k.t) = BB x.k := rfl
  rw [htxt]
  have hgt := Ye H5 sv s.st x.h (ha.st.mono hM.pre) hst
  have l11' := CX hM.pre l11
  have htd := GB (Cl s.st x.h).1 (BB x.k)
  generalize Cl s.st x.h = g at *
  generalize BB x.k = t at *
  obtain ⟨gt, gb⟩ := g
  simp only at hgt htd hho
  obtain ⟨q, hq⟩ : ∃ q, EF gt t = q := ⟨_, rfl⟩
  rw [hq] at htd hho
  clear hq htxt
  cases gb with
  | false =>
   rw [hbad hho]
   clear hbad hho hcnt hcs hsnoc hok hka hchk
   refine goM ?_
   refine AI hgt ?_
   refine goM ?_
   exact AY ⟨rfl, hM.pre⟩
  | true =>
   cases q with
   | false =>
    rw [hbad hho]
    clear hbad hho hcnt hcs hsnoc hok hka hchk
    refine goM ?_
    refine AI hgt ?_
    refine goM ?_
    exact AY ⟨rfl, hM.pre⟩
   | true =>
    have hw2 : IntKind.i64.wrap ((mapGet m x.h).getD 0 + 1) = (mapGet m x.h).getD 0 + 1 := by
     rw [hcnt]
     exact wrap_i64 (by omega) (by omega)
    have hcx : Held (∀ id, (mapGet m id).getD 0 = (BQ (s.ms.take k) id : Int)) := hcnt
    clear hbad hcnt hcs
    refine goM ?_
    refine AI hgt ?_
    refine goM ?_
    have hmp : H5[mb]? = some (.mp m) := hM.fact (F := Ud mb m) hsG
    refine Bs ?_
    refine BC (TT WU rfl eLk eLk hmp) ?_
    refine goM ?_
    refine Bs ?_
    refine BC (TU WU rfl eLk eLk eLk hmp) ?_
    have hM2 := hM.DK (b := mb) (es := m) hsG x.h ((mapGet m x.h).getD 0 + 1)
    clear hM hmp
    generalize H5.set mb (.mp (VM.DK m x.h ((mapGet m x.h).getD 0 + 1))) = H6 at *
    refine goM ?_
    refine ⟨n - (k + 1), by omega, k + 1, _, hk', rfl, fun j y hj hy => ?_, fun id => ?_, hM2.sub sbG, by simp [AD, AB, *]⟩
    ·by_cases hjk : j < k
     ·exact hok j y hjk hy
     ·obtain rfl : j = k := by omega
      rw [hx] at hy
      cases hy
      exact hho
    ·have hcnt : ∀ id, (mapGet m id).getD 0 = (BQ (s.ms.take k) id : Int) := hcx
     rw [Vf, hsnoc, hcnt, hcnt]
     by_cases hid : id = x.h
     ·subst hid; simp
     ·rw [if_neg hid, if_neg (Ne.symm hid)]; simp
 ·have hk' : k = n := by have : ¬ k < n := by simpa using hb
                         omega
  subst hk'
  clear hb
  have hall : s.ms.all (FW s.st) = true := by
   rw [List.all_eq_true]
   intro y hy
   rw [← ha.val, List.mem_map] at hy
   obtain ⟨x, hx, rfl⟩ := hy
   obtain ⟨j, hj⟩ := List.mem_iff_getElem?.1 hx
   exact hok j x (by have := (List.getElem?_eq_some_iff.1 hj).1; omega) hj
  rw [List.take_of_length_le (by omega)] at hcnt
  have hany : s.st.any (fun e => e.n != (mapGet m e.id).getD 0) = !(s.st.all (Dn s.ms)) := by
   rw [List.not_all_eq_any_not]
   congr 1
   funext e
   unfold Dn
   rw [hcnt]
   by_cases h : e.n = (BQ s.ms e.id : Int)
   ·rw [decide_eq_true h, h]; simp
   ·rw [decide_eq_false h]; simp [h]
  have c1 := Qb h sv s.st 175 [.ptr b3 0] (fun e => e.n != (mapGet m e.id).getD 0) (ha.st.mono hM.pre) hst (fun e _ => aV h b3 mb m e (hM.row hsG) (hM.fact (F := Ud mb m) hsG))
  rw [hany] at c1
  have l11' := CX hM.pre l11
  have hres : HJ s = s.st.all (Dn s.ms) := by unfold HJ; rw [hall, Bool.true_and]
  rw [hres]
  generalize s.st.all (Dn s.ms) = z at *
  clear hall hany hcnt hok hk ha l11
  refine goM ?_
  refine AA c1 ?_
  refine goM ?_
  cases z
  all_goals exact AY ⟨rfl, hM.pre⟩
end Go.Proofs.YtncjbjlmgnjhiaaGreat.VM
namespace Go.Proofs.YtncjbjlmgnjhiaaGreat.VM
open Go
set_option linter.unusedVariables false
set_option linter.unusedSimpArgs false
attribute [local irreducible] wq wqL wqD wqE wqO Th Bk EndR
set_option maxHeartbeats 8000000
theorem St.Fit.kx {s : St} (hf : s.Fit) {H : Heap} {rv mv ev sv : V} {xs : List MR} (ha : Da H rv mv ev sv xs s) : ∀ x ∈ xs, x.k.Fit := fun x hx => hf.k x.val (by rw [← ha.val]; exact List.mem_map_of_mem hx)
theorem Da.len {H : Heap} {rv mv ev sv : V} {xs : List MR} {s : St} (ha : Da H rv mv ev sv xs s) : xs.length = s.ms.length := by rw [← ha.val, List.length_map]
theorem bJ {H : Heap} {rv mv ev sv : V} {xs : List MR} {s : St} (ha : Da H rv mv ev sv xs s) : xs.any (fun x => !(FO s.c x.val)) = !(s.ms.all (FO s.c)) := by
 rw [← ha.val, List.all_map, List.not_all_eq_any_not]; rfl
theorem Tc (s : St) : BZ s = (Al s.c && decide ((s.ms.length : Int) = s.c.m) && s.ms.all (FO s.c) && Ap s.es s.c.m && Az s.st && HJ s) := rfl
theorem Iz (H : Heap) (s : St) (rv mv ev sv : V) (xs : List MR) (ha : Da H rv mv ev sv xs s) (hf : s.Fit) :
  Call Tryz.prog 54 [.agg (stC s.c rv mv ev sv)] H (.bool (BZ s)) H := by
 have l1 := hf.c.rows
 have l2 := hf.c.row
 have l3 := hf.ms
 have l4 := hf.es
 have l5 := hf.st
 have s1 : rv.cells = [rv] ∧ rv.isTup = false := by obtain ⟨_, h, _⟩ := ha.rows; exact h.cells
 have s2 := ha.ms.cells
 have s3 := ha.es.cells
 have s4 := ha.st.cells
 have hxl := ha.len
 have hkx := hf.kx ha
 have hlen := ha.ms.len T28 rfl
 rw [hxl] at hlen
 refine AQ fit mixed Tryz.func54 rfl rfl rfl (by kernel_rfl) rfl fun hM => ?_
 refine AO (AK ?_)
 refine Ax T32 fun b1 H1 hM => ?_
 refine goM ?_
 refine Aj (cs := [.Co]) dI rfl fun b3 H2 hM => ?_
 refine AM dI fun H3 hM => ?_
 have c1 := Dw H3 s.c rv (ha.rows.mono hM.pre) (by omega) (fun r hr => by have := l2 r hr; omega)
 have c2 := Ks H3 mv xs 109 [.ptr b3 0] (fun x => !(FO s.c x.val)) (ha.ms.mono hM.pre) (by omega) (fun x hx => iD H3 b3 b1 0 s.c x (hM.row hsG) (hM.ldA (b := b1) (cs := stC s.c rv mv ev sv) hsG T23 rfl (by show 0 + 1 + 2 ≤ 12; decide) rfl) (hM.ld (b := b1) (cs := stC s.c rv mv ev sv) hsG T3 rfl rfl) ((ha.ks x hx).mono hM.pre) (hkx x hx))
 rw [bJ ha] at c2
 have c3 := KW H3 ev s.es s.c.m (ha.es.mono hM.pre) (by omega)
 have c4 := IK H3 sv s.st (ha.st.mono hM.pre) (by omega)
 have c5 : Al s.c = true → ((s.ms.length : Int) = s.c.m) → s.ms.all (FO s.c) = true → Call Tryz.prog 113 [.ptr b1 0] H3 (.bool (HJ s)) H3 := fun h1 h2 h3 => by
  obtain ⟨hm2, _⟩ := AX h1
  refine eA H3 b1 s rv mv ev sv xs (hM.ld (b := b1) (cs := stC s.c rv mv ev sv) hsG T28 rfl rfl) (hM.ld (b := b1) (cs := stC s.c rv mv ev sv) hsG T30 rfl rfl) (ha.mono hM.pre) (by omega) (by omega) fun x hx => ?_
  have := List.all_eq_true.1 h3 x.val (by rw [← ha.val]; exact List.mem_map_of_mem hx)
  unfold FO MR.val at this
  rw [Bool.and_eq_true] at this
  exact this.1
 rw [Tc]
 obtain ⟨q1, e1⟩ : ∃ q, Al s.c = q := ⟨_, rfl⟩
 obtain ⟨q2, e2⟩ : ∃ q, decide ((s.ms.length : Int) = s.c.m) = q := ⟨_, rfl⟩
 obtain ⟨q3, e3⟩ : ∃ q, s.ms.all (FO s.c) = q := ⟨_, rfl⟩
 obtain ⟨q4, e4⟩ : ∃ q, Ap s.es s.c.m = q := ⟨_, rfl⟩
 obtain ⟨q5, e5⟩ : ∃ q, Az s.st = q := ⟨_, rfl⟩
 have d2 : ((s.ms.length : Int) == s.c.m) = q2 := by rw [← e2]; by_cases h : (s.ms.length : Int) = s.c.m <;> simp [h]
 have c5' : q1 = true → q2 = true → q3 = true → Call Tryz.prog 113 [.ptr b1 0] H3 (.bool (HJ s)) H3 := fun h1 h2 h3 => c5 (e1.trans h1) (of_decide_eq_true (e2.trans h2)) (e3.trans h3)
 rw [e1, e2, e3, e4, e5]
 rw [e1] at c1
 rw [e3] at c2
 rw [e4] at c3
 rw [e5] at c4
 generalize HJ s = hd at *
 clear c5 e1 e2 e3 e4 e5 ha hf hkx l1 l2 l3 l4 l5
 cases q1 with
 | false =>
  clear c5'
  refine goM ?_
  refine AI c1 ?_
  refine goM ?_
  exact AY ⟨rfl, hM.pre⟩
 | true =>
 cases q2 with
 | false =>
  clear c5'
  refine goM ?_
  refine AI c1 ?_
  refine goM ?_
  exact AY ⟨rfl, hM.pre⟩
 | true =>
 cases q3 with
 | false =>
  clear c5'
  refine goM ?_
  refine AI c1 ?_
  refine goM ?_
  refine AI c2 ?_
  refine goM ?_
  exact AY ⟨rfl, hM.pre⟩
 | true =>
 have c5 := c5' rfl rfl rfl
 clear c5'
 cases q4 with
 | false =>
  refine goM ?_
  refine AI c1 ?_
  refine goM ?_
  refine AI c2 ?_
  refine goM ?_
  refine AI c3 ?_
  refine goM ?_
  exact AY ⟨rfl, hM.pre⟩
 | true =>
 cases q5 with
 | false =>
  refine goM ?_
  refine AI c1 ?_
  refine goM ?_
  refine AI c2 ?_
  refine goM ?_
  refine AI c3 ?_
  refine goM ?_
  refine AI c4 ?_
  refine goM ?_
  exact AY ⟨rfl, hM.pre⟩
 | true =>
  refine goM ?_
  refine AI c1 ?_
  refine goM ?_
  refine AI c2 ?_
  refine goM ?_
  refine AI c3 ?_
  refine goM ?_
  refine AI c4 ?_
  refine goM ?_
  refine AI c5 ?_
  refine goM ?_
  exact AY ⟨rfl, hM.pre⟩
theorem gY (H : Heap) (b : Nat) (s : St) (rv mv ev sv : V) (xs : List MR) (l0 : loadV T 26 H b 0 = some (.agg (BJ s.c rv))) (l9 : loadV T 28 H b 9 = some mv) (ha : Da H rv mv ev sv xs s) (hf : s.Fit) :
  ∃ w H', Call Tryz.prog 147 [.ptr b 0] H w H' ∧ Mem H H' [.own 1 AH w (FI s)] := by
 refine Ao fit mixed Tryz.func147 rfl rfl rfl (by kernel_rfl) fun hM => ?_
 obtain ⟨n, hn⟩ : ∃ n, xs.length = n := ⟨_, rfl⟩
 have hlen := ha.ms.len T28 rfl
 rw [hn] at hlen
 have hkx := hf.kx ha
 have hnb : n * 80 ≤ 140737488351232 := by have := hf.ms; rw [← hn, ha.len]; exact this
 have hsc : FI s = xs.map fun x => (By s.c x.k).1 := by unfold FI; rw [← ha.val, List.map_map]; rfl
 rw [hsc]
 clear hsc
 refine goM ?_
 refine AT (fun cc ρ h => ∃ (k : Nat) (u : V), k ≤ n ∧ cc = n - k ∧ Mem H h [.own 1 AH u ((xs.take k).map fun x => (By s.c x.k).1)] ∧ ρ 0 = .ptr b 0 ∧ ρ 3 = u ∧ ρ 11 = mv ∧ ρ 12 = .int .i64 (n : Int) ∧ ρ 13 = .int .i64 (k : Int)) ⟨0, .AN, Nat.zero_le _, rfl, hM.nil 1 AH, by simp [AD, AB, BT, *]⟩ ?_
 clear hM
 rintro _ ρ h ⟨k, u, hk, rfl, hM, g0, g3, g11, g12, g13⟩
 have t1 := (hM.sl .here).cells
 refine goM ?_
 refine AE (fun hb => ?_) (fun hb => ?_)
 ·have hk' : k < n := by simpa using hb
  clear hb
  obtain ⟨x, hx⟩ : ∃ x, xs[k]? = some x := ⟨xs[k]'(by omega), by simp⟩
  have hxm := List.mem_of_getElem? hx
  have hka := ha.ks x hxm
  obtain ⟨bo, o, hi, lo, _, _⟩ := EM (ha.ms.mono hM.pre) hx
  have s1 := hka.ws.cells
  have s2 := hka.vs.cells
  have hw := AG (n := k) (by omega)
  have htk : (xs.take (k + 1)).map (fun x => (By s.c x.k).1) = (xs.take k).map (fun x => (By s.c x.k).1) ++ [(By s.c x.k).1] := by rw [List.take_add_one, hx]; simp
  have hkf := hkx x hxm
  clear hx hxm
  refine goM ?_
  refine Aj (cs := Dr) T84 rfl fun b5 H4 hM => ?_
  refine AM T84 fun H5 hM => ?_
  have l0' := CX hM.pre l0
  refine goM ?_
  have c1 := RE H5 s.c rv x.w x.v x.k x.h (ha.rows.mono hM.pre) (hka.mono hM.pre) hf.c hkf
  refine AI c1 ?_
  refine goM ?_
  refine Aa AH [(By s.c x.k).1] [.int .i64 (By s.c x.k).1] T27 rfl T3 rfl (Ba [(By s.c x.k).1]) (by decide) fun e1 H6 hM => ?_
  refine goM ?_
  refine Bg (hM.sl .here) (xs := (xs.take k).map fun x => (By s.c x.k).1) (hh := .there (.there .here)) (hb := by simp only [List.length_map, List.length_take, List.length_cons, List.length_nil]; rw [Nat.min_eq_left (by omega)]; show (k + 1) * 8 ≤ _ ∧ k + 1 ≤ _; omega) fun u' H7 hM => ?_
  have t2 := (hM.sl (v := u') (xs := (xs.take k).map (fun x => (By s.c x.k).1) ++ [(By s.c x.k).1]) hsG).cells
  refine goM ?_
  refine ⟨n - (k + 1), by omega, k + 1, u', hk', rfl, ?_, by simp [AD, AB, *]⟩
  rw [htk]
  exact hM.Ea
 ·have hk' : k = n := by have : ¬ k < n := by simpa using hb
                         omega
  subst hk'
  clear hb
  rw [List.take_of_length_le (by omega)] at hM
  refine goM ?_
  exact AY hM
theorem UC (H : Heap) (v : V) (xs : List (V × Int)) (hx : Sl 2 Dg H v xs) (hl : xs.length * 32 ≤ 2 ^ 47) : ∃ w H', Call Tryz.prog 152 [v] H w H' ∧ Mem H H' [.own 2 Dg w xs] := by
 refine Ao fit mixed Tryz.func152 rfl rfl rfl (by kernel_rfl) fun hM => ?_
 rcases hx with ⟨rfl, rfl⟩ | ⟨b, off, cap, t, cs, wr, rfl, h1, h2, h3, h4⟩
 ·refine goM ?_
  exact AY (hM.nil 2 Dg)
 ·have hx : Sl 2 Dg H (.slc b off xs.length cap t 2) xs := .inr ⟨b, off, cap, t, cs, wr, rfl, h1, h2, h3, h4⟩
  clear h1 h2 h3 h4
  refine goM ?_
  refine Aa Dg [] [] T24 rfl GD rfl (Gb []) (by decide) fun e1 H3 hM => ?_
  refine goM ?_
  refine Bg (hx.mono hM.pre) (xs := []) (hb := by simp only [List.length_nil]; show (0 + xs.length) * 32 ≤ _ ∧ _; omega) fun a H4 hM => ?_
  refine goM ?_
  exact AY hM
structure cS (qv rv : List (V × Int)) (rs : List (List Int × Int)) (k : Nat) : Prop where
 len : rv.length = rs.length
 old : ∀ j, k ≤ j → rv[j]? = qv[j]?
 y : ∀ (j : Nat) p r, rv[j]? = some p → rs[j]? = some r → p.2 = r.2
theorem Ut {rv : List (V × Int)} {rs : List (List Int × Int)} {k : Nat} {p : V × Int} {r : List Int × Int} (hp : rv[k]? = some p) (hr : rs[k]? = some r) : Dq (rv.take (k + 1)) (rs.take (k + 1)) = Dq (rv.take k) (rs.take k) ++ [.own 1 AH p.1 r.1] := by
 unfold Dq
 have h1 := (List.getElem?_eq_some_iff.1 hp).1
 have h2 := (List.getElem?_eq_some_iff.1 hr).1
 rw [List.take_add_one, List.take_add_one, hp, hr, List.zipWith_append (by rw [List.length_take, List.length_take]; omega)]
 rfl
theorem Mi (H : Heap) (c : Cfg) (v : V) (hv : Rows H v c.rows) (hf : c.Fit) : ∃ w H', Call Tryz.prog 97 [.agg (BJ c v)] H w H' ∧ ∃ u rv, w = .agg (BJ c u) ∧ Jr rv c.rows ∧ Mem H H' [.ro (pack (Bl u rv c.rows))] := by
 have l1 := hf.rows
 have l2 := hf.row
 have s0 : v.cells = [v] ∧ v.isTup = false := by obtain ⟨_, h, _⟩ := hv; exact h.cells
 obtain ⟨qv, hqv, hql, hqa⟩ := hv
 obtain ⟨n, hn⟩ : ∃ n, c.rows.length = n := ⟨_, rfl⟩
 refine Ao fit mixed Tryz.func97 rfl rfl rfl (by kernel_rfl) fun hM => ?_
 refine AO (AK ?_)
 refine Ax T26 fun b1 H1 hM => ?_
 refine Aj (cs := Cj) T26 rfl fun b2 H2 hM => ?_
 refine goM ?_
 obtain ⟨u, H3, c1, m1⟩ := UC H2 v qv (hqv.mono hM.pre) (by omega)
 refine AA c1 ?_
 have s1 := (m1.sl .here).cells
 have hlen := (m1.sl .here).len T24 rfl
 rw [hql, hn] at hlen
 replace hM := hM.BH m1
 clear c1 m1
 refine goM ?_
 refine AM T24 fun H4 hM => ?_
 refine goM ?_
 have hM0 : Mem H H4 [.ro (pack []), .own 2 Dg u qv, .box b2 Cj, .box b1 (BJ c u)] := Mem.packed (L := []) hM
 refine AT (fun cc ρ h => ∃ (k : Nat) (rv : List (V × Int)), k ≤ n ∧ cc = n - k ∧ cS qv rv c.rows k ∧ Mem H h [.ro (pack (Dq (rv.take k) (c.rows.take k))), .own 2 Dg u rv, .box b2 Cj, .box b1 (BJ c u)] ∧ ρ 1 = .ptr b1 0 ∧ ρ 2 = .ptr b2 0 ∧ ρ 10 = .int .i64 (n : Int) ∧ ρ 11 = .int .i64 (k : Int)) ⟨0, qv, Nat.zero_le _, rfl, ⟨hql, fun _ _ => rfl, fun j p r hp hr => (hqa j p r hp hr).2⟩, hM0, by simp [AD, AB, BT, *]⟩ ?_
 repeat clear hM
 clear hM0
 rintro _ ρ h ⟨k, rv, hk, rfl, hrk, hM, g1, g2, g10, g11⟩
 refine goM ?_
 refine AE (fun hb => ?_) (fun hb => ?_)
 ·have hk' : k < n := by simpa using hb
  clear hb
  have hrl := hrk.len
  obtain ⟨⟨p, y⟩, hp⟩ : ∃ p, rv[k]? = some p := ⟨rv[k]'(by omega), by simp⟩
  obtain ⟨⟨ys, z⟩, hr⟩ : ∃ r, c.rows[k]? = some r := ⟨c.rows[k]'(by omega), by simp⟩
  have hqp : qv[k]? = some (p, y) := by rw [← hrk.old k (Nat.le_refl _)]; exact hp
  have hsl : Sl 1 AH H p ys := (hqa k _ _ hqp hr).1
  have hyl : ys.length * 8 ≤ 140737488351232 := l2 _ (List.mem_of_getElem? hr)
  obtain ⟨bo, o, cs, hi, hcs, _, hlo, hlc⟩ := (hM.sl (v := u) (xs := rv) hsG).get T24 rfl GD rfl hp
  have ho : loadV T 27 h bo o = some p := AF T27 rfl (hlc 0 p (by rw [hcs]; rfl))
  obtain ⟨a, H5, c1, m1⟩ := KG h p ys (hsl.mono hM.pre) (by omega)
  have hw := AG (n := k) (by omega)
  have s3 := (m1.sl .here).cells
  have hM5 := hM.BH m1
  obtain ⟨b', hi', hput⟩ := hM5.elemAt (sz := 2) (R := Dg) (v := u) (xs := rv) hsG T24 rfl GD rfl hp 0 T27 (by decide)
  rw [hi] at hi'
  cases hi'
  obtain ⟨H6, st, hM6⟩ := hput a (a, y) s3.2 (by rw [s3.1]; rfl) (fun cs hl hR => by rw [hR, s3.1]; rfl)
  simp only [Nat.add_zero] at st
  clear hput hlo hlc hcs
  have hrv : (rv.set k (a, y))[k]? = some (a, y) := List.getElem?_set_self (by omega)
  have hpk : Mem H H6 [.ro (pack (Dq ((rv.set k (a, y)).take (k + 1)) (c.rows.take (k + 1)))), .own 2 Dg u (rv.set k (a, y)), .box b2 Cj, .box b1 (BJ c u)] := by
   rw [Ut hrv hr, List.take_set_of_le (Nat.le_refl _)]
   refine Mem.packed ?_
   have h1 : Mem H H6 (Dq (rv.take k) (c.rows.take k) ++ .own 1 AH a ys :: [.own 2 Dg u (rv.set k (a, y)), .box b2 Cj, .box b1 (BJ c u)]) := Mem.Fu hM6.swap
   rw [List.append_assoc]
   exact h1
  have hrk2 : cS qv (rv.set k (a, y)) c.rows (k + 1) := ⟨by rw [List.length_set]; exact hrl, fun j hj => by rw [List.getElem?_set_ne (by omega)]; exact hrk.old j (by omega), fun j q r hq hr2 => by
   by_cases hjk : k = j
   ·subst hjk
    rw [hrv] at hq
    cases hq
    have := hrk.y k (p, y) r hp hr2
    exact this
   ·rw [List.getElem?_set_ne hjk] at hq
    exact hrk.y j q r hq hr2⟩
  clear hM5 hM6 hp hr hqp hrv
  refine goM ?_
  refine Be c1 (.inl m1.pre) ?_
  clear ho
  replace hM := hM.BH m1
  clear c1 m1
  refine goM ?_
  refine Jx st ?_
  refine goM ?_
  exact ⟨n - (k + 1), by omega, k + 1, _, hk', rfl, hrk2, hpk, by simp [AD, AB, *]⟩
 ·have hk' : k = n := by have : ¬ k < n := by simpa using hb
                         omega
  subst hk'
  clear hb
  rw [List.take_of_length_le (by have := hrk.len; omega), List.take_of_length_le (by omega)] at hM
  have hrk' := hrk.len
  have hlike : Jr rv c.rows := ⟨hrk.len, hrk.y⟩
  clear hrk
  refine goM ?_
  refine AM T26 fun H5 hM => ?_
  refine goM ?_
  refine AY ⟨u, rv, rfl, hlike, ?_⟩
  have h1 := (hM.front (r := .own 2 Dg u rv) tkG).swap
  have h2 : Mem H H5 (Dq rv c.rows ++ .own 2 Dg u rv :: _) := Mem.Fu h1
  have h3 : Mem H H5 (Bl u rv c.rows ++ _) := h2.perm (List.perm_middle)
  exact h3.packed.sub sbG
def Bn (xs : List MR) : List Res := xs.map fun x => Mq x.w x.v x.k.ws x.k.vs
def Cz (u mv ev sv : V) (rvs : List (V × Int)) (xs : List MR) (s : St) : List Res := [.ro (pack (Bl u rvs s.c.rows)), .ro (pack (Bn xs)), .own 6 mrC mv xs, .own 6 evC ev s.es, .own 3 BE sv s.st]
theorem GH {H : Heap} {xs : List MR} (h : (pack (Bn xs)).p H) : ∀ x ∈ xs, KAt H x.w x.v x.k := fun x hx => by
 obtain ⟨i, hi⟩ := List.mem_iff_getElem?.1 hx
 have hm := IE h
 have hr : (Bn xs)[i]? = some (Mq x.w x.v x.k.ws x.k.vs) := by unfold Bn; rw [List.getElem?_map, hi]; rfl
 exact Si (hm.get (Has.nth hr))
theorem Tb {B H : Heap} {u mv ev sv : V} {rvs : List (V × Int)} {xs : List MR} {s : St} {L : List Res} (hM : Mem B H (Cz u mv ev sv rvs xs s ++ L)) (hl : Jr rvs s.c.rows) (hv : xs.map MR.val = s.ms) : Da H u mv ev sv xs s :=
 ⟨DL (hM.fact .here) hl, hM.sl (.there (.there .here)), hv, GH (hM.fact (.there .here)), hM.sl (.there (.there (.there .here))), hM.sl (.there (.there (.there (.there .here))))⟩
theorem XB (xs : List MR) (x : MR) : Bn (xs ++ [x]) = Bn xs ++ [Mq x.w x.v x.k.ws x.k.vs] := by unfold Bn; rw [List.map_append]; rfl
theorem Mem.JN {B H : Heap} {xs : List MR} {x : MR} {M : List Res} (h : Mem B H (.own 1 AH x.w x.k.ws :: .own 1 AH x.v x.k.vs :: .ro (pack (Bn xs)) :: M)) : Mem B H (.ro (pack (Bn (xs ++ [x]))) :: M) := by
 have h1 : Mem B H (.ro (pack (Bn xs)) :: Mq x.w x.v x.k.ws x.k.vs :: M) := h.Vx.swap
 rw [XB]
 refine Mem.packed ?_
 have h2 := h1.Fu
 rw [List.append_assoc]
 exact h2
theorem Pg {c : Cfg} (hc : Al c = true) {k : Nat} (hk : (k : Int) < c.m) : Cx c k = true := by
 obtain ⟨hm2, _⟩ := AX hc
 unfold Cx
 rw [hc, Ip hm2, within_iff.2 ⟨by omega, by omega⟩]; rfl
theorem OR {H : Heap} : Mem H H (Cz .AN .AN .AN .AN [] [] DN) :=
 Mem.packed (L := Bl .AN [] []) ((Mem.packed (L := []) ((((Mem.start H).nil 3 BE).nil 6 evC).nil 6 mrC)).nil 2 Dg)
theorem SA (H : Heap) (c : Cfg) (rv : V) (hr : Rows H rv c.rows) (hf : c.Fit) :
  ∃ w H', Call Tryz.prog 46 [.agg (BJ c rv)] H w H' ∧ ∃ u mv sv rvs xs, w = .tup [.agg (stC (Gy c).1.c u mv .AN sv), .int .i64 (Gy c).2] ∧ Jr rvs (Gy c).1.c.rows ∧ xs.map MR.val = (Gy c).1.ms ∧ Mem H H' (Cz u mv .AN sv rvs xs (Gy c).1) := by
 have l1 := hf.rows
 have l2 := hf.row
 have s0 : rv.cells = [rv] ∧ rv.isTup = false := by obtain ⟨_, h, _⟩ := hr; exact h.cells
 refine Ao fit mixed Tryz.func46 rfl rfl rfl (by kernel_rfl) fun hM => ?_
 refine AO (AK ?_)
 refine Ax T26 fun b1 H1 hM => ?_
 refine Aj (cs := Au) T32 rfl fun b2 H2 hM => ?_
 have c1 := Dw H2 c rv (hr.mono hM.pre) (by omega) (fun r hr => by have := l2 r hr; omega)
 unfold Gy
 cases hc : Al c with
 | false =>
  rw [hc] at c1
  rw [if_neg (by decide)]
  clear hc
  refine goM ?_
  refine AA c1 ?_
  refine goM ?_
  refine AM T32 fun H3 hM => ?_
  refine goM ?_
  exact An ⟨.AN, .AN, .AN, [], [], rfl, ⟨rfl, by simp⟩, rfl, (OR (H := H3)).Yt hM.pre⟩
 | true =>
  rw [hc] at c1
  rw [if_pos rfl]
  obtain ⟨hm2, _⟩ := AX hc
  obtain ⟨n, hn⟩ : ∃ n : Nat, c.m = n := ⟨c.m.toNat, by omega⟩
  have hn8 : n ≤ 8 := by omega
  have hlt : ∀ k : Nat, k < n → Cx c k = true := fun k h => Pg hc (by omega)
  have hnew := fun i h => (ML hc i h).1
  have hnat : c.m.toNat = n := by omega
  have hS : FX c = ⟨c, (newF c n).1, [], (newF c n).2⟩ := by unfold FX; rw [hnat]
  rw [hS]
  clear hS hnat
  replace hn : Held (c.m = n) := hn
  refine goM ?_
  refine AA c1 ?_
  clear c1
  refine goM ?_
  obtain ⟨_, H3, c1, u, rvs, rfl, hlk, m1⟩ := Mi H2 c rv (hr.mono hM.pre) hf
  refine AA c1 ?_
  have s1 : u.cells = [u] ∧ u.isTup = false := by obtain ⟨_, h, _⟩ := DL (m1.fact .here) hlk; exact h.cells
  replace hM := hM.BH m1
  clear c1 m1
  refine goM ?_
  refine Aj (cs := Au) T32 rfl fun b4 H4 hM => ?_
  refine AM T32 fun H5 hM => ?_
  refine goM ?_
  have hM0 : Mem H H5 [.box b4 (stC c u .AN .AN .AN), .ro (pack (Bn [])), .own 6 mrC .AN [], .own 3 BE .AN [], .ro (pack (Bl u rvs c.rows)), .box b2 Au, .box b1 (BJ c rv)] := by
   have h1 := Mem.packed (L := []) ((hM.nil 3 BE).nil 6 mrC)
   exact (h1.front (r := .box b4 (stC c u .AN .AN .AN)) (.there (.there (.there .here)))).sub sbG
  refine AT (fun cc ρ h => ∃ (k : Nat) (mv sv : V) (xs : List MR), k ≤ n ∧ cc = n - k ∧ xs.map MR.val = (newF c k).1 ∧ Mem H h [.box b4 (stC c u mv .AN sv), .ro (pack (Bn xs)), .own 6 mrC mv xs, .own 3 BE sv (newF c k).2, .ro (pack (Bl u rvs c.rows)), .box b2 Au, .box b1 (BJ c rv)] ∧ ρ 1 = .ptr b1 0 ∧ ρ 2 = .ptr b2 0 ∧ ρ 4 = .ptr b4 0 ∧ ρ 17 = .int .i64 (n : Int) ∧ ρ 18 = .int .i64 (k : Int)) ⟨0, .AN, .AN, [], Nat.zero_le _, rfl, rfl, hM0, by have hn' : c.m = n := hn; simp [AD, AB, BT, *]⟩ ?_
  repeat clear hM
  clear hM0
  rintro _ ρ h ⟨k, mv, sv, xs, hk, rfl, hval, hM, g1, g2, g4, g17, g18⟩
  have t1 := (hM.sl (v := mv) (xs := xs) hsG).cells
  have t2 := (hM.sl (v := sv) (xs := (newF c k).2) hsG).cells
  have hxl : xs.length = k := by rw [← List.length_map (f := MR.val), hval]; exact (hnew k (by omega)).len
  have hsl := (hnew k (by omega)).stl
  refine goM ?_
  refine AE (fun hb => ?_) (fun hb => ?_)
  ·have hk' : k < n := by simpa using hb
   clear hb
   have hw := AG (n := k) (by omega)
   obtain ⟨_, H6, c1, a, b', rfl, m1⟩ := LO h c rv k (hr.mono hM.pre) hf
   have hfk : Bq c k = CQ c k := by unfold Bq; rw [if_pos (hlt k hk')]
   have hfs : strOf (HE c k) = BB (CQ c k) := by unfold HE; rw [if_pos (hlt k hk')]; rfl
   have hfe : HD c k = 0 := by unfold HD; rw [if_pos (hlt k hk')]
   rw [hfk] at m1
   rw [hfk, hfs, hfe] at c1
   have s3 := (m1.sl .here).cells
   have s4 := (m1.sl (.there .here)).cells
   have hsucc : newF c (k + 1) = ((newF c k).1 ++ [(CQ c (k : Int), (putS (newF c k).2 (BB (CQ c (k : Int)))).2.1)], (putS (newF c k).2 (BB (CQ c (k : Int)))).1) := rfl
   clear hfk hfs hfe
   generalize hK : CQ c (k : Int) = K at *
   refine goM ?_
   refine AA c1 ?_
   replace hM := hM.call2 m1
   clear c1 m1
   refine goM ?_
   refine Aj (cs := Dr) T84 rfl fun b6 H7 hM => ?_
   refine AM T84 fun H8 hM => ?_
   refine goM ?_
   obtain ⟨_, H9, c1, sv', rfl, m1⟩ := Uj H8 sv (newF c k).2 (BB K) (hM.sl (v := sv) (xs := (newF c k).2) hsG) (by omega)
   refine AA c1 ?_
   have s5 := (m1.sl .here).cells
   replace hM := hM.BH m1
   clear c1 m1
   generalize putS (newF c k).2 (BB K) = o at *
   obtain ⟨st', id', er'⟩ := o
   simp only at hsucc hM ⊢
   refine goM ?_
   refine AM T30 fun H10 hM => ?_
   refine goM ?_
   refine AM T3 fun H11 hM => ?_
   refine goM ?_
   refine Aa mrC [⟨a, b', K, id'⟩] (mC a b' K id') T28 rfl T84 rfl (Hm [⟨a, b', K, id'⟩]) (by decide) fun e1 H12 hM => ?_
   refine goM ?_
   refine Bg (hM.sl .here) (xs := xs) (hh := by (repeat (first | exact Has.here | apply Has.there))) (hb := by rw [hxl]; show (k + 1) * 80 ≤ _ ∧ k + 1 ≤ _; omega) fun mv' H13 hM => ?_
   have s6 := (hM.sl (v := mv') (xs := xs ++ [⟨a, b', K, id'⟩]) hsG).cells
   refine goM ?_
   refine AM T28 fun H14 hM => ?_
   refine goM ?_
   have h1 := ((hM.front (r := .ro (pack (Bn xs))) tkG).front (r := .own 1 AH b' K.vs) tkG).front (r := .own 1 AH a K.ws) tkG
   have h2 := Mem.JN (x := ⟨a, b', K, id'⟩) h1
   have h3 := (((h2.front (r := .own 3 BE sv' st') tkG).front (r := .own 6 mrC mv' (xs ++ [⟨a, b', K, id'⟩])) tkG).front (r := .ro (pack (Bn (xs ++ [⟨a, b', K, id'⟩])))) tkG).front (r := .box b4 (stC c u mv' .AN sv')) tkG
   refine ⟨n - (k + 1), by omega, k + 1, mv', sv', xs ++ [⟨a, b', K, id'⟩], hk', rfl, ?_, ?_, by simp [AD, AB, *]⟩
   ·rw [hsucc, List.map_append, hval]; rfl
   ·rw [hsucc]
    exact h3.sub sbG
  ·have hk' : k = n := by have : ¬ k < n := by simpa using hb
                          omega
   subst hk'
   clear hb
   refine goM ?_
   refine AM T32 fun H6 hM => ?_
   refine goM ?_
   refine An ⟨u, mv, sv, rvs, xs, rfl, hlk, hval, ?_⟩
   have h1 := ((hM.front (r := .own 3 BE sv (newF c k).2) tkG).nil 6 evC)
   exact (((h1.front (r := .own 6 mrC mv xs) tkG).front (r := .ro (pack (Bn xs))) tkG).front (r := .ro (pack (Bl u rvs c.rows))) tkG).sub (by unfold Cz; (repeat (first | exact List.Sublist.slnil | exact List.Sublist.refl _ | refine List.Sublist.cons_cons _ ?_ | refine List.Sublist.cons _ ?_)))
theorem Uv (H : Heap) (u v : V) (xs ys : List Ev) (hx : Sl 6 evC H u xs) (hy : Sl 6 evC H v ys) (lx : xs.length ≤ 2 ^ 47) : Call Tryz.prog 39 [u, v] H (.bool (decide (xs = ys))) H := by
 refine AJ fit mixed Tryz.func39 rfl rfl rfl (by kernel_rfl) rfl ?_
 have hlx := hx.len T29 rfl
 have hly := hy.len T29 rfl
 refine goW ?_
 refine AE (fun hb => ?_) (fun hb => ?_)
 ·refine goW ?_
  refine Ai ?_; simp [AD, AB, *]
  intro e
  subst e
  simp at hb
 ·have hl : xs.length = ys.length := by simp at hb; omega
  refine goW ?_
  refine AT (fun c ρ h => ∃ k, k ≤ xs.length ∧ c = xs.length - k ∧ h = H ∧ xs.take k = ys.take k ∧ ρ 0 = u ∧ ρ 1 = v ∧ ρ 5 = .int .i64 (k : Nat)) ⟨0, Nat.zero_le _, rfl, rfl, by simp, rfl, rfl, rfl⟩ ?_
  rintro _ ρ h ⟨k, hk, rfl, rfl, hsame, h0, h1, h5⟩
  refine goW ?_
  refine AE (fun hb => ?_) (fun hb => ?_)
  ·have hk' : k < xs.length := by simp at hb; omega
   obtain ⟨x, hxk⟩ : ∃ e, xs[k]? = some e := ⟨xs[k], by simp [hk']⟩
   obtain ⟨y, hyk⟩ : ∃ e, ys[k]? = some e := ⟨ys[k]'(by omega), by simp⟩
   obtain ⟨b, o, cs, hi, rfl, _, hlo, _⟩ := hx.get T29 rfl GY rfl hxk
   obtain ⟨b2, o2, cs, hi2, rfl, _, hlo2, _⟩ := hy.get T29 rfl GY rfl hyk
   have ho := AZ GY rfl hlo
   have ho2 := AZ GY rfl hlo2
   have hw := AG (n := k) (by omega)
   refine goW ?_
   refine AE (fun hc => ?_) (fun hc => ?_)
   all_goals rw [fW] at hc
   all_goals simp at hc
   ·refine goW ?_
    refine Ai ?_; simp [AD, AB, *]
    intro e
    subst e
    rw [hxk] at hyk
    exact hc (Option.some.inj hyk)
   ·refine goW ?_
    refine ⟨xs.length - (k + 1), by omega, k + 1, hk', rfl, rfl, Ri hsame hxk hyk hc, ?_⟩
    simp [AD, AB, *]
  ·have hk' : k = xs.length := by simp at hb; omega
   subst hk'
   refine goW ?_
   refine Ai ?_; simp [AD, AB, *]
   rw [List.take_of_length_le (Nat.le_refl _), List.take_of_length_le (by omega)] at hsame
   exact hsame
theorem Uw (H : Heap) (s : St) (rv mv ev sv rv' mv' ev' sv' : V) (xs ys : List MR) (ha : Da H rv mv ev sv xs s) (hb' : Da H rv' mv' ev' sv' ys s) (hf : s.Fit) :
  Call Tryz.prog 27 [.agg (stC s.c rv mv ev sv), .agg (stC s.c rv' mv' ev' sv')] H (.bool true) H := by
 have z1 : rv.cells = [rv] ∧ rv.isTup = false := by obtain ⟨_, h, _⟩ := ha.rows; exact h.cells
 have z2 := ha.ms.cells
 have z3 := ha.es.cells
 have z4 := ha.st.cells
 have y1 : rv'.cells = [rv'] ∧ rv'.isTup = false := by obtain ⟨_, h, _⟩ := hb'.rows; exact h.cells
 have y2 := hb'.ms.cells
 have y3 := hb'.es.cells
 have y4 := hb'.st.cells
 have l1 := hf.c.rows
 have l2 := hf.c.row
 have l4 := hf.es
 have l5 := hf.st
 obtain ⟨n, hn⟩ : ∃ n, xs.length = n := ⟨_, rfl⟩
 have hn2 : ys.length = n := by rw [hb'.len, ← ha.len, hn]
 have hlen := ha.ms.len T28 rfl
 rw [hn] at hlen
 have hlen2 := hb'.ms.len T28 rfl
 rw [hn2] at hlen2
 have hkx := hf.kx ha
 have hnb : n * 80 ≤ 140737488351232 := by have := hf.ms; rw [← hn, ha.len]; exact this
 refine AQ fit mixed Tryz.func27 rfl rfl rfl (by kernel_rfl) rfl fun hM => ?_
 refine AO (AK ?_)
 refine Ax T32 fun b2 H1 hM => ?_
 refine Ax T32 fun b3 H2 hM => ?_
 have hself : ((n : Int) != (n : Int)) = false := by simp
 refine goM ?_
 refine AT (fun cc ρ h => ∃ (k : Nat), k ≤ n ∧ cc = n - k ∧ Mem H h [.box b3 (stC s.c rv' mv' ev' sv'), .box b2 (stC s.c rv mv ev sv)] ∧ ρ 2 = .ptr b2 0 ∧ ρ 3 = .ptr b3 0 ∧ ρ 5 = .int .i64 (k : Int)) ⟨0, Nat.zero_le _, rfl, hM, by simp [AD, AB, BT, *]⟩ ?_
 repeat clear hM
 rintro _ ρ h ⟨k, hk, rfl, hM, g2, g3, g5⟩
 refine goM ?_
 refine AE (fun hb => ?_) (fun hb => ?_)
 ·have hk' : k < n := by simpa using hb
  clear hb
  obtain ⟨x, hx⟩ : ∃ x, xs[k]? = some x := ⟨xs[k]'(by omega), by simp⟩
  obtain ⟨y, hy⟩ : ∃ x, ys[k]? = some x := ⟨ys[k]'(by omega), by simp⟩
  have hxy : x.val = y.val := by
   have h1 : s.ms[k]? = some x.val := by rw [← ha.val, List.getElem?_map, hx]; rfl
   have h2 : s.ms[k]? = some y.val := by rw [← hb'.val, List.getElem?_map, hy]; rfl
   rw [h1] at h2
   exact Option.some.inj h2
  have hka := ha.ks x (List.mem_of_getElem? hx)
  have hkb := hb'.ks y (List.mem_of_getElem? hy)
  have hkf := hkx x (List.mem_of_getElem? hx)
  obtain ⟨bo, o, hi, _, loK, loH⟩ := EM (ha.ms.mono hM.pre) hx
  obtain ⟨bo2, o2, hi2, _, loK2, loH2⟩ := EM (hb'.ms.mono hM.pre) hy
  obtain ⟨xw, xv, xk, xh⟩ := x
  obtain ⟨yw, yv, yk, yh⟩ := y
  unfold MR.val at hxy
  simp only [Prod.mk.injEq] at hxy
  obtain ⟨rfl, rfl⟩ := hxy
  simp only at hka hkb hkf loK loH loK2 loH2
  have hw := AG (n := k) (by omega)
  have c1 := Zf h xw xv yw yv xk xk (hka.mono hM.pre) (hkb.mono hM.pre) hkf
  rw [Sg] at c1
  clear hx hy
  refine goM ?_
  refine AI c1 ?_
  refine goM ?_
  exact ⟨n - (k + 1), by omega, k + 1, hk', rfl, hM, by simp [AD, AB, *]⟩
 ·have hk' : k = n := by have : ¬ k < n := by simpa using hb
                         omega
  subst hk'
  clear hb
  have c1 := TV h s.c rv rv' (ha.rows.mono hM.pre) (hb'.rows.mono hM.pre) (by omega) (fun r hr => by have := l2 r hr; omega)
  have c2 := Uv h ev ev' s.es s.es (ha.es.mono hM.pre) (hb'.es.mono hM.pre) (by omega)
  have c3 := Xf h sv sv' s.st s.st (ha.st.mono hM.pre) (hb'.st.mono hM.pre) (by omega)
  rw [decide_eq_true rfl] at c2
  rw [Mm] at c3
  refine goM ?_
  refine AA c1 ?_
  refine goM ?_
  refine AA c2 ?_
  refine goM ?_
  refine AA c3 ?_
  refine goM ?_
  exact AY ⟨rfl, hM.pre⟩
def Xu (W : List Res) (v : V) (xs : List Int) : Prop := (v = .AN ∧ xs = []) ∨ Res.own 1 AH v xs ∈ W
theorem Xu.more {W : List Res} {v : V} {xs : List Int} (h : Xu W v xs) (N : List Res) : Xu (N ++ W) v xs := h.imp id fun h => List.mem_append_right _ h
theorem Xu.sl {W : List Res} {v : V} {xs : List Int} (h : Xu W v xs) {H : Heap} (hW : (pack W).p H) : Sl 1 AH H v xs := by
 rcases h with ⟨rfl, rfl⟩ | h
 ·exact .inl ⟨rfl, rfl⟩
 ·have hm := IE hW
  have h2 : Mem [] H [.own 1 AH v xs] := hm.sub (List.singleton_sublist.2 h)
  exact h2.sl .here
abbrev evV (e : Ev) : List V := [.int .i64 e.kind, .int .i64 e.member, .int .i64 e.BV, .int .i64 e.at_, .int .i64 e.rate, .int .i64 e.mom]
structure fK where
 w : V
 v : V
 k : Chk
def ckC (cs : List V) (x : fK) : Prop := cs = kC x.w x.v x.k
structure fL where
 v : V
 r : List fK
def eB (x : fL) : Res := .own 5 ckC x.v x.r
def hrs (rw : List fL) : List Res := rw.map eB
end Go.Proofs.YtncjbjlmgnjhiaaGreat.VM
