/- Joined texts: MembD, MembE, TrainH, EvP, CtlP, RowD, FoldP, TrainP, FoldQ, FoldS, FoldT, EvA. -/
import Derived.Test.YtengdmagaeckoaaGreatJL8
/- Layer 20: the program's Score. -/
namespace Go.Proofs.YtengdmagaeckoaaGreat.VM
open Go
set_option linter.unusedVariables false
set_option linter.unusedSimpArgs false
attribute [local irreducible] wq wqL wqD wqE wqO Th Bk EndR
set_option maxHeartbeats 8000000

theorem memFitsM_ (H : Heap) (cb kb : Nat) (c : Cfg) (rv w v : V) (ws vs : List Int) (r m t h : Int) (hc : H[cb]? = some (.row (cfgC c rv) true)) (hk : H[kb]? = some (.row (memC w v r m t h) true)) (hw : Sl 1 intC H w ws) (hv : Sl 1 intC H v vs) (lw : ws.length ≤ 2 ^ 47) (lv : vs.length ≤ 2 ^ 47) :
    Call Tryz.prog 67 [.ptr cb 0, .ptr kb 0] H (.bool (memFits c.i c.h ws vs r m t)) H := by
  refine call_plain fit mixed Tryz.func67 rfl rfl rfl (by kernel_rfl) rfl ?_
  have l0 : loadV T 34 H kb 0 = some (.agg (chkC w v r m t)) := by
    refine loadV_agg T34 rfl ?_
    unfold Heap.loadN
    rw [hk]; rfl
  have l1 : loadV T 23 H cb 1 = some (.agg [.int .i64 c.i, .int .i64 c.h]) := by
    refine loadV_agg T23 rfl ?_
    unfold Heap.loadN
    rw [hc]; rfl
  have l2 := ld_cell (q := 0) T30 rfl hk rfl
  have c1 := chkMay_ H w v ws vs r m t hw hv lw lv
  have c2 := shapeFits_ H c.i c.h w ws hw lw
  unfold memFits
  obtain ⟨r1, e1⟩ : ∃ q, chkMay ws vs r m t = q := ⟨_, rfl⟩
  rw [e1] at c1 ⊢
  clear e1 hw hv lw lv hc hk
  cases r1
  · refine goW ?_
    refine d_call0G c1 ?_
    refine goW ?_
    refine end_finG ?_; simp [put_app, put_none, *]
  · refine goW ?_
    refine d_call0G c1 ?_
    refine goW ?_
    refine d_call0G c2 ?_
    refine goW ?_
    refine end_finG ?_; simp [put_app, put_none, *]

theorem memberScore_ (H : Heap) (c : Cfg) (rv w v : V) (ws vs : List Int) (r m t h : Int) (hr : Rows H rv c.rows) (hw : Sl 1 intC H w ws) (hv : Sl 1 intC H v vs) (hc : cfgMay c = true) (hf : memFits c.i c.h ws vs r m t = true) :
    Call Tryz.prog 104 [.agg (cfgC c rv), .agg (memC w v r m t h)] H (.tup [.int .i64 (lossN c.i.toNat c.h.toNat ws c.rows), .int .i64 0]) H := by
  obtain ⟨hm2, hloss, hseed, _⟩ := cfgMay_split hc
  obtain ⟨hs, hr1, hr8, hrok⟩ := lossMay_split hloss
  obtain ⟨a, b, ha, hb, ha1, ha3, hb1, hb3⟩ := shape_ab hs
  have hf' := hf
  simp only [memFits, Bool.and_eq_true] at hf'
  obtain ⟨hchk, hfi⟩ := hf'
  obtain ⟨hvw, _, hlv, _⟩ := chkMay_split hchk
  have hlw := vecMay_len hvw
  have lrow : ∀ r ∈ c.rows, r.1.length ≤ 2 ^ 47 := fun rr hrr => by
    have := hrok rr hrr
    simp only [rowOk, Bool.and_eq_true] at this
    have := vecMay_len (feeds_split this.1).2
    omega
  have hsz : ws.length = netSize a b := by
    rw [ha, hb] at hfi
    simp only [fits, Bool.and_eq_true, beq_iff_eq, decide_eq_true_eq] at hfi
    have hcast := size_cast a b
    omega
  have hfi2 : fits (a : Int) (b : Int) ws = true := by rw [← ha, ← hb]; exact hfi
  have hlo2 : lossMay (a : Int) (b : Int) c.rows = true := by rw [← ha, ← hb]; exact hloss
  refine call_pure fit mixed Tryz.func104 rfl rfl rfl (by kernel_rfl) rfl fun hM => ?_
  refine wq_seq (wq_line ?_)
  refine l_boxM T26 fun b1 H1 hM => ?_
  refine l_boxM T48 fun b2 H2 hM => ?_
  have c1 := confMay_ H2 c rv (hr.mono hM.pre) (by omega) lrow
  rw [hc] at c1
  have c2 := memFitsM_ H2 b1 b2 c rv w v ws vs r m t h (hM.row (.there .here)) (hM.row .here) (hw.mono hM.pre) (hv.mono hM.pre) (by omega) (by omega)
  rw [hf] at c2
  have c3 := lossOf_ H2 a b w rv ws c.rows (hw.mono hM.pre) (hr.mono hM.pre) hfi2 hlo2 hsz ha3 hb3
  rw [← ha, ← hb] at c3
  have e1 : c.i.toNat = a := by omega
  have e2 : c.h.toNat = b := by omega
  rw [e1, e2]
  clear hm2 hloss hseed hs hr1 hr8 hrok ha hb ha1 ha3 hb1 hb3 hchk hfi hvw hlv hlw lrow hsz hfi2 hlo2 e1 e2 hc hf
  refine goM ?_
  refine l_callG c1 ?_
  refine goM ?_
  refine l_callG c2 ?_
  refine goM ?_
  refine l_callG c3 ?_
  refine goM ?_
  exact end_2 (by first | exact .inl rfl | exact .inr rfl) ⟨rfl, hM.pre⟩

theorem memberScore_bad (H : Heap) (c : Cfg) (rv w v : V) (ws vs : List Int) (r m t h : Int) (hr : Rows H rv c.rows) (hl : c.rows.length ≤ 2 ^ 47) (hxl : ∀ r ∈ c.rows, r.1.length ≤ 2 ^ 47) (hw : Sl 1 intC H w ws) (hv : Sl 1 intC H v vs) (lw : ws.length ≤ 2 ^ 47) (lv : vs.length ≤ 2 ^ 47) (hb : (cfgMay c && memFits c.i c.h ws vs r m t) = false) :
    Call Tryz.prog 104 [.agg (cfgC c rv), .agg (memC w v r m t h)] H (.tup [.int .i64 0, .int .i64 2000]) H := by
  refine call_pure fit mixed Tryz.func104 rfl rfl rfl (by kernel_rfl) rfl fun hM => ?_
  refine wq_seq (wq_line ?_)
  refine l_boxM T26 fun b1 H1 hM => ?_
  refine l_boxM T48 fun b2 H2 hM => ?_
  have c1 := confMay_ H2 c rv (hr.mono hM.pre) hl hxl
  have c2 := memFitsM_ H2 b1 b2 c rv w v ws vs r m t h (hM.row (.there .here)) (hM.row .here) (hw.mono hM.pre) (hv.mono hM.pre) lw lv
  obtain ⟨q, hq⟩ : ∃ q, cfgMay c = q := ⟨_, rfl⟩
  rw [hq] at c1 hb
  cases q with
  | false =>
    clear hb hq c2
    refine goM ?_
    refine l_callG c1 ?_
    refine goM ?_
    exact end_2 (by first | exact .inl rfl | exact .inr rfl) ⟨rfl, hM.pre⟩
  | true =>
    rw [Bool.true_and] at hb
    rw [hb] at c2
    clear hb hq
    refine goM ?_
    refine l_callG c1 ?_
    refine goM ?_
    refine l_callG c2 ?_
    refine goM ?_
    exact end_2 (by first | exact .inl rfl | exact .inr rfl) ⟨rfl, hM.pre⟩
end Go.Proofs.YtengdmagaeckoaaGreat.VM

/- Layers 10, 20: the document's Loss, ScoreOf, FirstMember that is refused; both sides' contracts for every input. -/
namespace Go.Proofs.YtengdmagaeckoaaGreat.VM
open Go
set_option linter.unusedVariables false
set_option linter.unusedSimpArgs false
attribute [local irreducible] wq wqL wqD wqE wqO Th Bk EndR
set_option maxHeartbeats 8000000

theorem refLoss_ (H : Heap) (i h : Nat) (w rv : V) (ws : List Int) (rs : List (List Int × Int)) (hw : Sl 1 intC H w ws) (hr : Rows H rv rs) (hf : fits i h ws = true) (hl : lossMay i h rs = true) :
    Call Tryz.prog 113 [.agg [.int .i64 i, .int .i64 h], w, rv] H (.tup [.int .i64 (lossN i h ws rs), .int .i64 0]) H := by
  obtain ⟨hs, hr1, hr8, hrok⟩ := lossMay_split hl
  have hlw : ws.length ≤ 2 ^ 47 := by
    have := hf
    simp only [fits, Bool.and_eq_true] at this
    have := vecMay_len this.1.2
    omega
  have lrow : ∀ r ∈ rs, r.1.length ≤ 2 ^ 47 := fun rr hrr => by
    have := hrok rr hrr
    simp only [rowOk, Bool.and_eq_true] at this
    have := vecMay_len (feeds_split this.1).2
    omega
  obtain ⟨n, hn⟩ : ∃ n, rs.length = n := ⟨_, rfl⟩
  refine call_pure fit mixed Tryz.func113 rfl rfl rfl (by kernel_rfl) rfl fun hM => ?_
  refine wq_seq (wq_line ?_)
  refine l_boxM T23 fun b1 H1 hM => ?_
  have c1 := refFits_ H1 i h w ws (hw.mono hM.pre) hlw
  rw [hf] at c1
  have c2 := refRowsMay_ H1 i h rv rs (hr.mono hM.pre) (by omega) lrow
  rw [hl] at c2
  have hlen : builtinP T .len [24] [rv] = some (.int .i64 (n : Int)) := by
    obtain ⟨qv, hqv, hql, _⟩ := hr
    have := hqv.len T24 rfl
    rw [hql, hn] at this
    exact this
  clear hl hs lrow
  refine goM ?_
  refine l_callG c1 ?_
  refine goM ?_
  refine l_callG c2 ?_
  refine goM ?_
  refine wq_loop (fun c ρ hp => ∃ (k : Nat) (e o : V), k ≤ n ∧ c = n - k ∧ Mem H hp [.box b1 [.int .i64 i, .int .i64 h]] ∧ ρ 1 = w ∧ ρ 2 = rv ∧ ρ 3 = .ptr b1 0 ∧ ρ 8 = .int .i64 (lossN i h ws (rs.take k)) ∧ ρ 9 = .int .i64 (k : Int)) ⟨0, .nilp, .nilp, Nat.zero_le _, rfl, hM, rfl, rfl, rfl, rfl, rfl⟩ ?_
  clear hM c1 c2
  rintro _ ρ hp ⟨k, _, _, hk, rfl, hM, g1, g2, g3, g8, g9⟩
  refine goM ?_
  refine cond_go (fun hb => ?_) (fun hb => ?_)
  · have hk' : k < n := by simpa using hb
    clear hb
    obtain ⟨⟨xs, y⟩, hx⟩ : ∃ x, rs[k]? = some x := ⟨rs[k]'(by omega), by simp⟩
    have hok := hrok _ (List.mem_of_getElem? hx)
    simp only [rowOk, Bool.and_eq_true] at hok
    have hsn := lossN_snoc (i := i) (h := h) (ws := ws) hx
    obtain ⟨b3, o3, x, hi3, _, hlo3, hlo4, hxs⟩ := hr.at hx
    replace hlo3 := loadV_pre hM.pre hlo3
    replace hlo4 := loadV_pre hM.pre hlo4
    have hw1 := wrap_succ (n := k) (by omega)
    have c3 := refOut_ hp i h w x ws xs (hw.mono hM.pre) (hxs.mono hM.pre) hf hok.1
    clear hx hok
    refine goM ?_
    refine d_call0G c3 ?_
    have c5 := refPlus_ hp (outOf i h ws xs) (IntKind.i64.wrap (0 - y))
    have he : plus (outOf i h ws xs) (IntKind.i64.wrap (0 - y)) = errN i h ws (xs, y) := rfl
    rw [he] at c5
    have c6 := refTimes_ hp (errN i h ws (xs, y)) (errN i h ws (xs, y))
    have c7 := refPlus_ hp (lossN i h ws (rs.take k)) (times (errN i h ws (xs, y)) (errN i h ws (xs, y)))
    rw [← hsn] at c7
    clear he hsn c3
    refine goM ?_
    refine l_callG c5 ?_
    refine goM ?_
    refine l_callG c6 ?_
    refine goM ?_
    refine l_callG c7 ?_
    refine goM ?_
    exact ⟨n - (k + 1), by omega, k + 1, .nilp, .nilp, hk', rfl, hM, by simp [put_app, put_none, *]⟩
  · have hk' : k = n := by have : ¬ k < n := by simpa using hb
                           omega
    subst hk'
    clear hb
    rw [List.take_of_length_le (by omega)] at g8
    refine goM ?_
    exact end_2 (by first | exact .inl rfl | exact .inr rfl) ⟨rfl, hM.pre⟩

/-- a member's score, whatever it is -/
def scoreR (c : Cfg) (k : Chk) : Int × Int := if (cfgMay c && kFits c k) = true then (lossN c.i.toNat c.h.toNat k.ws c.rows, 0) else (0, 2000)
/-- a first member, whatever its number is -/
def firstOk (c : Cfg) (id : Int) : Bool := cfgMay c && within id 0 (IntKind.i64.wrap (c.m - 1))
def firstKR (c : Cfg) (id : Int) : Chk := if firstOk c id = true then firstK c id else noChk
def firstSR (c : Cfg) (id : Int) : List Int := if firstOk c id = true then firstS c id else []
def firstER (c : Cfg) (id : Int) : Int := if firstOk c id = true then 0 else 2000
theorem firstOk_split {c : Cfg} {id : Int} (h : firstOk c id = true) : cfgMay c = true ∧ (0 ≤ id ∧ id < c.m) := by
  unfold firstOk at h
  rw [Bool.and_eq_true] at h
  obtain ⟨hm, _⟩ := cfgMay_split h.1
  rw [wrap_m hm, within_iff] at h
  exact ⟨h.1, by omega⟩
theorem member_First (H : Heap) (c : Cfg) (rv : V) (id : Int) (hr : Rows H rv c.rows) (hc : c.Fit) :
    ∃ w H', Call Tryz.prog 44 [.agg (cfgC c rv), .int .i64 id] H w H' ∧ ∃ a b, w = .tup [.agg (mC a b (firstKR c id) 0), .str (strOf (firstSR c id)), .int .i64 (firstER c id)] ∧ Mem H H' [.own 1 intC b (firstKR c id).vs, .own 1 intC a (firstKR c id).ws] := by
  have l1 := hc.rows
  have l2 := hc.row
  unfold firstKR firstSR firstER
  cases hok : firstOk c id with
  | false => exact ⟨_, H, memberFirst_bad H c rv id hr (by omega) (fun r h => by have := l2 r h; omega) hok, .nils, .nils, rfl, ((Mem.start H).nil 1 intC).nil 1 intC⟩
  | true =>
    obtain ⟨h1, h2⟩ := firstOk_split hok
    exact memberFirst_ H c rv id hr h1 h2

theorem member_Score (H : Heap) (c : Cfg) (rv w v : V) (k : Chk) (h : Int) (hr : Rows H rv c.rows) (hk : KAt H w v k) (hc : c.Fit) (hf : k.Fit) :
    Call Tryz.prog 104 [.agg (cfgC c rv), .agg (mC w v k h)] H (.tup [.int .i64 (scoreR c k).1, .int .i64 (scoreR c k).2]) H := by
  have l1 := hc.rows
  have l2 := hc.row
  have l3 := hf.ws
  have l4 := hf.vs
  unfold scoreR
  cases hok : (cfgMay c && kFits c k) with
  | false => exact memberScore_bad H c rv w v k.ws k.vs k.r k.m k.t h hr (by omega) (fun r h => by have := l2 r h; omega) hk.ws hk.vs (by omega) (by omega) hok
  | true =>
    rw [Bool.and_eq_true] at hok
    exact memberScore_ H c rv w v k.ws k.vs k.r k.m k.t h hr hk.ws hk.vs hok.1 hok.2

theorem refScoreOf_ (H : Heap) (c : Cfg) (rv w v : V) (k : Chk) (h : Int) (hr : Rows H rv c.rows) (hk : KAt H w v k) (hc : c.Fit) (hf : k.Fit) :
    Call Tryz.prog 76 [.agg (cfgC c rv), .agg (mC w v k h)] H (.tup [.int .i64 (scoreR c k).1, .int .i64 (scoreR c k).2]) H := by
  have l1 := hc.rows
  have l2 := hc.row
  have l3 := hf.ws
  have l4 := hf.vs
  refine call_pure fit mixed Tryz.func76 rfl rfl rfl (by kernel_rfl) rfl fun hM => ?_
  refine wq_seq (wq_line ?_)
  refine l_boxM T26 fun b1 H1 hM => ?_
  refine l_boxM T48 fun b2 H2 hM => ?_
  have hr2 := hr.mono hM.pre
  have hk2 := hk.mono hM.pre
  have c1 := refConfMay_ H2 c rv hr2 (by omega) (fun r h => by have := l2 r h; omega)
  have c2 := refChkMay_ H2 w v k.ws k.vs k.r k.m k.t hk2.ws hk2.vs (by omega) (by omega)
  have c3 := refFits_ H2 c.i c.h w k.ws hk2.ws (by omega)
  have s1 := hk.ws.cells
  have s2 := hk.vs.cells
  unfold scoreR kFits memFits
  obtain ⟨q1, e1⟩ : ∃ q, cfgMay c = q := ⟨_, rfl⟩
  obtain ⟨q2, e2⟩ : ∃ q, chkMay k.ws k.vs k.r k.m k.t = q := ⟨_, rfl⟩
  obtain ⟨q3, e3⟩ : ∃ q, fits c.i c.h k.ws = q := ⟨_, rfl⟩
  rw [e1] at c1 ⊢
  rw [e2] at c2 ⊢
  rw [e3] at c3 ⊢
  cases q1 with
  | false =>
    clear e1 e2 e3 c2 c3
    refine goM ?_
    refine l_callG c1 ?_
    refine goM ?_
    exact end_2 (by first | exact .inl rfl | exact .inr rfl) ⟨rfl, hM.pre⟩
  | true =>
    cases q2 with
    | false =>
      clear e1 e2 e3 c3
      refine goM ?_
      refine l_callG c1 ?_
      refine goM ?_
      refine l_callG c2 ?_
      refine goM ?_
      exact end_2 (by first | exact .inl rfl | exact .inr rfl) ⟨rfl, hM.pre⟩
    | true =>
      cases q3 with
      | false =>
        clear e1 e2 e3
        refine goM ?_
        refine l_callG c1 ?_
        refine goM ?_
        refine l_callG c2 ?_
        refine goM ?_
        refine l_callG c3 ?_
        refine goM ?_
        exact end_2 (by first | exact .inl rfl | exact .inr rfl) ⟨rfl, hM.pre⟩
      | true =>
        obtain ⟨hm2, hloss, _⟩ := cfgMay_split e1
        obtain ⟨hs, _⟩ := lossMay_split hloss
        obtain ⟨a, b, ha, hb, ha1, ha3, hb1, hb3⟩ := shape_ab hs
        have c4 := refLoss_ H2 a b w rv k.ws c.rows hk2.ws hr2 (by rw [← ha, ← hb]; exact e3) (by rw [← ha, ← hb]; exact hloss)
        rw [← ha, ← hb] at c4
        have t1 : c.i.toNat = a := by omega
        have t2 : c.h.toNat = b := by omega
        rw [t1, t2]
        clear e1 e2 e3 hm2 hloss hs ha hb t1 t2
        refine goM ?_
        refine l_callG c1 ?_
        refine goM ?_
        refine l_callG c2 ?_
        refine goM ?_
        refine l_callG c3 ?_
        refine goM ?_
        refine l_callG c4 ?_
        refine goM ?_
        exact end_2 (by first | exact .inl rfl | exact .inr rfl) ⟨rfl, hM.pre⟩

theorem refFirst_bad (H : Heap) (c : Cfg) (rv : V) (id : Int) (hr : Rows H rv c.rows) (hc : c.Fit) (hb : firstOk c id = false) :
    Call Tryz.prog 20 [.agg (cfgC c rv), .int .i64 id] H (.tup [.agg zeroMem, .str (strOf []), .int .i64 2000]) H := by
  have l1 := hc.rows
  have l2 := hc.row
  refine call_pure fit mixed Tryz.func20 rfl rfl rfl (by kernel_rfl) rfl fun hM => ?_
  refine wq_seq (wq_line ?_)
  refine l_boxM T26 fun b1 H1 hM => ?_
  refine l_newM (cs := zeroMem) T48 rfl fun b2 H2 hM => ?_
  have c1 := refConfMay_ H2 c rv (hr.mono hM.pre) (by omega) (fun r h => by have := l2 r h; omega)
  have c2 := upTo12_ H2 id 0 (IntKind.i64.wrap (c.m - 1))
  unfold firstOk at hb
  obtain ⟨q, hq⟩ : ∃ q, cfgMay c = q := ⟨_, rfl⟩
  rw [hq] at c1 hb
  cases q with
  | false =>
    clear hb hq c2
    refine goM ?_
    refine l_callG c1 ?_
    refine goM ?_
    refine l_putM T48 fun H3 hM => ?_
    refine goM ?_
    exact end_3 (by first | exact .inl rfl | exact .inr rfl) ⟨rfl, hM.pre⟩
  | true =>
    rw [Bool.true_and] at hb
    rw [hb] at c2
    clear hb hq
    refine goM ?_
    refine l_callG c1 ?_
    refine goM ?_
    refine l_callG c2 ?_
    refine goM ?_
    refine l_putM T48 fun H3 hM => ?_
    refine goM ?_
    exact end_3 (by first | exact .inl rfl | exact .inr rfl) ⟨rfl, hM.pre⟩

theorem ref_First (H : Heap) (c : Cfg) (rv : V) (id : Int) (hr : Rows H rv c.rows) (hc : c.Fit) :
    ∃ w H', Call Tryz.prog 20 [.agg (cfgC c rv), .int .i64 id] H w H' ∧ ∃ a b, w = .tup [.agg (mC a b (firstKR c id) 0), .str (strOf (firstSR c id)), .int .i64 (firstER c id)] ∧ Mem H H' [.own 1 intC b (firstKR c id).vs, .own 1 intC a (firstKR c id).ws] := by
  unfold firstKR firstSR firstER
  cases hok : firstOk c id with
  | false => exact ⟨_, H, refFirst_bad H c rv id hr hc hok, .nils, .nils, rfl, ((Mem.start H).nil 1 intC).nil 1 intC⟩
  | true =>
    obtain ⟨h1, h2⟩ := firstOk_split hok
    exact refFirst_good H c rv id hr h1 h2
end Go.Proofs.YtengdmagaeckoaaGreat.VM

/- Chapter 21: the statement TrainForms. -/
namespace Go.Proofs.YtengdmagaeckoaaGreat.VM
open Go
set_option linter.unusedVariables false
set_option linter.unusedSimpArgs false
attribute [local irreducible] wq wqL wqD wqE wqO Th Bk EndR
set_option maxHeartbeats 8000000

def Chk.more (k : Chk) : Chk := { k with ws := k.ws ++ [1], vs := k.vs ++ [1] }
theorem kFits_len {c : Cfg} {k : Chk} (h : kFits c k = true) : k.vs.length = k.ws.length ∧ 1 ≤ k.ws.length ∧ (k.ws.length : Int) = c.h * (c.i + 1) + c.h + 1 := by
  unfold kFits memFits at h
  rw [Bool.and_eq_true] at h
  obtain ⟨_, _, l, l1, _⟩ := chkMay_split h.1
  obtain ⟨_, _, i', h', hi', hh', _, _, _, _, hsz⟩ := fits_split h.2
  refine ⟨l, l1, ?_⟩
  rw [hsz, hi', hh', ← size_cast]
theorem more_fit {c : Cfg} {k : Chk} (h : kFits c k = true) : k.more.Fit ∧ k.ws.length ≤ 16 ∧ k.vs.length ≤ 16 := by
  unfold kFits memFits at h
  rw [Bool.and_eq_true] at h
  obtain ⟨a, b, l, _⟩ := chkMay_split h.1
  have := vecMay_len a
  have := vecMay_len b
  exact ⟨⟨by simp only [Chk.more, List.length_append, List.length_cons, List.length_nil]; omega, by simp only [Chk.more, List.length_append, List.length_cons, List.length_nil]; omega⟩, by omega, by omega⟩

end Go.Proofs.YtengdmagaeckoaaGreat.VM

/- Layer 18, the plain law: events, how many are a member's, which may be (split out of LinA, LinB, LinD; for seats that also have configs). -/
namespace Go.Proofs.YtengdmagaeckoaaGreat.VM
open Go
set_option linter.unusedVariables false
set_option linter.unusedSimpArgs false
attribute [local irreducible] wq wqL wqD wqE wqO Th Bk EndR
set_option maxHeartbeats 8000000

structure Ev where
  kind : Int
  member : Int
  donor : Int
  at_ : Int
  rate : Int
  mom : Int
  deriving DecidableEq, Inhabited
def Ev.cells (e : Ev) : List V := [.int .i64 e.kind, .int .i64 e.member, .int .i64 e.donor, .int .i64 e.at_, .int .i64 e.rate, .int .i64 e.mom]
def evC (cs : List V) (e : Ev) : Prop := cs = [.int .i64 e.kind, .int .i64 e.member, .int .i64 e.donor, .int .i64 e.at_, .int .i64 e.rate, .int .i64 e.mom]
def manyOf (es : List Ev) (m : Int) : Nat := (es.filter fun e => e.member == m).length
theorem manyOf_succ {es : List Ev} {m : Int} {k : Nat} {e : Ev} (he : es[k]? = some e) : manyOf (es.take (k + 1)) m = manyOf (es.take k) m + if e.member = m then 1 else 0 := by
  unfold manyOf
  rw [List.take_add_one, he, List.filter_append, List.length_append]
  simp only [Option.toList_some, List.filter_cons, List.filter_nil]
  by_cases h : e.member = m <;> simp [h]
theorem manyOf_le (es : List Ev) (m : Int) : manyOf es m ≤ es.length := List.length_filter_le ..
def explored (es : List Ev) (m : Int) : Bool :=
  match es.reverse.find? fun e => e.member == m with
  | some e => e.kind == 1
  | none => false
theorem explored_succ {es : List Ev} {m : Int} {k : Nat} {e : Ev} (he : es[k]? = some e) : explored (es.take (k + 1)) m = if e.member = m then e.kind == 1 else explored (es.take k) m := by
  unfold explored
  rw [List.take_add_one, he]
  simp only [Option.toList_some, List.reverse_append, List.reverse_cons, List.reverse_nil, List.nil_append, List.cons_append, List.find?_cons]
  by_cases h : e.member = m
  · simp [h]
  · rw [if_neg h]
    have : (e.member == m) = false := by simpa using h
    rw [this]
def evMay (es : List Ev) (n : Int) (e : Ev) : Bool :=
  within e.member 0 (n - 1) &&
  (if e.kind = 0 then e.donor == 0 && e.at_ == 0 && (e.rate == 0 && e.mom == 0)
   else if e.kind = 1 then within e.donor 0 (n - 1) && e.donor != e.member && e.at_ == (manyOf es e.donor : Int) && (e.rate == 0 && e.mom == 0)
   else if e.kind = 2 then e.donor == 0 && e.at_ == 0 && hyperMay e.rate e.mom && explored es e.member
   else false)
def eventsMay (es : List Ev) (n : Int) : Bool :=
  within n 1 8 && decide (es.length ≤ 1024) && (List.range es.length).all fun k => match es[k]? with | some e => evMay (es.take k) n e | none => true
theorem eventsMay_no {es : List Ev} {n : Int} {k : Nat} {e : Ev} (he : es[k]? = some e) (h : evMay (es.take k) n e = false) : eventsMay es n = false := by
  have hk : k < es.length := (List.getElem?_eq_some_iff.1 he).1
  unfold eventsMay
  rw [Bool.and_eq_false_iff]
  right
  rw [List.all_eq_false]
  exact ⟨k, by simp [hk], by simp [he, h]⟩
theorem eventsMay_yes {es : List Ev} {n : Int} (hn : within n 1 8 = true) (hl : es.length ≤ 1024) (h : ∀ (k : Nat) e, es[k]? = some e → evMay (es.take k) n e = true) : eventsMay es n = true := by
  unfold eventsMay
  simp only [hn, hl, decide_true, Bool.true_and, List.all_eq_true, List.mem_range]
  intro k hk
  have : es[k]? = some es[k] := by simp [hk]
  rw [this]
  exact h k _ this
theorem all_succ {es : List Ev} {p : Nat → Ev → Prop} {k : Nat} {e0 : Ev} (hall : ∀ (j : Nat) e, j < k → es[j]? = some e → p j e) (he : es[k]? = some e0) (h : p k e0) : ∀ (j : Nat) e, j < k + 1 → es[j]? = some e → p j e := fun j e hj hje => by
  by_cases hjk : j = k
  · subst hjk; rw [he] at hje; cases hje; exact h
  · exact hall j e (by omega) hje
theorem no_more {es : List Ev} {n : Int} {k : Nat} {e : Ev} {H h' : Heap} {v' : V} (he : es[k]? = some e) (e1 : v' = .bool false) (e2 : evMay (es.take k) n e = false) (e3 : H <+: h') : v' = .bool (eventsMay es n) ∧ H <+: h' := ⟨by rw [e1, eventsMay_no he e2], e3⟩
theorem evMay_0 {es : List Ev} {n : Int} {e : Ev} (h : e.kind = 0) : evMay es n e = (within e.member 0 (n - 1) && (e.donor == 0 && e.at_ == 0 && (e.rate == 0 && e.mom == 0))) := by simp [evMay, h]
theorem evMay_1 {es : List Ev} {n : Int} {e : Ev} (h : e.kind = 1) : evMay es n e = (within e.member 0 (n - 1) && (within e.donor 0 (n - 1) && e.donor != e.member && e.at_ == (manyOf es e.donor : Int) && (e.rate == 0 && e.mom == 0))) := by simp [evMay, h]
theorem evMay_2 {es : List Ev} {n : Int} {e : Ev} (h : e.kind = 2) : evMay es n e = (within e.member 0 (n - 1) && (e.donor == 0 && e.at_ == 0 && hyperMay e.rate e.mom && explored es e.member)) := by simp [evMay, h]
theorem evMay_3 {es : List Ev} {n : Int} {e : Ev} (h0 : e.kind ≠ 0) (h1 : e.kind ≠ 1) (h2 : e.kind ≠ 2) : evMay es n e = false := by simp [evMay, h0, h1, h2]
def lastKind (es : List Ev) (m : Int) : Int :=
  match es.reverse.find? fun e => e.member == m with
  | some e => e.kind
  | none => 0
theorem lastKind_snoc (es : List Ev) (e : Ev) (m : Int) : lastKind (es ++ [e]) m = if e.member = m then e.kind else lastKind es m := by
  unfold lastKind
  simp only [List.reverse_append, List.reverse_cons, List.reverse_nil, List.nil_append, List.cons_append, List.find?_cons]
  by_cases h : e.member = m
  · simp [h]
  · rw [if_neg h]
    have : (e.member == m) = false := by simpa using h
    rw [this]
theorem manyOf_snoc (es : List Ev) (e : Ev) (m : Int) : manyOf (es ++ [e]) m = manyOf es m + if e.member = m then 1 else 0 := by
  unfold manyOf
  rw [List.filter_append, List.length_append]
  by_cases h : e.member = m <;> simp [h]
theorem explored_last (es : List Ev) (m : Int) : explored es m = (decide ((manyOf es m : Int) > 0) && lastKind es m == 1) := by
  unfold explored lastKind manyOf
  cases h : es.reverse.find? fun e => e.member == m with
  | none => simp
  | some e =>
    have h1 := List.find?_some h
    have h2 := List.mem_of_find?_eq_some h
    have : 0 < (es.filter fun e => e.member == m).length := by
      apply List.length_pos_iff_exists_mem.2
      exact ⟨e, by simp [List.mem_filter]; exact ⟨by simpa using h2, by simpa using h1⟩⟩
    simp only [this, decide_true, Bool.true_and, Int.natCast_pos, gt_iff_lt]
end Go.Proofs.YtengdmagaeckoaaGreat.VM

/- Layer 22, the plain law: states; what may be, what is new, what is scored. -/
namespace Go.Proofs.YtengdmagaeckoaaGreat.VM
open Go
set_option linter.unusedVariables false
set_option linter.unusedSimpArgs false
attribute [local irreducible] wq wqL wqD wqE wqO Th Bk EndR
set_option maxHeartbeats 8000000

structure St where
  c : Cfg
  ms : List (Chk × Int)
  es : List Ev
  st : List Ent
def noCfg : Cfg := ⟨0, 0, 0, [], 0, 0, 0, 0, false⟩
def noSt : St := ⟨noCfg, [], [], []⟩
def textK (k : Chk) : ByteArray := strOf (putL k.ws k.vs k.r k.m k.t)
def countOf (ms : List (Chk × Int)) (id : Int) : Nat := (ms.filter fun m => decide (m.2 = id)).length
def memOk (c : Cfg) (m : Chk × Int) : Bool := kFits c m.1 && decide (m.1.t ≤ c.total)
def headOk (st : List Ent) (m : Chk × Int) : Bool := (getS st m.2).2 && txEq (getS st m.2).1 (textK m.1)
def entHeld (ms : List (Chk × Int)) (e : Ent) : Bool := decide (e.n = (countOf ms e.id : Int))
def heads (s : St) : Bool := s.ms.all (headOk s.st) && s.st.all (entHeld s.ms)
def stateMay (s : St) : Bool := cfgMay s.c && decide ((s.ms.length : Int) = s.c.m) && s.ms.all (memOk s.c) && eventsMay s.es s.c.m && storeMay s.st && heads s
def scoreL (s : St) : List Int := s.ms.map fun m => (scoreR s.c m.1).1
def scoresR (s : St) : List Int × Int := if stateMay s = true then (scoreL s, 0) else ([], 2200)
/-- the first members, the store behind them -/
def newF (c : Cfg) : Nat → List (Chk × Int) × List Ent
  | 0 => ([], [])
  | i + 1 => ((newF c i).1 ++ [(firstK c (i : Int), (putS (newF c i).2 (textK (firstK c (i : Int)))).2.1)], (putS (newF c i).2 (textK (firstK c (i : Int)))).1)
def newS (c : Cfg) : St := ⟨c, (newF c c.m.toNat).1, [], (newF c c.m.toNat).2⟩
def newR (c : Cfg) : St × Int := if cfgMay c = true then (newS c, 0) else (noSt, 2200)

theorem textK_ok {c : Cfg} {k : Chk} (h : kFits c k = true) : textOk (textK k) = true := by
  have h2 := kFits_len h
  have hl : k.ws.length ≤ 16 := by
    have := (more_fit h).2.1
    exact this
  have hs : (textK k).size = 10 + 8 * k.ws.length := by
    unfold textK
    rw [strOf_size]
    unfold putL
    simp only [List.length_append, lowL_len, lowsL_len, h2.1]
    omega
  unfold textOk
  rw [hs, decide_eq_true (by omega), decide_eq_true (by omega)]; rfl
theorem countOf_snoc (ms : List (Chk × Int)) (m : Chk × Int) (id : Int) : countOf (ms ++ [m]) id = countOf ms id + if m.2 = id then 1 else 0 := by
  unfold countOf
  rw [List.filter_append, List.length_append]
  by_cases h : m.2 = id
  · simp [h]
  · simp [h]
theorem countOf_le (ms : List (Chk × Int)) (id : Int) : countOf ms id ≤ ms.length := List.length_filter_le ..
theorem countOf_none {ms : List (Chk × Int)} {id : Int} (h : ∀ m ∈ ms, m.2 ≠ id) : countOf ms id = 0 := by
  unfold countOf
  rw [List.length_eq_zero_iff, List.filter_eq_nil_iff]
  intro m hm
  simpa using h m hm

/-- what holds as members are put in one by one -/
structure NewOk (c : Cfg) (i : Nat) (ms : List (Chk × Int)) (st : List Ent) : Prop where
  len : ms.length = i
  mem : ∀ (j : Nat) m, ms[j]? = some m → m.1 = firstK c (j : Int)
  store : Store st
  head : ∀ m ∈ ms, getS st m.2 = (textK m.1, true)
  held : ∀ e ∈ st, e.n = (countOf ms e.id : Int)
  stl : st.length ≤ i
theorem getS_mem {st : List Ent} {id : Int} {t : ByteArray} (h : getS st id = (t, true)) : ∃ e ∈ st, e.id = id ∧ e.tx = t := by
  unfold getS at h
  split at h
  · cases h
  · cases hf : st[findN st id]? with
    | none => rw [hf] at h; cases h
    | some e =>
      rw [hf] at h
      cases h
      have hlt := (List.getElem?_eq_some_iff.1 hf).1
      have := List.findIdx_getElem (xs := st) (p := fun e : Ent => decide (e.id = id)) (w := hlt)
      have hel : st[findN st id] = e := by rw [List.getElem?_eq_getElem hlt] at hf; exact Option.some.inj hf
      exact ⟨e, List.mem_of_getElem? hf, by rw [← hel]; exact of_decide_eq_true this, rfl⟩
theorem store_empty : Store [] := ⟨by decide, fun e h => (by cases h), fun i j x y _ h => (by cases h), fun i j x y h => (by cases h)⟩
theorem new_ok {c : Cfg} (hc : cfgMay c = true) : ∀ i : Nat, i ≤ 8 → NewOk c i (newF c i).1 (newF c i).2 ∧ (∀ j, j < i → (putS (newF c j).2 (textK (firstK c (j : Int)))).2.2 = 0)
  | 0, _ => ⟨⟨rfl, fun j m h => (by cases h), store_empty, fun m h => (by cases h), fun e h => (by cases h), Nat.le_refl _⟩, fun j h => by omega⟩
  | i + 1, hi => by
    obtain ⟨⟨h1, h2, h3, h4, h5, h6⟩, h7⟩ := new_ok hc i (by omega)
    have ht := textK_ok (firstK_fits hc (i : Int))
    have hcount : ∀ id, countOf (newF c i).1 id ≤ i := fun id => by have := countOf_le (newF c i).1 id; omega
    simp only [newF]
    generalize hms : (newF c i).1 = ms at *
    generalize hst : (newF c i).2 = st at *
    obtain ⟨t, htt⟩ : ∃ t, textK (firstK c (i : Int)) = t := ⟨_, rfl⟩
    rw [htt] at ht ⊢
    have hok : (putS st t).2.2 = 0 := by
      rcases put_cases st t with ⟨e, he, hp⟩ | ⟨k, x, hs, hx, hxs, h8, hp⟩ | ⟨hs, _, hno, hl, hp⟩
      · exfalso
        unfold putS at hp
        rw [of_store h3, ht, if_neg (by decide)] at hp
        cases hf : st[holdsN st t]? with
        | some e =>
          rw [hf] at hp
          simp only at hp
          have hm := List.mem_of_getElem? hf
          have hn := h5 e hm
          have := hcount e.id
          rw [if_neg (by omega)] at hp
          simp only [Prod.mk.injEq] at hp
          exact he hp.2.2.symm
        | none =>
          rw [hf] at hp
          simp only at hp
          rw [if_neg (by omega)] at hp
          simp only [Prod.mk.injEq] at hp
          exact he hp.2.2.symm
      · rw [hp]
      · rw [hp]
    obtain ⟨l1, l2, l3⟩ := put_leaves st t hok
    have hmem : ∀ (j : Nat) m, (ms ++ [(firstK c (i : Int), (putS st t).2.1)])[j]? = some m → m.1 = firstK c (j : Int) := fun j m hm => by
      by_cases hj : j < i
      · rw [List.getElem?_append_left (by omega)] at hm
        exact h2 j m hm
      · rw [List.getElem?_append_right (by omega)] at hm
        match hq : j - ms.length, hm with
        | 0, hm =>
          simp at hm
          subst hm
          show firstK c (i : Int) = _
          rw [show j = i by omega]
        | q + 1, hm => simp at hm
    have hhead : ∀ m ∈ ms ++ [(firstK c (i : Int), (putS st t).2.1)], getS (putS st t).1 m.2 = (textK m.1, true) := fun m hm => by
      rw [List.mem_append, List.mem_singleton] at hm
      rcases hm with hm | rfl
      · by_cases hid : m.2 = (putS st t).2.1
        · obtain ⟨e, he, hei, hex⟩ := getS_mem (h4 m hm)
          rw [hid, l2]
          congr 1
          -- the number is that of a text that was there
          rcases put_cases st t with ⟨e, he, hp⟩ | ⟨k, x, hs, hx, hxs, h8, hp⟩ | ⟨hs, _, hno, hl, hp⟩
          · rw [hp] at hok; exact absurd hok he
          · rw [hp] at hid
            simp only at hid
            obtain ⟨q, hq⟩ := List.mem_iff_getElem?.1 he
            rcases Nat.lt_trichotomy q k with h | h | h
            · have := h3.up q k e x h hq hx; omega
            · subst h; rw [hx] at hq; cases hq; rw [← hxs, hex]
            · have := h3.up k q x e h hx hq; omega
          · rw [hp] at hid
            simp only at hid
            obtain ⟨q, hq⟩ := List.mem_iff_getElem?.1 he
            have hsp := freeN_spec st
            rcases Nat.lt_or_ge q (freeN st) with h | h
            · have := hsp.2.1 q e h hq; omega
            · have := free_above h3 h hq; omega
        · rw [l3 m.2 hid]; exact h4 m hm
      · show getS (putS st t).1 (putS st t).2.1 = (textK (firstK c (i : Int)), true)
        rw [l2, htt]
    have hlen : (ms ++ [(firstK c (i : Int), (putS st t).2.1)]).length = i + 1 := by simp [h1]
    refine ⟨⟨hlen, hmem, store_of l1, hhead, fun e he => ?_, ?_⟩, fun j hj => ?_⟩
    · rw [countOf_snoc]
      simp only
      rcases put_cases st t with ⟨e', he', hp⟩ | ⟨k, x, hs, hx, hxs, h8, hp⟩ | ⟨hs, _, hno, hl, hp⟩
      · rw [hp] at hok; exact absurd hok he'
      · rw [hp] at he ⊢
        simp only at he ⊢
        rw [bump_at 1 hx] at he
        have hlt := (List.getElem?_eq_some_iff.1 hx).1
        obtain ⟨q, hq⟩ := List.mem_iff_getElem?.1 he
        by_cases hqk : k = q
        · subst hqk
          rw [List.getElem?_set_self hlt] at hq
          cases hq
          have := h5 x (List.mem_of_getElem? hx)
          simp only [if_true]
          rw [this]; omega
        · rw [List.getElem?_set_ne hqk] at hq
          have := h5 e (List.mem_of_getElem? hq)
          rw [if_neg (fun h => ?_), this]
          · omega
          · rcases Nat.lt_or_ge k q with h' | h'
            · have := h3.up k q x e h' hx hq; omega
            · have := h3.up q k e x (by omega) hq hx; omega
      · rw [hp] at he ⊢
        simp only at he ⊢
        rcases ins_mem.1 he with he | rfl
        · have hne : ¬ (freeN st : Int) = e.id := fun h => by
            obtain ⟨q, hq⟩ := List.mem_iff_getElem?.1 he
            have hsp := freeN_spec st
            rcases Nat.lt_or_ge q (freeN st) with h' | h'
            · have := hsp.2.1 q e h' hq; omega
            · have := free_above h3 h' hq; omega
          rw [if_neg hne, h5 e he]; omega
        · simp only
          rw [if_pos trivial, countOf_none fun m hm hid => ?_]
          · rfl
          · obtain ⟨e, he, hei, _⟩ := getS_mem (h4 m hm)
            obtain ⟨q, hq⟩ := List.mem_iff_getElem?.1 he
            have hsp := freeN_spec st
            rcases Nat.lt_or_ge q (freeN st) with h' | h'
            · have := hsp.2.1 q e h' hq; omega
            · have := free_above h3 h' hq; omega
    · rcases put_cases st t with ⟨e', he', hp⟩ | ⟨k, x, hs, hx, hxs, h8, hp⟩ | ⟨hs, _, hno, hl, hp⟩
      · rw [hp]; simp
      · rw [hp]; simp only; rw [bump_len]; omega
      · rw [hp]
        simp only
        unfold insE
        rw [List.length_append, List.length_take, List.length_cons, List.length_drop]
        have := (freeN_spec st).1
        omega
    · by_cases hji : j = i
      · subst hji
        rw [hst, htt]; exact hok
      · exact h7 j (by omega)

theorem newS_may {c : Cfg} (hc : cfgMay c = true) : stateMay (newS c) = true := by
  obtain ⟨hm2, _, _, htot, _⟩ := cfgMay_split hc
  obtain ⟨⟨h1, h2, h3, h4, h5, h6⟩, _⟩ := new_ok hc c.m.toNat (by omega)
  have hmm : ∀ m ∈ (newF c c.m.toNat).1, ∃ j : Nat, m.1 = firstK c (j : Int) := fun m hm => by
    obtain ⟨j, hj⟩ := List.mem_iff_getElem?.1 hm
    exact ⟨j, h2 j m hj⟩
  unfold stateMay heads newS
  simp only [Bool.and_eq_true, decide_eq_true_eq, List.all_eq_true]
  refine ⟨⟨⟨⟨⟨hc, by rw [h1]; omega⟩, fun m hm => ?_⟩, ?_⟩, of_store h3⟩, fun m hm => ?_, fun e he => ?_⟩
  · obtain ⟨j, hj⟩ := hmm m hm
    unfold memOk
    rw [hj, firstK_fits hc, Bool.true_and]
    exact decide_eq_true (by show (0 : Int) ≤ _; omega)
  · exact eventsMay_yes (within_iff.2 ⟨by omega, hm2.2⟩) (by simp) fun k e he => by simp at he
  · unfold headOk
    rw [h4 m hm]
    simp [txEq_self]
  · unfold entHeld
    exact decide_eq_true (h5 e he)
end Go.Proofs.YtengdmagaeckoaaGreat.VM

/- Rows of data that are one's own: many parts as one. -/
namespace Go.Proofs.YtengdmagaeckoaaGreat.VM
open Go
set_option linter.unusedVariables false
set_option linter.unusedSimpArgs false
attribute [local irreducible] wq wqL wqD wqE wqO Th Bk EndR
set_option maxHeartbeats 8000000

/-- many parts as one -/
def pack (L : List Res) : Fact where
  S c := ∃ r ∈ L, r.lies c
  p H := (∀ r ∈ L, r.ok H) ∧ L.Pairwise fun (r s : Res) => ∀ c : Nat, r.lies c → ¬ s.lies c
  st H H' h hf := ⟨fun r hr => Res.ok_fr (h.1 r hr) fun c hc => hf c ⟨r, hr, hc⟩, h.2⟩
  lt H c h hc := by
    obtain ⟨r, hr, hc⟩ := hc
    exact Res.ok_lt (h.1 r hr) hc
theorem Mem.packed {B H : Heap} {L M : List Res} (h : Mem B H (L ++ M)) : Mem B H (.ro (pack L) :: M) := by
  obtain ⟨s1, s2, s3⟩ := List.pairwise_append.1 h.sep
  refine ⟨h.pre, fun r hr => ?_, fun r hr c hc => ?_, List.pairwise_cons.2 ⟨fun s hs c hc hc2 => ?_, s2⟩⟩
  · rcases List.mem_cons.1 hr with rfl | hr
    · exact ⟨fun r hr => h.ok r (List.mem_append_left _ hr), s1⟩
    · exact h.ok r (List.mem_append_right _ hr)
  · rcases List.mem_cons.1 hr with rfl | hr
    · obtain ⟨r, hr, hc⟩ := hc
      exact h.low r (List.mem_append_left _ hr) c hc
    · exact h.low r (List.mem_append_right _ hr) c hc
  · obtain ⟨r, hr, hc⟩ := hc
    exact s3 r hr s hs c hc hc2
theorem Mem.unpacked {B H : Heap} {L M : List Res} (h : Mem B H (.ro (pack L) :: M)) : Mem B H (L ++ M) := by
  have h0 : (pack L).p H := h.ok _ List.mem_cons_self
  obtain ⟨s1, s2⟩ := List.pairwise_cons.1 h.sep
  refine ⟨h.pre, fun r hr => ?_, fun r hr c hc => ?_, List.pairwise_append.2 ⟨h0.2, s2, fun r hr s hs c hc hc2 => s1 s hs c ⟨r, hr, hc⟩ hc2⟩⟩
  · rcases List.mem_append.1 hr with hr | hr
    · exact h0.1 r hr
    · exact h.ok r (List.mem_cons_of_mem _ hr)
  · rcases List.mem_append.1 hr with hr | hr
    · exact h.low (.ro (pack L)) List.mem_cons_self c ⟨r, hr, hc⟩
    · exact h.low r (List.mem_cons_of_mem _ hr) c hc
theorem pack_mem {H : Heap} {L : List Res} (h : (pack L).p H) : Mem [] H L := ⟨List.nil_prefix, h.1, fun _ _ _ _ => Nat.zero_le _, h.2⟩
theorem Has.nth : ∀ {L : List Res} {k : Nat} {r : Res}, L[k]? = some r → Has L r (fun x => L.set k x)
  | [], k, r, h => by simp at h
  | s :: L, 0, r, h => by simp at h; subst h; exact .here
  | s :: L, k + 1, r, h => .there (Has.nth (by simpa using h))
theorem Has.app {L M : List Res} {r : Res} {f : Res → List Res} (h : Has L r f) : Has (L ++ M) r (fun x => f x ++ M) := by
  induction h with
  | here => exact .here
  | there h ih => exact .there ih

/-- the parts of rows: the rows themselves, each one's inputs -/
def rowsP (rv : List (V × Int)) (rs : List (List Int × Int)) : List Res := List.zipWith (fun p r => Res.own 1 intC p.1 r.1) rv rs
def rowsR (u : V) (rv : List (V × Int)) (rs : List (List Int × Int)) : List Res := .own 2 rowC u rv :: rowsP rv rs
def Like (rv : List (V × Int)) (rs : List (List Int × Int)) : Prop := rv.length = rs.length ∧ ∀ (k : Nat) p r, rv[k]? = some p → rs[k]? = some r → p.2 = r.2
theorem rowsP_get {rv : List (V × Int)} {rs : List (List Int × Int)} {k : Nat} {p : V × Int} {r : List Int × Int} (hp : rv[k]? = some p) (hr : rs[k]? = some r) : (rowsP rv rs)[k]? = some (.own 1 intC p.1 r.1) := by
  unfold rowsP
  rw [List.getElem?_zipWith, hp, hr]
theorem rows_pack {H : Heap} {u : V} {rv : List (V × Int)} {rs : List (List Int × Int)} (h : (pack (rowsR u rv rs)).p H) (hl : Like rv rs) : Rows H u rs := by
  have hm := pack_mem h
  refine ⟨rv, hm.sl .here, hl.1, fun k p r hp hr => ⟨hm.sl (.there (Has.nth (rowsP_get hp hr))), hl.2 k p r hp hr⟩⟩

theorem copyRowsO_ (H : Heap) (v : V) (rs : List (List Int × Int)) (hv : Rows H v rs) (hl : rs.length < 2 ^ 42) (hx : ∀ r ∈ rs, r.1.length * 8 ≤ 2 ^ 47) :
    ∃ w H', Call Tryz.prog 38 [v] H w H' ∧ ∃ rv, Like rv rs ∧ Mem H H' [.ro (pack (rowsR w rv rs))] := by
  have hv0 := hv
  obtain ⟨n, hn⟩ : ∃ n, rs.length = n := ⟨_, rfl⟩
  have hlen : builtinP T .len [24] [v] = some (.int .i64 (n : Int)) := by
    obtain ⟨qv, hqv, hql, _⟩ := hv
    have := hqv.len T24 rfl
    rw [hql, hn] at this
    exact this
  refine call_mem fit mixed Tryz.func38 rfl rfl rfl (by kernel_rfl) fun hM => ?_
  refine goM ?_
  refine wq_loop (fun c ρ hp => ∃ (k : Nat) (u : V) (rv : List (V × Int)), k ≤ n ∧ c = n - k ∧ Like rv (rs.take k) ∧ Mem H hp (rowsR u rv (rs.take k)) ∧ ρ 0 = v ∧ ρ 3 = u ∧ ρ 4 = .int .i64 (k : Int)) ⟨0, .nils, [], Nat.zero_le _, rfl, ⟨rfl, by simp⟩, hM.nil 2 rowC, rfl, rfl, rfl⟩ ?_
  clear hM
  rintro _ ρ hp ⟨k, u, rv, hk, rfl, hlk, hM, g0, g3, g4⟩
  refine goM ?_
  refine cond_go (fun hb => ?_) (fun hb => ?_)
  · have hk' : k < n := by simpa using hb
    clear hb
    obtain ⟨⟨xs, y⟩, hrk⟩ : ∃ r, rs[k]? = some r := ⟨rs[k]'(by omega), by simp⟩
    obtain ⟨b3, o3, x, hi3, hlo3, _, _, hxs⟩ := hv0.at hrk
    replace hlo3 := loadV_pre hM.pre hlo3
    have hxl : xs.length * 8 ≤ 2 ^ 47 := hx _ (List.mem_of_getElem? hrk)
    have hw := wrap_succ (n := k) (by omega)
    have hrl : rv.length = k := by rw [hlk.1, List.length_take]; omega
    have s1 := hxs.cells
    have htk : rs.take (k + 1) = rs.take k ++ [(xs, y)] := by rw [List.take_add_one, hrk]; rfl
    replace hM := Mem.packed (M := []) (L := rowsR u rv (rs.take k)) (by simpa using hM)
    clear hrk
    refine goM ?_
    refine l_newM (cs := [.nils, .int .i64 0]) T113 rfl fun b4 H1 hM => ?_
    refine l_putM T113 fun H2 hM => ?_
    refine goM ?_
    refine l_sliceM intC [] [] T30 rfl T3 rfl (cells_ints []) (by decide) fun e1 H3 hM => ?_
    refine goM ?_
    refine l_appM (hxs.mono hM.pre) fun a H4 hM => ?_
    have s3 := (hM.sl .here).cells
    refine goM ?_
    refine l_putM T30 fun H5 hM => ?_
    refine goM ?_
    refine l_sliceM rowC [(a, y)] [a, .int .i64 y] T24 rfl T113 rfl (cells_rows [(a, y)]) (by decide) (fun e2 H6 hM => ?_)
    have hM2 : Mem H H6 (.own 2 rowC e2 [(a, y)] :: .own 2 rowC u rv :: .own 1 intC a ([] ++ xs) :: rowsP rv (rs.take k)) := by
      have h1 := hM.front (r := .ro (pack (rowsR u rv (rs.take k)))) (by (repeat (first | exact Take.here | apply Take.there)))
      have h2 := (h1.sub (L' := [.ro (pack (rowsR u rv (rs.take k))), .own 2 rowC e2 [(a, y)], .own 1 intC a ([] ++ xs)]) (by (repeat (first | exact List.Sublist.slnil | exact List.Sublist.refl _ | refine List.Sublist.cons_cons _ ?_ | refine List.Sublist.cons _ ?_)))).unpacked
      refine h2.perm ?_
      refine (List.perm_append_comm (l₁ := rowsR u rv (rs.take k))).trans ?_
      refine List.Perm.cons _ ?_
      show (Res.own 1 intC a ([] ++ xs) :: Res.own 2 rowC u rv :: rowsP rv (rs.take k)).Perm _
      exact .swap _ _ _
    clear hM
    have hM := hM2
    clear hM2
    refine goM ?_
    refine l_appM (hM.sl .here) (xs := rv) (hh := .there .here) (hb := by simp only [List.length_cons, List.length_nil]; rw [hrl]; omega) fun u' H7 hM => ?_
    refine goM ?_
    refine ⟨n - (k + 1), by omega, k + 1, u', rv ++ [(a, y)], hk', rfl, ?_, ?_, by simp [put_app, put_none, *]⟩
    · rw [htk]
      have h3 : (rs.take k).length = k := by rw [List.length_take]; omega
      refine ⟨by simp [hrl, h3], fun j p r hp hr => ?_⟩
      by_cases hj : j < k
      · rw [List.getElem?_append_left (by omega)] at hp hr
        exact hlk.2 j p r hp hr
      · rw [List.getElem?_append_right (by omega)] at hp hr
        rw [hrl] at hp
        rw [h3] at hr
        match hq : j - k, hp, hr with
        | 0, hp, hr => simp at hp hr; subst hp; subst hr; rfl
        | q + 1, hp, hr => simp at hp
    · rw [htk]
      have h3 : (rs.take k).length = k := by rw [List.length_take]; omega
      have hz : rowsP (rv ++ [(a, y)]) (rs.take k ++ [(xs, y)]) = rowsP rv (rs.take k) ++ [.own 1 intC a xs] := by
        unfold rowsP
        rw [List.zipWith_append (by omega)]; rfl
      unfold rowsR
      rw [hz]
      refine hM.drop.perm (List.Perm.cons _ ?_)
      exact List.perm_append_comm (l₁ := [Res.own 1 intC a xs]) (l₂ := rowsP rv (rs.take k))
  · have hk' : k = n := by have : ¬ k < n := by simpa using hb
                           omega
    subst hk'
    clear hb
    rw [List.take_of_length_le (by omega)] at hM hlk
    refine goM ?_
    exact end_1 (by first | exact .inl rfl | exact .inr rfl) ⟨rv, hlk, Mem.packed (M := []) (by simpa using hM)⟩

theorem copyConfigO_ (H : Heap) (c : Cfg) (v : V) (hv : Rows H v c.rows) (hf : c.Fit) : ∃ w H', Call Tryz.prog 10 [.agg (cfgC c v)] H w H' ∧ ∃ u rv, w = .agg (cfgC c u) ∧ Like rv c.rows ∧ Mem H H' [.ro (pack (rowsR u rv c.rows))] := by
  have l1 := hf.rows
  have l2 := hf.row
  have s0 : v.cells = [v] ∧ v.isTup = false := by obtain ⟨_, h, _⟩ := hv; exact h.cells
  refine call_mem fit mixed Tryz.func10 rfl rfl rfl (by kernel_rfl) fun hM => ?_
  refine wq_seq (wq_line ?_)
  refine l_boxM T26 fun b1 H1 hM => ?_
  refine l_newM (cs := zeroCfg) T26 rfl fun b2 H2 hM => ?_
  refine goM ?_
  obtain ⟨u, H3, c1, rv, hlk, m1⟩ := copyRowsO_ H2 v c.rows (hv.mono hM.pre) (by omega) (fun r hr => by have := l2 r hr; omega)
  have s1 : u.cells = [u] ∧ u.isTup = false := by obtain ⟨_, h, _⟩ := rows_pack (m1.fact .here) hlk; exact h.cells
  refine l_callG c1 ?_
  replace hM := hM.call1 m1
  refine goM ?_
  refine l_putM T24 fun H4 hM => ?_
  refine goM ?_
  refine l_putM T26 fun H5 hM => ?_
  refine goM ?_
  exact end_1 (by first | exact .inl rfl | exact .inr rfl) ⟨u, rv, rfl, hlk, hM.subG⟩
end Go.Proofs.YtengdmagaeckoaaGreat.VM

/- Layer 24, the plain law: what events make of the members' checkpoints. -/
namespace Go.Proofs.YtengdmagaeckoaaGreat.VM
open Go
set_option linter.unusedVariables false
set_option linter.unusedSimpArgs false
attribute [local irreducible] wq wqL wqD wqE wqO Th Bk EndR
set_option maxHeartbeats 8000000

end Go.Proofs.YtengdmagaeckoaaGreat.VM

/- Layer 21, the plain law: a step of training keeps a checkpoint fit (split out of TrainJ). -/
namespace Go.Proofs.YtengdmagaeckoaaGreat.VM
open Go
set_option linter.unusedVariables false
set_option linter.unusedSimpArgs false
attribute [local irreducible] wq wqL wqD wqE wqO Th Bk EndR
set_option maxHeartbeats 8000000

end Go.Proofs.YtengdmagaeckoaaGreat.VM

/- Layer 24, the plain law: what a fold tells. -/
namespace Go.Proofs.YtengdmagaeckoaaGreat.VM
open Go
set_option linter.unusedVariables false
set_option linter.unusedSimpArgs false
attribute [local irreducible] wq wqL wqD wqE wqO Th Bk EndR
set_option maxHeartbeats 8000000

end Go.Proofs.YtengdmagaeckoaaGreat.VM

/- Layer 24: the members' paths in memory; each one's weights are one part. -/
namespace Go.Proofs.YtengdmagaeckoaaGreat.VM
open Go
set_option linter.unusedVariables false
set_option linter.unusedSimpArgs false
attribute [local irreducible] wq wqL wqD wqE wqO Th Bk EndR
set_option maxHeartbeats 8000000

/-- a path: its checkpoint, how many events, was one refused -/
structure Pa where
  w : V
  v : V
  k : Chk
  n : Int
  bad : Bool
def kPart (w v : V) (ws vs : List Int) : Res := .ro (pack [.own 1 intC w ws, .own 1 intC v vs])
def paPart (p : Pa) : Res := kPart p.w p.v p.k.ws p.k.vs
def paths (ps : List Pa) : List Res := ps.map paPart
theorem kPart_at {H : Heap} {w v : V} {k : Chk} (h : (kPart w v k.ws k.vs).ok H) : KAt H w v k := by
  have hm := pack_mem (show (pack [.own 1 intC w k.ws, .own 1 intC v k.vs]).p H from h)
  exact ⟨hm.sl .here, hm.sl (.there .here)⟩
theorem Mem.pack2 {B H : Heap} {r s : Res} {M : List Res} (h : Mem B H (r :: s :: M)) : Mem B H (.ro (pack [r, s]) :: M) := Mem.packed (L := [r, s]) h
theorem Mem.unpack2 {B H : Heap} {r s : Res} {M : List Res} (h : Mem B H (.ro (pack [r, s]) :: M)) : Mem B H (r :: s :: M) := Mem.unpacked (L := [r, s]) h
end Go.Proofs.YtengdmagaeckoaaGreat.VM

/- Layer 24: the program's walk: an event is taken. -/
namespace Go.Proofs.YtengdmagaeckoaaGreat.VM
open Go
set_option linter.unusedVariables false
set_option linter.unusedSimpArgs false
attribute [local irreducible] wq wqL wqD wqE wqO Th Bk EndR
set_option maxHeartbeats 8000000

theorem cloneInts_ (H : Heap) (v : V) (xs : List Int) (hx : Sl 1 intC H v xs) (hl : xs.length * 8 ≤ 2 ^ 47) : ∃ w H', Call Tryz.prog 99 [v] H w H' ∧ Mem H H' [.own 1 intC w xs] := by
  refine call_mem fit mixed Tryz.func99 rfl rfl rfl (by kernel_rfl) fun hM => ?_
  rcases hx with ⟨rfl, rfl⟩ | ⟨b, off, cap, t, cs, wr, rfl, h1, h2, h3, h4⟩
  · refine goM ?_
    exact end_1 (by first | exact .inl rfl | exact .inr rfl) (hM.nil 1 intC)
  · have hx : Sl 1 intC H (.slc b off xs.length cap t 1) xs := .inr ⟨b, off, cap, t, cs, wr, rfl, h1, h2, h3, h4⟩
    clear h1 h2 h3 h4
    refine goM ?_
    refine l_sliceM intC [] [] T30 rfl T3 rfl (cells_ints []) (by decide) fun e1 H3 hM => ?_
    refine goM ?_
    refine l_appM (hx.mono hM.pre) (xs := []) (hb := by simp only [List.length_nil]; omega) fun a H4 hM => ?_
    refine goM ?_
    exact end_1 (by first | exact .inl rfl | exact .inr rfl) hM
theorem loadN_in {H : Heap} {b o sz : Nat} {cs : List V} (h : H.loadN b o sz = some cs) {j n : Nat} (hj : j + n ≤ sz) : H.loadN b (o + j) n = some ((cs.drop j).take n) := by
  unfold Heap.loadN at h ⊢
  cases hb : H[b]? with
  | none => rw [hb] at h; cases h
  | some k =>
    rw [hb] at h
    cases k with
    | row ds w =>
      simp only at h ⊢
      split at h
      · rename_i hl
        cases h
        rw [if_pos (by omega), List.drop_take, List.take_take, List.drop_drop, Nat.min_eq_left (by omega)]
      · cases h
    | _ => cases h
end Go.Proofs.YtengdmagaeckoaaGreat.VM

/- Layer 18: how many events are a member's; the program's, the document's (LinA, for seats that also have configs). -/
namespace Go.Proofs.YtengdmagaeckoaaGreat.VM
open Go
set_option linter.unusedVariables false
set_option linter.unusedSimpArgs false
attribute [local irreducible] wq wqL wqD wqE wqO Th Bk EndR
set_option maxHeartbeats 8000000

theorem upTo12 (H : Heap) (x a b : Int) : Call Tryz.prog 52 [.int .i64 x, .int .i64 a, .int .i64 b] H (.bool (within x a b)) H := upTo12_ H x a b
theorem hyperMay1 (H : Heap) (r m : Int) : Call Tryz.prog 56 [.agg [.int .i64 r, .int .i64 m]] H (.bool (hyperMay r m)) H := refHyperMay_ H r m
theorem many (H : Heap) (v : V) (es : List Ev) (m : Int) (hes : Sl 6 evC H v es) (hl : es.length ≤ 2 ^ 47) : Call Tryz.prog 43 [v, .int .i64 m] H (.int .i64 (manyOf es m)) H := by
  refine call_plain fit mixed Tryz.func43 rfl rfl rfl (by kernel_rfl) rfl ?_
  have hlen := hes.len T27 rfl
  refine goW ?_
  refine wq_loop (fun c ρ h => ∃ k, k ≤ es.length ∧ c = es.length - k ∧ H <+: h ∧ ρ 0 = v ∧ ρ 1 = .int .i64 m ∧ ρ 8 = v ∧ ρ 9 = .int .i64 es.length ∧ ρ 10 = .int .i64 (k : Nat) ∧ ρ 5 = .int .i64 (manyOf (es.take k) m)) ⟨0, Nat.zero_le _, rfl, List.prefix_refl _, rfl, rfl, rfl, rfl, rfl, rfl⟩ ?_
  rintro _ ρ h ⟨k, hk, rfl, hp, h0, h1, h8, h9, h10, h5⟩
  refine goW ?_
  refine cond_go (fun hb => ?_) (fun hb => ?_)
  · have hk' : k < es.length := by simpa using hb
    obtain ⟨e, he⟩ : ∃ e, es[k]? = some e := ⟨es[k], by simp [hk']⟩
    obtain ⟨b, o, cs, hi, rfl, _, hlo, hlc⟩ := (hes.mono hp).get T27 rfl T78 rfl he
    have ho := loadV_agg T78 rfl hlo
    have hle := manyOf_le (es.take k) m
    rw [List.length_take] at hle
    have hw := wrap_succ (n := k) (by omega)
    have hw2 := wrap_succ (n := manyOf (es.take k) m) (by omega)
    have hs := manyOf_succ (m := m) he
    refine goW ?_
    refine cond_go (fun hc => ?_) (fun hc => ?_)
    all_goals refine goW ?_
    all_goals refine ⟨es.length - (k + 1), by omega, k + 1, hk', rfl, hp.trans (List.prefix_append ..), ?_⟩
    all_goals simp at hc
    all_goals simp [put_app, put_none, *]
  · have hk' : k = es.length := by have : ¬ k < es.length := by simpa using hb
                                   omega
    subst hk'
    refine goW ?_
    refine end_ret (by simp only [resRf, resRs, resR]; first | done | rfl) ⟨?_, hp⟩
    simp [put_app, put_none, *]
theorem manyRef (H : Heap) (v : V) (es : List Ev) (m : Int) (hes : Sl 6 evC H v es) (hl : es.length ≤ 2 ^ 47) : Call Tryz.prog 46 [v, .int .i64 m] H (.int .i64 (manyOf es m)) H := by
  refine call_plain fit mixed Tryz.func46 rfl rfl rfl (by kernel_rfl) rfl ?_
  have hlen := hes.len T27 rfl
  refine goW ?_
  refine wq_loop (fun c ρ h => ∃ k, k ≤ es.length ∧ c = es.length - k ∧ h = H ∧ ρ 0 = v ∧ ρ 1 = .int .i64 m ∧ ρ 6 = .int .i64 (k : Nat) ∧ ρ 5 = .int .i64 (manyOf (es.take k) m)) ⟨0, Nat.zero_le _, rfl, rfl, rfl, rfl, rfl, rfl⟩ ?_
  rintro _ ρ h ⟨k, hk, rfl, rfl, h0, h1, h6, h5⟩
  refine goW ?_
  refine cond_go (fun hb => ?_) (fun hb => ?_)
  · have hk' : k < es.length := by simpa using hb
    obtain ⟨e, he⟩ : ∃ e, es[k]? = some e := ⟨es[k], by simp [hk']⟩
    obtain ⟨b, o, cs, hi, rfl, _, hlo, hlc⟩ := hes.get T27 rfl T78 rfl he
    have ho := loadV_one T3 rfl (hlc 1 _ rfl)
    have hle := manyOf_le (es.take k) m
    rw [List.length_take] at hle
    have hw := wrap_succ (n := k) (by omega)
    have hw2 := wrap_succ (n := manyOf (es.take k) m) (by omega)
    have hs := manyOf_succ (m := m) he
    refine goW ?_
    refine cond_go (fun hc => ?_) (fun hc => ?_)
    all_goals refine goW ?_
    all_goals refine ⟨es.length - (k + 1), by omega, k + 1, hk', rfl, rfl, ?_⟩
    all_goals simp at hc
    all_goals simp [put_app, put_none, *]
  · have hk' : k = es.length := by have : ¬ k < es.length := by simpa using hb
                                   omega
    subst hk'
    refine goW ?_
    refine end_ret (by simp only [resRf, resRs, resR]; first | done | rfl) ⟨?_, List.prefix_refl _⟩
    simp [put_app, put_none, *]
end Go.Proofs.YtengdmagaeckoaaGreat.VM
