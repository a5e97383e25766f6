/- Joined texts: MembD, TrainF, MembE, TrainG, TrainH, FoldP, TrainP, FoldQ, FoldS, FoldT, EvA, EvD. -/
import Derived.Test.YtengdmagaeckoaaJF7
/- Layer 20: the program's Score. -/
namespace Go.Proofs.Ytengdmagaeckoaa.VM
open Go
set_option linter.unusedVariables false
set_option linter.unusedSimpArgs false
attribute [local irreducible] wq wqL wqD wqE wqO Th Bk EndR
set_option maxHeartbeats 8000000

theorem memFitsM_ (H : Heap) (cb kb : Nat) (c : Cfg) (rv w v : V) (ws vs : List Int) (r m t h : Int) (hc : H[cb]? = some (.row (cfgC c rv) true)) (hk : H[kb]? = some (.row (memC w v r m t h) true)) (hw : Sl 1 intC H w ws) (hv : Sl 1 intC H v vs) (lw : ws.length ≤ 2 ^ 47) (lv : vs.length ≤ 2 ^ 47) :
    Call Try.prog 72 [.ptr cb 0, .ptr kb 0] H (.bool (memFits c.i c.h ws vs r m t)) H := by
  refine call_plain fit mixed Try.func72 rfl rfl rfl (by kernel_rfl) rfl ?_
  have l0 : loadV T 37 H kb 0 = some (.agg (chkC w v r m t)) := by
    refine loadV_agg T37 rfl ?_
    unfold Heap.loadN
    rw [hk]; rfl
  have l1 : loadV T 24 H cb 1 = some (.agg [.int .i64 c.i, .int .i64 c.h]) := by
    refine loadV_agg T24 rfl ?_
    unfold Heap.loadN
    rw [hc]; rfl
  have l2 := ld_cell (q := 0) T35 rfl hk rfl
  have c1 := chkMay_ H w v ws vs r m t hw hv lw lv
  have c2 := shapeFits_ H c.i c.h w ws hw lw
  unfold memFits
  obtain ⟨r1, e1⟩ : ∃ q, chkMay ws vs r m t = q := ⟨_, rfl⟩
  rw [e1] at c1 ⊢
  clear e1 hw hv lw lv hc hk
  cases r1
  · refine goW ?_
    refine d_call0G c1 ?_
    refine goW ?_
    refine end_finG ?_; simp [put_app, put_none, *]
  · refine goW ?_
    refine d_call0G c1 ?_
    refine goW ?_
    refine d_call0G c2 ?_
    refine goW ?_
    refine end_finG ?_; simp [put_app, put_none, *]

end Go.Proofs.Ytengdmagaeckoaa.VM

/- Chapter 21: what the statements share: the small config, a first checkpoint, what every program answers. -/
namespace Go.Proofs.Ytengdmagaeckoaa.VM
open Go
set_option linter.unusedVariables false
set_option linter.unusedSimpArgs false
attribute [local irreducible] wq wqL wqD wqE wqO Th Bk EndR
set_option maxHeartbeats 8000000

/-- a fact that is kept from simp -/
def Held (p : Prop) : Prop := p

def smallC : Cfg := ⟨2, 1, 1, [([65536], 32768), ([-65536], 0)], 7, 3, 1, 1, true⟩
theorem small_may : cfgMay smallC = true := by decide +kernel
theorem small_fit : smallC.Fit := ⟨by decide, fun r hr => by
  rcases List.mem_cons.1 hr with rfl | hr
  · simp
  · rcases List.mem_cons.1 hr with rfl | hr
    · simp
    · cases hr⟩
/-- a member's first checkpoint -/
def firstK (c : Cfg) (id : Int) : Chk := ⟨firstW c id, firstV c, firstR c id, firstM c id, 0⟩
/-- a member's cells -/
abbrev mC (w v : V) (k : Chk) (h : Int) : List V := [w, v, .int .i64 k.r, .int .i64 k.m, .int .i64 k.t, .int .i64 h]
theorem refFirstK_ (H : Heap) (c : Cfg) (rv : V) (id : Int) (hr : Rows H rv c.rows) (hc : cfgMay c = true) (hid : 0 ≤ id ∧ id < c.m) :
    ∃ w H', Call Try.prog 14 [.agg (cfgC c rv), .int .i64 id] H w H' ∧ ∃ u1 u2, w = .tup [.agg (mC u1 u2 (firstK c id) 0), .str (strOf (firstS c id)), .int .i64 0] ∧ Mem H H' [.own 1 intC u2 (firstK c id).vs, .own 1 intC u1 (firstK c id).ws] := refFirst_good H c rv id hr hc hid
theorem chkMay_t {ws vs : List Int} {r m t t' : Int} (h : chkMay ws vs r m t = true) (ht : 0 ≤ t' ∧ t' ≤ 32) : chkMay ws vs r m t' = true := by
  unfold chkMay at h ⊢
  simp only [Bool.and_eq_true, decide_eq_true_eq] at h ⊢
  exact ⟨⟨h.1.1, ht.1⟩, ht.2⟩
theorem kFits_t {c : Cfg} {k : Chk} {t : Int} (h : kFits c k = true) (ht : 0 ≤ t ∧ t ≤ 32) : kFits c { k with t := t } = true := by
  unfold kFits memFits at h ⊢
  rw [Bool.and_eq_true] at h ⊢
  exact ⟨chkMay_t h.1 ht, h.2⟩
theorem firstK_fits {c : Cfg} (hc : cfgMay c = true) (id : Int) : kFits c (firstK c id) = true := first_fits hc id
theorem kFits_fit {c : Cfg} {k : Chk} (h : kFits c k = true) : k.Fit := by
  unfold kFits memFits at h
  rw [Bool.and_eq_true] at h
  obtain ⟨a, b, l, _⟩ := chkMay_split h.1
  have := vecMay_len a
  have := vecMay_len b
  exact ⟨by omega, by omega⟩
theorem trainOk_of {c : Cfg} {id : Int} {k : Chk} (hc : cfgMay c = true) (hid : 0 ≤ id ∧ id < c.m) (hk : kFits c k = true) : trainOk c id k = true := by
  obtain ⟨hm, _⟩ := cfgMay_split hc
  unfold trainOk
  rw [hc, hk, wrap_m hm, within_iff.2 ⟨hid.1, by omega⟩]; rfl
theorem trainR_go {c : Cfg} {id : Int} {k : Chk} (hc : cfgMay c = true) (hid : 0 ≤ id ∧ id < c.m) (hk : kFits c k = true) (ht : k.t < c.total) : trainR c id k = (trainK c id k, 0) := by
  unfold trainR
  rw [if_pos (trainOk_of hc hid hk), if_neg (by omega)]
theorem trainR_done {c : Cfg} {id : Int} {k : Chk} (hc : cfgMay c = true) (hid : 0 ≤ id ∧ id < c.m) (hk : kFits c k = true) (ht : c.total ≤ k.t) : trainR c id k = (noChk, 2101) := by
  unfold trainR
  rw [if_pos (trainOk_of hc hid hk), if_pos ht]
theorem trainR_id {c : Cfg} {id : Int} {k : Chk} (hc : cfgMay c = true) (hid : id < 0 ∨ c.m ≤ id) : trainR c id k = (noChk, 2100) := by
  obtain ⟨hm, _⟩ := cfgMay_split hc
  have : within id 0 (c.m - 1) = false := by
    rw [Bool.eq_false_iff]; intro h; rw [within_iff] at h; omega
  unfold trainR trainOk
  rw [wrap_m hm, this, Bool.and_false, Bool.false_and, if_neg (by decide)]

theorem sameK_ (H : Heap) (w v w' v' : V) (k k' : Chk) (h : KAt H w v k) (h' : KAt H w' v' k') (hf : k.Fit) :
    Call Try.prog 9 [.agg (kC w v k), .agg (kC w' v' k')] H (.bool (kEq k k')) H := by
  have l1 := hf.ws
  have l2 := hf.vs
  exact sameCheck_ H w v w' v' k.ws k.vs k'.ws k'.vs k.r k.m k.t k'.r k'.m k'.t h.ws h.vs h'.ws h'.vs (by omega) (by omega)
theorem trainR_fit {c : Cfg} {id : Int} {k : Chk} (hf : k.Fit) : (trainR c id k).1.Fit := by
  have h1 := hf.ws
  unfold trainR
  split
  · split
    · exact ⟨by simp, by simp⟩
    · exact ⟨by simp [trainK, nextL]; omega, by simp [trainK, speedL]; omega⟩
  · exact ⟨by simp, by simp⟩

end Go.Proofs.Ytengdmagaeckoaa.VM

/- Layers 10, 20: the document's Loss, ScoreOf, FirstMember that is refused; both sides' contracts for every input. -/
namespace Go.Proofs.Ytengdmagaeckoaa.VM
open Go
set_option linter.unusedVariables false
set_option linter.unusedSimpArgs false
attribute [local irreducible] wq wqL wqD wqE wqO Th Bk EndR
set_option maxHeartbeats 8000000

/-- a member's score, whatever it is -/
def scoreR (c : Cfg) (k : Chk) : Int × Int := if (cfgMay c && kFits c k) = true then (lossN c.i.toNat c.h.toNat k.ws c.rows, 0) else (0, 2000)
/-- a first member, whatever its number is -/
def firstOk (c : Cfg) (id : Int) : Bool := cfgMay c && within id 0 (IntKind.i64.wrap (c.m - 1))
def firstKR (c : Cfg) (id : Int) : Chk := if firstOk c id = true then firstK c id else noChk
def firstSR (c : Cfg) (id : Int) : List Int := if firstOk c id = true then firstS c id else []
def firstER (c : Cfg) (id : Int) : Int := if firstOk c id = true then 0 else 2000
theorem firstOk_split {c : Cfg} {id : Int} (h : firstOk c id = true) : cfgMay c = true ∧ (0 ≤ id ∧ id < c.m) := by
  unfold firstOk at h
  rw [Bool.and_eq_true] at h
  obtain ⟨hm, _⟩ := cfgMay_split h.1
  rw [wrap_m hm, within_iff] at h
  exact ⟨h.1, by omega⟩
theorem firstKR_fit (c : Cfg) (id : Int) : (firstKR c id).Fit := by
  unfold firstKR
  split
  · rename_i h
    exact kFits_fit (firstK_fits (firstOk_split h).1 id)
  · exact ⟨by simp, by simp⟩

theorem member_First (H : Heap) (c : Cfg) (rv : V) (id : Int) (hr : Rows H rv c.rows) (hc : c.Fit) :
    ∃ w H', Call Try.prog 19 [.agg (cfgC c rv), .int .i64 id] H w H' ∧ ∃ a b, w = .tup [.agg (mC a b (firstKR c id) 0), .str (strOf (firstSR c id)), .int .i64 (firstER c id)] ∧ Mem H H' [.own 1 intC b (firstKR c id).vs, .own 1 intC a (firstKR c id).ws] := by
  have l1 := hc.rows
  have l2 := hc.row
  unfold firstKR firstSR firstER
  cases hok : firstOk c id with
  | false => exact ⟨_, H, memberFirst_bad H c rv id hr (by omega) (fun r h => by have := l2 r h; omega) hok, .nils, .nils, rfl, ((Mem.start H).nil 1 intC).nil 1 intC⟩
  | true =>
    obtain ⟨h1, h2⟩ := firstOk_split hok
    exact memberFirst_ H c rv id hr h1 h2

theorem refFirst_bad (H : Heap) (c : Cfg) (rv : V) (id : Int) (hr : Rows H rv c.rows) (hc : c.Fit) (hb : firstOk c id = false) :
    Call Try.prog 14 [.agg (cfgC c rv), .int .i64 id] H (.tup [.agg zeroMem, .str (strOf []), .int .i64 2000]) H := by
  have l1 := hc.rows
  have l2 := hc.row
  refine call_pure fit mixed Try.func14 rfl rfl rfl (by kernel_rfl) rfl fun hM => ?_
  refine wq_seq (wq_line ?_)
  refine l_boxM T27 fun b1 H1 hM => ?_
  refine l_newM (cs := zeroMem) T51 rfl fun b2 H2 hM => ?_
  have c1 := refConfMay_ H2 c rv (hr.mono hM.pre) (by omega) (fun r h => by have := l2 r h; omega)
  have c2 := upTo12_ H2 id 0 (IntKind.i64.wrap (c.m - 1))
  unfold firstOk at hb
  obtain ⟨q, hq⟩ : ∃ q, cfgMay c = q := ⟨_, rfl⟩
  rw [hq] at c1 hb
  cases q with
  | false =>
    clear hb hq c2
    refine goM ?_
    refine l_callG c1 ?_
    refine goM ?_
    refine l_putM T51 fun H3 hM => ?_
    refine goM ?_
    exact end_3 (by first | exact .inl rfl | exact .inr rfl) ⟨rfl, hM.pre⟩
  | true =>
    rw [Bool.true_and] at hb
    rw [hb] at c2
    clear hb hq
    refine goM ?_
    refine l_callG c1 ?_
    refine goM ?_
    refine l_callG c2 ?_
    refine goM ?_
    refine l_putM T51 fun H3 hM => ?_
    refine goM ?_
    exact end_3 (by first | exact .inl rfl | exact .inr rfl) ⟨rfl, hM.pre⟩

theorem ref_First (H : Heap) (c : Cfg) (rv : V) (id : Int) (hr : Rows H rv c.rows) (hc : c.Fit) :
    ∃ w H', Call Try.prog 14 [.agg (cfgC c rv), .int .i64 id] H w H' ∧ ∃ a b, w = .tup [.agg (mC a b (firstKR c id) 0), .str (strOf (firstSR c id)), .int .i64 (firstER c id)] ∧ Mem H H' [.own 1 intC b (firstKR c id).vs, .own 1 intC a (firstKR c id).ws] := by
  unfold firstKR firstSR firstER
  cases hok : firstOk c id with
  | false => exact ⟨_, H, refFirst_bad H c rv id hr hc hok, .nils, .nils, rfl, ((Mem.start H).nil 1 intC).nil 1 intC⟩
  | true =>
    obtain ⟨h1, h2⟩ := firstOk_split hok
    exact refFirst_good H c rv id hr h1 h2
end Go.Proofs.Ytengdmagaeckoaa.VM

/- Chapter 21: what is handed in: checkpoints, configs; the statement Trains. -/
namespace Go.Proofs.Ytengdmagaeckoaa.VM
open Go
set_option linter.unusedVariables false
set_option linter.unusedSimpArgs false
attribute [local irreducible] wq wqL wqD wqE wqO Th Bk EndR
set_option maxHeartbeats 8000000

theorem Sl.map {α β : Type} {sz : Nat} {R : List V → α → Prop} {R' : List V → β → Prop} {H : Heap} {v : V} {xs : List α} (f : α → β) (h : Sl sz R H v xs) (hf : ∀ cs x, R cs x → R' cs (f x)) : Sl sz R' H v (xs.map f) := by
  rcases h with ⟨rfl, rfl⟩ | ⟨b, off, cap, t, cs, wr, rfl, h1, h2, h3, h4⟩
  · exact .inl ⟨rfl, rfl⟩
  · refine .inr ⟨b, off, cap, t, cs, wr, by rw [List.length_map], by rw [List.length_map]; exact h1, h2, by rw [List.length_map]; exact h3, fun k y hy => ?_⟩
    rw [List.getElem?_map] at hy
    cases hx : xs[k]? with
    | none => rw [hx] at hy; cases hy
    | some x => rw [hx] at hy; cases hy; exact hf _ _ (h4 k x hx)
theorem Sl.all {α : Type} {sz : Nat} {R : List V → α → Prop} {Q : α → Prop} {H : Heap} {v : V} {xs : List α} (h : Sl sz R H v xs) (hf : ∀ cs x, R cs x → Q x) : ∀ x ∈ xs, Q x := fun x hx => by
  obtain ⟨k, hk⟩ := List.mem_iff_getElem?.1 hx
  rcases h with ⟨rfl, rfl⟩ | ⟨b, off, cap, t, cs, wr, rfl, h1, h2, h3, h4⟩
  · cases hx
  · exact hf _ _ (h4 k x hk)

theorem rd_hyper {K : Heap} {D : Type} {vs : List V} {d : DataW D} (h : Rd T K 30 vs d) : ∃ a b, vs = [.int .i64 a, .int .i64 b] := by
  obtain ⟨hl, hf⟩ := h.field T30 rfl
  replace hl : vs.length = 2 := hl
  obtain ⟨x0, h0⟩ := hf 0 _ _ rfl T3
  obtain ⟨x1, h1⟩ := hf 1 _ _ rfl T3
  obtain ⟨n0, e0, _⟩ := h0.isInt T3 rfl
  obtain ⟨n1, e1, _⟩ := h1.isInt T3 rfl
  match vs, hl, e0, e1 with
  | [a, b], _, e0, e1 =>
    simp at e0 e1
    subst e0; subst e1
    exact ⟨n0, n1, rfl⟩
theorem rd_shapecells {K : Heap} {D : Type} {vs : List V} {d : DataW D} (h : Rd T K 24 vs d) : ∃ a b, vs = [.int .i64 a, .int .i64 b] := by
  obtain ⟨hl, hf⟩ := h.field T24 rfl
  replace hl : vs.length = 2 := hl
  obtain ⟨x0, h0⟩ := hf 0 _ _ rfl T3
  obtain ⟨x1, h1⟩ := hf 1 _ _ rfl T3
  obtain ⟨n0, e0, _⟩ := h0.isInt T3 rfl
  obtain ⟨n1, e1, _⟩ := h1.isInt T3 rfl
  match vs, hl, e0, e1 with
  | [a, b], _, e0, e1 =>
    simp at e0 e1
    subst e0; subst e1
    exact ⟨n0, n1, rfl⟩
theorem rd_checkcells {K : Heap} {D : Type} {vs : List V} {d : DataW D} (hr : Rd T K 37 vs d) : ∃ w u k, vs = kC w u k ∧ KAt K w u k ∧ k.Fit := by
  obtain ⟨hl, hf⟩ := hr.field T37 rfl
  replace hl : vs.length = 5 := hl
  obtain ⟨x0, h0⟩ := hf 0 _ _ rfl T35
  obtain ⟨x1, h1⟩ := hf 1 _ _ rfl T35
  obtain ⟨x2, h2⟩ := hf 2 _ _ rfl T30
  obtain ⟨x3, h3⟩ := hf 3 _ _ rfl T3
  obtain ⟨n3, e3, _⟩ := h3.isInt T3 rfl
  obtain ⟨p, q, e2⟩ := rd_hyper h2
  match vs, hl, h0, h1, e2, e3 with
  | [a, b, c, e, f], _, h0, h1, e2, e3 =>
    simp at e2 e3
    obtain ⟨rfl, rfl⟩ := e2
    subst e3
    obtain ⟨ws, s1, l1⟩ := rd_ints ⟨_, T35, .inr ⟨rfl, h0⟩⟩
    obtain ⟨us, s2, l2⟩ := rd_ints ⟨_, T35, .inr ⟨rfl, h1⟩⟩
    exact ⟨a, b, ⟨ws, us, p, q, n3⟩, rfl, ⟨s1, s2⟩, ⟨Nat.le_trans l1 (by decide), Nat.le_trans l2 (by decide)⟩⟩
theorem rd_check {K : Heap} {D : Type} {v : V} {d : DataW D} (h : RdV T K 37 v d) : ∃ w u k, v = .agg (kC w u k) ∧ KAt K w u k ∧ k.Fit := by
  obtain ⟨vs, rfl, hr⟩ := h.agg T37 rfl
  obtain ⟨w, u, k, rfl, h1, h2⟩ := rd_checkcells hr
  exact ⟨w, u, k, rfl, h1, h2⟩
def rdRowC (K : Heap) (cs : List V) (p : (V × Int) × List Int) : Prop := cs = [p.1.1, .int .i64 p.1.2] ∧ Sl 1 intC K p.1.1 p.2 ∧ p.2.length * 8 ≤ 140737488351232
theorem rd_rows {K : Heap} {D : Type} {v : V} {d : DataW D} (h : RdV T K 25 v d) : ∃ rs, Rows K v rs ∧ rs.length * 32 ≤ 140737488351232 ∧ ∀ r ∈ rs, r.1.length * 8 ≤ 140737488351232 := by
  obtain ⟨xs, h1, h2⟩ := (h.plain T25 rfl).isSlice (R := rdRowC K) T25 rfl T55 fun cs x hx => by
    obtain ⟨x, xs, y, e, e1, e2⟩ := rd_rowcells hx
    exact ⟨((x, y), xs), e, e1, Nat.le_trans e2 (by decide)⟩
  have h3 := h1.all (Q := fun p => Sl 1 intC K p.1.1 p.2 ∧ p.2.length * 8 ≤ 140737488351232) fun cs x hx => hx.2
  refine ⟨xs.map fun p => (p.2, p.1.2), ⟨xs.map (·.1), h1.map (R' := rowC) (fun p => p.1) fun cs x hx => (show rowC cs x.1 from hx.1), by simp, fun k p r hp hr => ?_⟩, by rw [List.length_map]; exact Nat.le_trans h2 (by decide), fun r hr => ?_⟩
  · rw [List.getElem?_map] at hp hr
    cases hx : xs[k]? with
    | none => rw [hx] at hp; cases hp
    | some x =>
      rw [hx] at hp hr
      cases hp; cases hr
      exact ⟨(h3 x (List.mem_iff_getElem?.2 ⟨k, hx⟩)).1, rfl⟩
  · obtain ⟨x, hx, rfl⟩ := List.mem_map.1 hr
    exact (h3 x hx).2
theorem rd_config {K : Heap} {D : Type} {v : V} {d : DataW D} (h : RdV T K 27 v d) : ∃ c rv, v = .agg (cfgC c rv) ∧ Rows K rv c.rows ∧ c.Fit := by
  obtain ⟨vs, rfl, hr⟩ := h.agg T27 rfl
  obtain ⟨hl, hf⟩ := hr.field T27 rfl
  replace hl : vs.length = 9 := hl
  obtain ⟨x0, h0⟩ := hf 0 _ _ rfl T3
  obtain ⟨x1, h1⟩ := hf 1 _ _ rfl T24
  obtain ⟨x2, h2⟩ := hf 2 _ _ rfl T25
  obtain ⟨x3, h3⟩ := hf 3 _ _ rfl T3
  obtain ⟨x4, h4⟩ := hf 4 _ _ rfl T3
  obtain ⟨x5, h5⟩ := hf 5 _ _ rfl T3
  obtain ⟨x6, h6⟩ := hf 6 _ _ rfl T3
  obtain ⟨x7, h7⟩ := hf 7 _ _ rfl T4
  obtain ⟨n0, e0, _⟩ := h0.isInt T3 rfl
  obtain ⟨n1, n2, e1⟩ := rd_shapecells h1
  obtain ⟨n3, e3, _⟩ := h3.isInt T3 rfl
  obtain ⟨n4, e4, _⟩ := h4.isInt T3 rfl
  obtain ⟨n5, e5, _⟩ := h5.isInt T3 rfl
  obtain ⟨n6, e6, _⟩ := h6.isInt T3 rfl
  obtain ⟨n7, e7⟩ := h7.isBool T4 rfl
  match vs, hl, e0, e1, h2, e3, e4, e5, e6, e7 with
  | [a0, a1, a2, a3, a4, a5, a6, a7, a8], _, e0, e1, h2, e3, e4, e5, e6, e7 =>
    simp at e0 e1 e3 e4 e5 e6 e7
    obtain ⟨rfl, rfl⟩ := e1
    subst e0; subst e3; subst e4; subst e5; subst e6; subst e7
    obtain ⟨rs, q1, q2, q3⟩ := rd_rows ⟨_, T25, .inr ⟨rfl, h2⟩⟩
    exact ⟨⟨n0, n1, n2, rs, n3, n4, n5, n6, n7⟩, a3, rfl, q1, ⟨q2, q3⟩⟩

end Go.Proofs.Ytengdmagaeckoaa.VM

/- Chapter 21: the statement TrainForms. -/
namespace Go.Proofs.Ytengdmagaeckoaa.VM
open Go
set_option linter.unusedVariables false
set_option linter.unusedSimpArgs false
attribute [local irreducible] wq wqL wqD wqE wqO Th Bk EndR
set_option maxHeartbeats 8000000

def Cfg.setI (c : Cfg) (x : Int) : Cfg := { c with interval := x }
def Chk.setT (k : Chk) (t : Int) : Chk := { k with t := t }
def Chk.noVs (k : Chk) : Chk := { k with vs := [] }
def Chk.more (k : Chk) : Chk := { k with ws := k.ws ++ [1], vs := k.vs ++ [1] }
theorem trainR_no {c : Cfg} {id : Int} {k : Chk} (h : trainOk c id k = false) : trainR c id k = (noChk, 2100) := by
  unfold trainR; rw [h]; rfl
theorem trainOk_cfg {c : Cfg} {id : Int} {k : Chk} (h : cfgMay c = false) : trainOk c id k = false := by unfold trainOk; rw [h]; rfl
theorem trainOk_fits {c : Cfg} {id : Int} {k : Chk} (h : kFits c k = false) : trainOk c id k = false := by unfold trainOk; rw [h, Bool.and_false]
theorem kFits_len {c : Cfg} {k : Chk} (h : kFits c k = true) : k.vs.length = k.ws.length ∧ 1 ≤ k.ws.length ∧ (k.ws.length : Int) = c.h * (c.i + 1) + c.h + 1 := by
  unfold kFits memFits at h
  rw [Bool.and_eq_true] at h
  obtain ⟨_, _, l, l1, _⟩ := chkMay_split h.1
  obtain ⟨_, _, i', h', hi', hh', _, _, _, _, hsz⟩ := fits_split h.2
  refine ⟨l, l1, ?_⟩
  rw [hsz, hi', hh', ← size_cast]
theorem cfgMay_interval {c : Cfg} {x : Int} (h : x < 1) : cfgMay { c with interval := x } = false := by
  rw [Bool.eq_false_iff]; intro hc
  obtain ⟨_, _, _, _, h1⟩ := cfgMay_split hc
  simp only at h1; omega
theorem kFits_vs {c : Cfg} {k : Chk} (h : kFits c k = true) : kFits c { k with vs := [] } = false := by
  rw [Bool.eq_false_iff]; intro hc
  have h1 := kFits_len h
  have h2 := kFits_len hc
  simp only [List.length_nil] at h2; omega
theorem kFits_more {c : Cfg} {k : Chk} (h : kFits c k = true) (x y : Int) : kFits c { k with ws := k.ws ++ [x], vs := k.vs ++ [y] } = false := by
  rw [Bool.eq_false_iff]; intro hc
  have h1 := kFits_len h
  have h2 := kFits_len hc
  simp only [List.length_append, List.length_cons, List.length_nil] at h2; omega
theorem kFits_late {c : Cfg} {k : Chk} {t : Int} (ht : 32 < t) : kFits c { k with t := t } = false := by
  rw [Bool.eq_false_iff]; intro hc
  unfold kFits memFits at hc
  rw [Bool.and_eq_true] at hc
  obtain ⟨_, _, _, _, _, _, l⟩ := chkMay_split hc.1
  simp only at l; omega

theorem more_fit {c : Cfg} {k : Chk} (h : kFits c k = true) : k.more.Fit ∧ k.ws.length ≤ 16 ∧ k.vs.length ≤ 16 := by
  unfold kFits memFits at h
  rw [Bool.and_eq_true] at h
  obtain ⟨a, b, l, _⟩ := chkMay_split h.1
  have := vecMay_len a
  have := vecMay_len b
  exact ⟨⟨by simp only [Chk.more, List.length_append, List.length_cons, List.length_nil]; omega, by simp only [Chk.more, List.length_append, List.length_cons, List.length_nil]; omega⟩, by omega, by omega⟩

end Go.Proofs.Ytengdmagaeckoaa.VM

/- Layer 24, the plain law: what events make of the members' checkpoints. -/
namespace Go.Proofs.Ytengdmagaeckoaa.VM
open Go
set_option linter.unusedVariables false
set_option linter.unusedSimpArgs false
attribute [local irreducible] wq wqL wqD wqE wqO Th Bk EndR
set_option maxHeartbeats 8000000

/-- what an event makes of a checkpoint, and of a donor's; none: it was refused -/
def turnK (c : Cfg) (e : Ev) (k d : Option Chk) : Option Chk := match k with
  | none => none
  | some k =>
    if e.kind = 0 then (if (trainR c e.member k).2 = 0 then some (trainR c e.member k).1 else none)
    else if e.kind = 1 then (match d with
      | none => none
      | some d => some ⟨d.ws, d.vs, d.r, d.m, k.t⟩)
    else some ⟨k.ws, k.vs, e.rate, e.mom, k.t⟩
/-- of each member: what it was behind none of its events, behind one, .. -/
abbrev Hist := List (List (Option Chk))
def rowH (H : Hist) (m : Int) : List (Option Chk) := H.getD m.toNat []
def nowH (H : Hist) (m : Int) : Option Chk := ((rowH H m)[(rowH H m).length - 1]?).join
def donorH (H : Hist) (e : Ev) : Option Chk := if e.kind = 1 then ((rowH H e.donor)[e.at_.toNat]?).join else none
def stepH (c : Cfg) (H : Hist) (e : Ev) : Hist := H.set e.member.toNat (rowH H e.member ++ [turnK c e (nowH H e.member) (donorH H e)])
def startH (c : Cfg) : Hist := (List.range c.m.toNat).map fun (i : Nat) => [some (firstKR c (i : Int))]
def foldH (c : Cfg) (es : List Ev) : Hist := es.foldl (stepH c) (startH c)
def foldK (c : Cfg) (es : List Ev) (id a : Int) : Option Chk := ((rowH (foldH c es) id)[a.toNat]?).join
def foldOk (c : Cfg) (es : List Ev) (id a : Int) : Bool := cfgMay c && eventsMay es c.m && within id 0 (IntKind.i64.wrap (c.m - 1)) && decide (0 ≤ a) && decide (a ≤ (manyOf es id : Int))
def foldR (c : Cfg) (es : List Ev) (id a : Int) : Chk × Int := if foldOk c es id a = true then (match foldK c es id a with
  | none => (noChk, 2400)
  | some k => (k, 0)) else (noChk, 2400)

theorem foldH_succ {c : Cfg} {es : List Ev} {k : Nat} {e : Ev} (he : es[k]? = some e) : foldH c (es.take (k + 1)) = stepH c (foldH c (es.take k)) e := by
  unfold foldH
  rw [List.take_add_one, he, List.foldl_append]; rfl
theorem foldH_all (c : Cfg) (es : List Ev) : foldH c (es.take es.length) = foldH c es := by rw [List.take_length]

/-- events that may be behind others -/
theorem eventsMay_at {es : List Ev} {n : Int} (h : eventsMay es n = true) : (1 ≤ n ∧ n ≤ 8) ∧ es.length ≤ 1024 ∧ ∀ (k : Nat) e, es[k]? = some e → evMay (es.take k) n e = true := by
  unfold eventsMay at h
  simp only [Bool.and_eq_true, decide_eq_true_eq, List.all_eq_true, List.mem_range] at h
  obtain ⟨⟨h1, h2⟩, h3⟩ := h
  refine ⟨within_iff.1 h1, h2, fun k e he => ?_⟩
  have := h3 k (List.getElem?_eq_some_iff.1 he).1
  rw [he] at this
  exact this
theorem eventsMay_take {es : List Ev} {n : Int} (h : eventsMay es n = true) (k : Nat) : eventsMay (es.take k) n = true := by
  obtain ⟨h1, h2, h3⟩ := eventsMay_at h
  refine eventsMay_yes (within_iff.2 h1) (by rw [List.length_take]; omega) fun j e he => ?_
  rw [List.getElem?_take] at he
  by_cases hj : j < k
  · rw [if_pos hj] at he
    rw [List.take_take, Nat.min_eq_left (by omega)]
    exact h3 j e he
  · rw [if_neg hj] at he; cases he
theorem evMay_in {es : List Ev} {n : Int} {e : Ev} (h : evMay es n e = true) : (0 ≤ e.member ∧ e.member < n) ∧ (e.kind = 1 → (0 ≤ e.donor ∧ e.donor < n) ∧ e.donor ≠ e.member ∧ e.at_ = (manyOf es e.donor : Int)) ∧ (e.kind = 0 ∨ e.kind = 1 ∨ e.kind = 2) ∧ (e.kind = 2 → hyperMay e.rate e.mom = true) := by
  unfold evMay at h
  rw [Bool.and_eq_true, within_iff] at h
  refine ⟨⟨h.1.1, by omega⟩, fun hk => ?_, ?_, fun hk => ?_⟩
  · have h2 := h.2
    rw [if_neg (by omega), if_pos hk] at h2
    simp only [Bool.and_eq_true, within_iff, bne_iff_ne, ne_eq, beq_iff_eq] at h2
    exact ⟨⟨h2.1.1.1.1, by omega⟩, h2.1.1.2, h2.1.2⟩
  · have h2 := h.2
    by_cases h0 : e.kind = 0
    · exact .inl h0
    · by_cases h1 : e.kind = 1
      · exact .inr (.inl h1)
      · by_cases h3 : e.kind = 2
        · exact .inr (.inr h3)
        · rw [if_neg h0, if_neg h1, if_neg h3] at h2; cases h2
  · have h2 := h.2
    rw [if_neg (by omega), if_neg (by omega), if_pos hk] at h2
    simp only [Bool.and_eq_true] at h2
    exact h2.1.2

/-- the histories behind some events -/
structure HistOk (c : Cfg) (es : List Ev) (H : Hist) : Prop where
  len : H.length = c.m.toNat
  row : ∀ m, 0 ≤ m → m < c.m → (rowH H m).length = manyOf es m + 1
theorem rowH_set {H : Hist} {a b : Int} {x : List (Option Chk)} (ha : 0 ≤ a ∧ a.toNat < H.length) (hb : 0 ≤ b) : rowH (H.set a.toNat x) b = if b = a then x else rowH H b := by
  unfold rowH
  rw [List.getD_eq_getElem?_getD, List.getD_eq_getElem?_getD, List.getElem?_set]
  by_cases h : b = a
  · subst h
    rw [if_pos rfl, if_pos ha.2, if_pos rfl]; rfl
  · rw [if_neg (by omega), if_neg h]
theorem startH_row {c : Cfg} {m : Int} (h0 : 0 ≤ m) (h : m < c.m) : rowH (startH c) m = [some (firstKR c m)] := by
  unfold rowH startH
  rw [List.getD_eq_getElem?_getD, List.getElem?_map, List.getElem?_range (by omega)]
  simp only [Option.map_some, Option.getD_some]
  rw [show ((m.toNat : Nat) : Int) = m by omega]
theorem foldH_ok {c : Cfg} {es : List Ev} (hm : eventsMay es c.m = true) : ∀ k, k ≤ es.length → HistOk c (es.take k) (foldH c (es.take k))
  | 0, _ => by
    refine ⟨by simp [foldH, startH], fun m h0 h => ?_⟩
    have : foldH c (es.take 0) = startH c := rfl
    rw [this, startH_row h0 h]; rfl
  | k + 1, hk => by
    obtain ⟨h1, h2⟩ := foldH_ok (c := c) hm k (by omega)
    have he : es[k]? = some (es[k]'(by omega)) := by simp
    generalize es[k]'(by omega) = e at he
    obtain ⟨hmb, _⟩ := evMay_in ((eventsMay_at hm).2.2 k e he)
    rw [foldH_succ he]
    refine ⟨by unfold stepH; rw [List.length_set, h1], fun m h0 h => ?_⟩
    unfold stepH
    rw [rowH_set ⟨hmb.1, by omega⟩ h0, manyOf_succ he]
    by_cases hme : m = e.member
    · subst hme
      rw [if_pos rfl, if_pos rfl, List.length_append, h2 _ hmb.1 hmb.2]; rfl
    · rw [if_neg hme, if_neg (fun h => hme h.symm), h2 m h0 h, Nat.add_zero]
/-- what a member is after an event -/
theorem nowH_step {c : Cfg} {es : List Ev} (hm : eventsMay es c.m = true) {k : Nat} {e : Ev} (he : es[k]? = some e) {m : Int} (h0 : 0 ≤ m) (h : m < c.m) :
    nowH (foldH c (es.take (k + 1))) m = if m = e.member then turnK c e (nowH (foldH c (es.take k)) e.member) (if e.kind = 1 then nowH (foldH c (es.take k)) e.donor else none) else nowH (foldH c (es.take k)) m := by
  have hk := (List.getElem?_eq_some_iff.1 he).1
  obtain ⟨h1, h2⟩ := foldH_ok (c := c) hm k (by omega)
  obtain ⟨hmb, hd, _⟩ := evMay_in ((eventsMay_at hm).2.2 k e he)
  rw [foldH_succ he]
  have hrow := rowH_set (H := foldH c (es.take k)) (a := e.member) (b := m) (x := rowH (foldH c (es.take k)) e.member ++ [turnK c e (nowH (foldH c (es.take k)) e.member) (donorH (foldH c (es.take k)) e)]) ⟨hmb.1, by omega⟩ h0
  have hdon : donorH (foldH c (es.take k)) e = if e.kind = 1 then nowH (foldH c (es.take k)) e.donor else none := by
    unfold donorH
    by_cases hk1 : e.kind = 1
    · rw [if_pos hk1, if_pos hk1]
      obtain ⟨hdi, _, hat⟩ := hd hk1
      unfold nowH
      rw [h2 _ hdi.1 hdi.2, hat]; rfl
    · rw [if_neg hk1, if_neg hk1]
  by_cases hme : m = e.member
  · subst hme
    rw [if_pos rfl] at hrow ⊢
    unfold stepH
    rw [← hdon]
    unfold nowH at hrow ⊢
    rw [hrow, List.length_append, List.length_singleton, Nat.add_sub_cancel, List.getElem?_append_right (Nat.le_refl _), Nat.sub_self]
    rfl
  · rw [if_neg hme] at hrow ⊢
    unfold stepH
    show ((rowH _ m)[(rowH _ m).length - 1]?).join = _
    rw [hrow]; rfl
/-- what was stays -/
theorem rowH_stays {c : Cfg} {es : List Ev} (hm : eventsMay es c.m = true) {m : Int} (h0 : 0 ≤ m) (h : m < c.m) {i : Nat} : ∀ d, i + d ≤ es.length → ∃ l, rowH (foldH c (es.take (i + d))) m = rowH (foldH c (es.take i)) m ++ l
  | 0, _ => ⟨[], by simp⟩
  | d + 1, hd => by
    obtain ⟨l, hl⟩ := rowH_stays hm h0 h (i := i) d (by omega)
    have he : es[i + d]? = some (es[i + d]'(by omega)) := by simp
    generalize es[i + d]'(by omega) = e at he
    obtain ⟨hmb, _⟩ := evMay_in ((eventsMay_at hm).2.2 _ e he)
    obtain ⟨h1, _⟩ := foldH_ok (c := c) hm (i + d) (by omega)
    rw [show i + (d + 1) = i + d + 1 by omega, foldH_succ he]
    unfold stepH
    rw [rowH_set ⟨hmb.1, by omega⟩ h0]
    by_cases hme : m = e.member
    · subst hme
      rw [if_pos rfl, hl, List.append_assoc]
      exact ⟨_, rfl⟩
    · rw [if_neg hme]; exact ⟨l, hl⟩
/-- a member behind some of its events is what it was when it had as many -/
theorem foldK_now {c : Cfg} {es : List Ev} (hm : eventsMay es c.m = true) {id : Int} (h0 : 0 ≤ id) (h : id < c.m) {i : Nat} (hi : i ≤ es.length) : foldK c es id (manyOf (es.take i) id : Nat) = nowH (foldH c (es.take i)) id := by
  obtain ⟨_, h2⟩ := foldH_ok (c := c) hm i hi
  obtain ⟨l, hl⟩ := rowH_stays hm h0 h (i := i) (es.length - i) (by omega)
  rw [show i + (es.length - i) = es.length by omega, foldH_all] at hl
  unfold foldK nowH
  rw [hl, h2 id h0 h, Int.toNat_natCast, List.getElem?_append_left (by rw [h2 id h0 h]; omega)]
  rfl
/-- a beginning of events tells what it tells -/
theorem foldK_take {c : Cfg} {es : List Ev} (hm : eventsMay es c.m = true) {id a : Int} (h0 : 0 ≤ id) (h : id < c.m) {i : Nat} (hi : i ≤ es.length) (ha : 0 ≤ a) (hat : a ≤ (manyOf (es.take i) id : Int)) : foldK c (es.take i) id a = foldK c es id a := by
  obtain ⟨_, h2⟩ := foldH_ok (c := c) hm i hi
  obtain ⟨l, hl⟩ := rowH_stays hm h0 h (i := i) (es.length - i) (by omega)
  rw [show i + (es.length - i) = es.length by omega, foldH_all] at hl
  unfold foldK
  rw [hl, List.getElem?_append_left (by rw [h2 id h0 h]; omega)]
end Go.Proofs.Ytengdmagaeckoaa.VM

/- Layer 21, the plain law: a step of training keeps a checkpoint fit (split out of TrainJ). -/
namespace Go.Proofs.Ytengdmagaeckoaa.VM
open Go
set_option linter.unusedVariables false
set_option linter.unusedSimpArgs false
attribute [local irreducible] wq wqL wqD wqE wqO Th Bk EndR
set_option maxHeartbeats 8000000

theorem train_fits {c : Cfg} {id : Int} {k : Chk} (hf : kFits c k = true) (ht : k.t < 32) : kFits c (trainK c id k) = true := by
  have h1 := kFits_len hf
  unfold kFits memFits at hf ⊢
  rw [Bool.and_eq_true] at hf ⊢
  obtain ⟨hvw, hvv, hlv, hl1, hhy, ht0, _⟩ := chkMay_split hf.1
  have l16 := vecMay_len hvw
  have e1 : (trainK c id k).ws.length = k.ws.length := by simp [trainK, nextL]
  have e2 : (trainK c id k).vs.length = k.ws.length := by simp [trainK, speedL]
  have m1 : vecMay (trainK c id k).ws = true := by
    simp only [vecMay, Bool.and_eq_true, decide_eq_true_eq, List.all_eq_true]
    refine ⟨by omega, fun b hb => ?_⟩
    simp only [trainK, nextL, List.mem_map] at hb
    obtain ⟨j, _, rfl⟩ := hb
    exact plus_may _ _
  have m2 : vecMay (trainK c id k).vs = true := by
    simp only [vecMay, Bool.and_eq_true, decide_eq_true_eq, List.all_eq_true]
    refine ⟨by omega, fun b hb => ?_⟩
    simp only [trainK, speedL, List.mem_map] at hb
    obtain ⟨j, _, rfl⟩ := hb
    exact plus_may _ _
  refine ⟨?_, ?_⟩
  · unfold chkMay alike
    simp only [List.all_cons, List.all_nil, m1, m2, e1, e2, decide_true, Bool.and_true, Bool.true_and]
    have h2 : hyperMay (trainK c id k).r (trainK c id k).m = true := hhy
    have h3 : (trainK c id k).t = k.t + 1 := rfl
    rw [h2, h3]
    simp only [Bool.and_eq_true, decide_eq_true_eq, and_true]
    omega
  · have h2 := hf.2
    unfold fits at h2 ⊢
    rw [Bool.and_eq_true, Bool.and_eq_true] at h2 ⊢
    exact ⟨⟨h2.1.1, m1⟩, by rw [e1]; exact h2.2⟩
end Go.Proofs.Ytengdmagaeckoaa.VM

/- Layer 24, the plain law: what a fold tells. -/
namespace Go.Proofs.Ytengdmagaeckoaa.VM
open Go
set_option linter.unusedVariables false
set_option linter.unusedSimpArgs false
attribute [local irreducible] wq wqL wqD wqE wqO Th Bk EndR
set_option maxHeartbeats 8000000

theorem kFits_span {c : Cfg} {k : Chk} (h : kFits c k = true) : 0 ≤ k.t ∧ k.t ≤ 32 := by
  unfold kFits memFits at h
  rw [Bool.and_eq_true] at h
  obtain ⟨_, _, _, _, _, h0, h1⟩ := chkMay_split h.1
  exact ⟨h0, h1⟩
theorem kFits_hyper {c : Cfg} {k : Chk} {r m : Int} (h : kFits c k = true) (hy : hyperMay r m = true) : kFits c ⟨k.ws, k.vs, r, m, k.t⟩ = true := by
  unfold kFits memFits at h ⊢
  rw [Bool.and_eq_true] at h ⊢
  refine ⟨?_, h.2⟩
  have h1 := h.1
  unfold chkMay at h1 ⊢
  simp only [Bool.and_eq_true, decide_eq_true_eq] at h1 ⊢
  exact ⟨⟨⟨h1.1.1.1, hy⟩, h1.1.2⟩, h1.2⟩
/-- a checkpoint that was not refused is fit -/
def Good (c : Cfg) (k : Option Chk) : Prop := ∀ x, k = some x → kFits c x = true
theorem good_none (c : Cfg) : Good c none := fun x h => by cases h
theorem good_turn {c : Cfg} (hc : cfgMay c = true) {e : Ev} (hm : 0 ≤ e.member ∧ e.member < c.m) (hy : e.kind = 2 → hyperMay e.rate e.mom = true) (hk : e.kind = 0 ∨ e.kind = 1 ∨ e.kind = 2) {k d : Option Chk} (h1 : Good c k) (h2 : Good c d) : Good c (turnK c e k d) := by
  intro x hx
  unfold turnK at hx
  cases k with
  | none => cases hx
  | some k =>
    have hf := h1 k rfl
    have hsp := kFits_span hf
    obtain ⟨_, _, _, htot, _⟩ := cfgMay_split hc
    simp only at hx
    by_cases hk0 : e.kind = 0
    · rw [if_pos hk0] at hx
      by_cases ht : k.t < c.total
      · rw [trainR_go hc hm hf ht] at hx
        simp only [if_true, Option.some.injEq] at hx
        rw [← hx]
        exact train_fits hf (by omega)
      · rw [trainR_done hc hm hf (by omega)] at hx
        simp at hx
    · rw [if_neg hk0] at hx
      by_cases hk1 : e.kind = 1
      · rw [if_pos hk1] at hx
        cases d with
        | none => cases hx
        | some d =>
          simp only [Option.some.injEq] at hx
          rw [← hx]
          exact kFits_t (k := d) (h2 d rfl) hsp
      · rw [if_neg hk1] at hx
        simp only [Option.some.injEq] at hx
        rw [← hx]
        exact kFits_hyper hf (hy (by omega))
theorem good_join {c : Cfg} {l : List (Option Chk)} (h : ∀ x ∈ l, Good c x) (i : Nat) : Good c (l[i]?).join := by
  cases hx : l[i]? with
  | none => exact good_none c
  | some x => exact h x (List.mem_of_getElem? hx)
theorem foldH_good {c : Cfg} (hc : cfgMay c = true) {es : List Ev} (hm : eventsMay es c.m = true) : ∀ k, k ≤ es.length → ∀ m, 0 ≤ m → m < c.m → ∀ x ∈ rowH (foldH c (es.take k)) m, Good c x
  | 0, _ => fun m h0 h x hx => by
    have : foldH c (es.take 0) = startH c := rfl
    rw [this, startH_row h0 h, List.mem_singleton] at hx
    subst hx
    intro y hy
    cases hy
    have hok : firstOk c m = true := by
      obtain ⟨hm2, _⟩ := cfgMay_split hc
      unfold firstOk
      rw [hc, wrap_m hm2, within_iff.2 ⟨h0, by omega⟩]; rfl
    unfold firstKR
    rw [if_pos hok]
    exact firstK_fits hc m
  | k + 1, hk => fun m h0 h x hx => by
    have ih := foldH_good hc hm k (by omega)
    have he : es[k]? = some (es[k]'(by omega)) := by simp
    generalize es[k]'(by omega) = e at he
    obtain ⟨hmb, hd, hkd, hy⟩ := evMay_in ((eventsMay_at hm).2.2 k e he)
    obtain ⟨h1, _⟩ := foldH_ok (c := c) hm k (by omega)
    rw [foldH_succ he] at hx
    unfold stepH at hx
    rw [rowH_set ⟨hmb.1, by omega⟩ h0] at hx
    by_cases hme : m = e.member
    · rw [if_pos hme, List.mem_append, List.mem_singleton] at hx
      rcases hx with hx | rfl
      · exact ih _ hmb.1 hmb.2 x hx
      · refine good_turn hc hmb hy hkd (good_join (ih _ hmb.1 hmb.2) _) ?_
        unfold donorH
        by_cases hk1 : e.kind = 1
        · rw [if_pos hk1]
          obtain ⟨hdi, _⟩ := hd hk1
          exact good_join (ih _ hdi.1 hdi.2) _
        · rw [if_neg hk1]; exact good_none c
    · rw [if_neg hme] at hx
      exact ih m h0 h x hx
theorem nowH_good {c : Cfg} (hc : cfgMay c = true) {es : List Ev} (hm : eventsMay es c.m = true) {k : Nat} (hk : k ≤ es.length) {m : Int} (h0 : 0 ≤ m) (h : m < c.m) : Good c (nowH (foldH c (es.take k)) m) :=
  good_join (foldH_good hc hm k hk m h0 h) _
theorem foldK_good {c : Cfg} (hc : cfgMay c = true) {es : List Ev} (hm : eventsMay es c.m = true) {m : Int} (h0 : 0 ≤ m) (h : m < c.m) (a : Int) : Good c (foldK c es m a) := by
  have := foldH_good hc hm es.length (Nat.le_refl _) m h0 h
  rw [foldH_all] at this
  exact good_join this _

theorem foldOk_split {c : Cfg} {es : List Ev} {id a : Int} (h : foldOk c es id a = true) : cfgMay c = true ∧ eventsMay es c.m = true ∧ (0 ≤ id ∧ id < c.m) ∧ 0 ≤ a ∧ a ≤ (manyOf es id : Int) := by
  unfold foldOk at h
  simp only [Bool.and_eq_true, decide_eq_true_eq] at h
  obtain ⟨⟨⟨⟨h1, h2⟩, h3⟩, h4⟩, h5⟩ := h
  obtain ⟨hm2, _⟩ := cfgMay_split h1
  rw [wrap_m hm2, within_iff] at h3
  exact ⟨h1, h2, ⟨h3.1, by omega⟩, h4, h5⟩
theorem foldOk_of {c : Cfg} {es : List Ev} {id a : Int} (h1 : cfgMay c = true) (h2 : eventsMay es c.m = true) (h3 : 0 ≤ id ∧ id < c.m) (h4 : 0 ≤ a) (h5 : a ≤ (manyOf es id : Int)) : foldOk c es id a = true := by
  obtain ⟨hm2, _⟩ := cfgMay_split h1
  unfold foldOk
  rw [h1, h2, wrap_m hm2, within_iff.2 ⟨h3.1, by omega⟩, decide_eq_true h4, decide_eq_true h5]; rfl
theorem foldR_some {c : Cfg} {es : List Ev} {id a : Int} (h : foldOk c es id a = true) {k : Chk} (hk : foldK c es id a = some k) : foldR c es id a = (k, 0) := by
  unfold foldR
  rw [if_pos h, hk]
theorem foldR_none {c : Cfg} {es : List Ev} {id a : Int} (hk : foldK c es id a = none) : foldR c es id a = (noChk, 2400) := by
  unfold foldR
  split
  · rw [hk]
  · rfl
theorem foldR_no {c : Cfg} {es : List Ev} {id a : Int} (h : foldOk c es id a = false) : foldR c es id a = (noChk, 2400) := by
  unfold foldR
  rw [h, if_neg (by decide)]
/-- the two ends of a fold -/
theorem foldR_cases (c : Cfg) (es : List Ev) (id a : Int) : (∃ k, foldOk c es id a = true ∧ foldK c es id a = some k ∧ kFits c k = true ∧ foldR c es id a = (k, 0)) ∨ foldR c es id a = (noChk, 2400) := by
  cases h : foldOk c es id a with
  | false => exact .inr (foldR_no h)
  | true =>
    cases hk : foldK c es id a with
    | none => exact .inr (foldR_none hk)
    | some k =>
      obtain ⟨h1, h2, h3, h4, h5⟩ := foldOk_split h
      exact .inl ⟨k, rfl, rfl, foldK_good h1 h2 h3.1 h3.2 a k hk, foldR_some h hk⟩
theorem foldR_fit (c : Cfg) (es : List Ev) (id a : Int) : (foldR c es id a).1.Fit := by
  rcases foldR_cases c es id a with ⟨k, _, _, hf, h⟩ | h
  · rw [h]; exact kFits_fit hf
  · rw [h]; exact ⟨by simp, by simp⟩
/-- behind none of its events a member is as it is at first -/
theorem foldK_zero {c : Cfg} {es : List Ev} (hm : eventsMay es c.m = true) {id : Int} (h0 : 0 ≤ id) (h : id < c.m) : foldK c es id 0 = some (firstKR c id) := by
  have h1 := foldK_now (c := c) hm h0 h (i := 0) (Nat.zero_le _)
  have h2 : manyOf (es.take 0) id = 0 := rfl
  rw [h2] at h1
  have h3 : foldH c (es.take 0) = startH c := rfl
  rw [h3] at h1
  show foldK c es id ((0 : Nat) : Int) = _
  rw [h1]
  unfold nowH
  rw [startH_row h0 h]; rfl
/-- events behind the last one that counts turn nothing -/
theorem fold_more {c : Cfg} {es : List Ev} {id a : Int} {i : Nat} (hi : i ≤ es.length) (hm : eventsMay es c.m = true) (h : foldOk c (es.take i) id a = true) : foldR c es id a = foldR c (es.take i) id a := by
  obtain ⟨h1, h2, h3, h4, h5⟩ := foldOk_split h
  have hle : manyOf (es.take i) id ≤ manyOf es id := by
    unfold manyOf
    exact (List.Sublist.filter _ (List.take_sublist i es)).length_le
  have hk := foldK_take (c := c) hm h3.1 h3.2 hi h4 h5
  have h' := foldOk_of h1 hm h3 h4 (by omega)
  unfold foldR
  rw [if_pos h, if_pos h', hk]
end Go.Proofs.Ytengdmagaeckoaa.VM

/- Layer 24: the members' paths in memory; each one's weights are one part. -/
namespace Go.Proofs.Ytengdmagaeckoaa.VM
open Go
set_option linter.unusedVariables false
set_option linter.unusedSimpArgs false
attribute [local irreducible] wq wqL wqD wqE wqO Th Bk EndR
set_option maxHeartbeats 8000000

/-- a path: its checkpoint, how many events, was one refused -/
structure Pa where
  w : V
  v : V
  k : Chk
  n : Int
  bad : Bool
abbrev paC (p : Pa) : List V := [p.w, p.v, .int .i64 p.k.r, .int .i64 p.k.m, .int .i64 p.k.t, .int .i64 p.n, .bool p.bad]
def pathC (cs : List V) (p : Pa) : Prop := cs = paC p
def kPart (w v : V) (ws vs : List Int) : Res := .ro (pack [.own 1 intC w ws, .own 1 intC v vs])
def paPart (p : Pa) : Res := kPart p.w p.v p.k.ws p.k.vs
def paths (ps : List Pa) : List Res := ps.map paPart
theorem kPart_at {H : Heap} {w v : V} {k : Chk} (h : (kPart w v k.ws k.vs).ok H) : KAt H w v k := by
  have hm := pack_mem (show (pack [.own 1 intC w k.ws, .own 1 intC v k.vs]).p H from h)
  exact ⟨hm.sl .here, hm.sl (.there .here)⟩
theorem paths_at {H : Heap} {ps : List Pa} (h : (pack (paths ps)).p H) {i : Nat} {p : Pa} (hp : ps[i]? = some p) : KAt H p.w p.v p.k := by
  have hm := pack_mem h
  have hr : (paths ps)[i]? = some (paPart p) := by unfold paths; rw [List.getElem?_map, hp]; rfl
  exact kPart_at (hm.get (Has.nth hr))
theorem Mem.pack2 {B H : Heap} {r s : Res} {M : List Res} (h : Mem B H (r :: s :: M)) : Mem B H (.ro (pack [r, s]) :: M) := Mem.packed (L := [r, s]) h
theorem Mem.unpack2 {B H : Heap} {r s : Res} {M : List Res} (h : Mem B H (.ro (pack [r, s]) :: M)) : Mem B H (r :: s :: M) := Mem.unpacked (L := [r, s]) h
/-- one of many parts is another -/
theorem Mem.repack {B H : Heap} {L M : List Res} {r : Res} (h : Mem B H (.ro (pack L) :: r :: M)) (i : Nat) (hi : i < L.length) : Mem B H (.ro (pack (L.set i r)) :: M) := by
  refine Mem.packed ?_
  have h1 := h.unpacked
  have e : L = L.take i ++ L[i] :: L.drop (i + 1) := by rw [← List.drop_eq_getElem_cons hi, List.take_append_drop]
  have e2 : L.set i r = L.take i ++ r :: L.drop (i + 1) := by rw [List.set_eq_take_append_cons_drop, if_pos hi]
  rw [e2]
  rw [e] at h1
  have h2 : Mem B H (L.take i ++ (L.drop (i + 1) ++ r :: M)) := h1.sub (by
    rw [List.append_assoc]
    exact List.Sublist.append (List.Sublist.refl _) (List.sublist_cons_self _ _))
  refine h2.perm ?_
  rw [List.append_assoc]
  refine List.Perm.append (.refl _) ?_
  exact (List.perm_middle).trans (.refl _)
theorem Mem.newPath {B H : Heap} {ps : List Pa} {M : List Res} {p : Pa} {i : Nat} (h : Mem B H (.own 1 intC p.w p.k.ws :: .own 1 intC p.v p.k.vs :: .ro (pack (paths ps)) :: M)) (hi : i < ps.length) : Mem B H (.ro (pack (paths (ps.set i p))) :: M) := by
  have h1 := h.pack2.swap
  have h2 := Mem.repack h1 i (by unfold paths; rw [List.length_map]; exact hi)
  have e : (paths ps).set i (.ro (pack [.own 1 intC p.w p.k.ws, .own 1 intC p.v p.k.vs])) = paths (ps.set i p) := by
    unfold paths; rw [List.map_set]; rfl
  rw [e] at h2
  exact h2
theorem Mem.samePath {B H : Heap} {ps : List Pa} {M : List Res} {p q : Pa} {i : Nat} (h : Mem B H (.ro (pack (paths ps)) :: M)) (hp : ps[i]? = some p) (e1 : q.w = p.w) (e2 : q.v = p.v) (e3 : q.k.ws = p.k.ws) (e4 : q.k.vs = p.k.vs) : Mem B H (.ro (pack (paths (ps.set i q))) :: M) := by
  have e : paths (ps.set i q) = paths ps := by
    unfold paths
    rw [List.map_set]
    have : paPart q = paPart p := by unfold paPart; rw [e1, e2, e3, e4]
    rw [this]
    apply List.ext_getElem?
    intro j
    rw [List.getElem?_set]
    by_cases hj : i = j
    · subst hj
      rw [List.getElem?_map, hp]
      have := (List.getElem?_eq_some_iff.1 hp).1
      simp [this]
    · simp [hj]
  rw [e]
  exact h

/-- what the paths are behind some events -/
structure PathsOk (c : Cfg) (es : List Ev) (k : Nat) (ps : List Pa) : Prop where
  len : ps.length = c.m.toNat
  n : ∀ (i : Nat) p, ps[i]? = some p → p.n = (manyOf (es.take k) i : Int)
  fits : ∀ (i : Nat) p, ps[i]? = some p → kFits c p.k = true
  now : ∀ (i : Nat) p, ps[i]? = some p → nowH (foldH c (es.take k)) i = if p.bad = true then none else some p.k
/-- what an event makes of a path, of its donor's -/
def tookK (c : Cfg) (e : Ev) (p : Pa) (q : Option Pa) : Chk × Bool :=
  if e.kind = 0 then (if (p.bad || (trainR c e.member p.k).2 != 0) = true then (p.k, true) else ((trainR c e.member p.k).1, false))
  else if e.kind = 1 then (match q with
    | none => (p.k, p.bad)
    | some q => (⟨q.k.ws, q.k.vs, q.k.r, q.k.m, p.k.t⟩, p.bad || q.bad))
  else (⟨p.k.ws, p.k.vs, e.rate, e.mom, p.k.t⟩, p.bad)
theorem took_ok {c : Cfg} (hc : cfgMay c = true) {es : List Ev} (hm : eventsMay es c.m = true) {k : Nat} {e : Ev} (he : es[k]? = some e) {ps : List Pa} (h : PathsOk c es k ps) {p p' : Pa} (hp : ps[e.member.toNat]? = some p)
    (h1 : (p'.k, p'.bad) = tookK c e p (if e.kind = 1 then ps[e.donor.toNat]? else none)) (h2 : p'.n = p.n + 1) : PathsOk c es (k + 1) (ps.set e.member.toNat p') := by
  obtain ⟨hl, hn, hf, hw⟩ := h
  have hk := (List.getElem?_eq_some_iff.1 he).1
  obtain ⟨hmb, hd, hkd, hy⟩ := evMay_in ((eventsMay_at hm).2.2 k e he)
  have hmn : ((e.member.toNat : Nat) : Int) = e.member := by omega
  have hi := (List.getElem?_eq_some_iff.1 hp).1
  have get : ∀ (i : Nat) q, (ps.set e.member.toNat p')[i]? = some q → (i = e.member.toNat ∧ q = p') ∨ (i ≠ e.member.toNat ∧ ps[i]? = some q) := by
    intro i q hq
    rw [List.getElem?_set] at hq
    by_cases hie : e.member.toNat = i
    · subst hie
      rw [if_pos rfl, if_pos hi] at hq
      exact .inl ⟨rfl, (Option.some.inj hq).symm⟩
    · rw [if_neg hie] at hq
      exact .inr ⟨fun h => hie h.symm, hq⟩
  have hpf := hf _ _ hp
  have hpw := hw _ _ hp
  rw [hmn] at hpw
  obtain ⟨_, _, _, htot, _⟩ := cfgMay_split hc
  obtain ⟨dq, hdq⟩ : ∃ dq, (if e.kind = 1 then ps[e.donor.toNat]? else none) = dq := ⟨_, rfl⟩
  rw [hdq] at h1
  have hdon : e.kind = 1 → ∃ q, dq = some q ∧ kFits c q.k = true ∧ nowH (foldH c (es.take k)) e.donor = if q.bad = true then none else some q.k := fun hk1 => by
    obtain ⟨hdi, _, _⟩ := hd hk1
    have hdn : ((e.donor.toNat : Nat) : Int) = e.donor := by omega
    obtain ⟨q, hq⟩ : ∃ q, ps[e.donor.toNat]? = some q := ⟨ps[e.donor.toNat]'(by omega), by simp⟩
    rw [if_pos hk1] at hdq
    have := hw _ _ hq
    rw [hdn] at this
    exact ⟨q, by rw [← hdq, hq], hf _ _ hq, this⟩
  have key : kFits c p'.k = true ∧ turnK c e (if p.bad = true then none else some p.k) (if e.kind = 1 then nowH (foldH c (es.take k)) e.donor else none) = if p'.bad = true then none else some p'.k := by
    obtain ⟨pw, pv, pk, pn, pb⟩ := p
    obtain ⟨w', v', k', n', b'⟩ := p'
    simp only at h1 hpf hpw ⊢
    unfold tookK at h1
    by_cases hk0 : e.kind = 0
    · rw [if_pos hk0] at h1
      rw [if_neg (show ¬ e.kind = 1 by omega)]
      unfold turnK
      by_cases ht : pk.t < c.total
      · rw [trainR_go hc hmb hpf ht] at h1
        simp only [bne_self_eq_false, Bool.or_false] at h1
        have hgo := trainR_go hc hmb hpf ht
        cases pb with
        | true => simp at h1; obtain ⟨rfl, rfl⟩ := h1; exact ⟨hpf, by simp⟩
        | false =>
          simp at h1
          obtain ⟨rfl, rfl⟩ := h1
          refine ⟨train_fits hpf (by omega), ?_⟩
          simp [hk0, hgo]
      · rw [trainR_done hc hmb hpf (by omega)] at h1
        have hgo := trainR_done hc hmb hpf (by omega)
        simp at h1
        obtain ⟨rfl, rfl⟩ := h1
        refine ⟨hpf, ?_⟩
        cases pb <;> simp [hk0, hgo]
    · rw [if_neg hk0] at h1
      by_cases hk1 : e.kind = 1
      · obtain ⟨q, rfl, hqf, hqn⟩ := hdon hk1
        rw [if_pos hk1] at h1
        simp only [Prod.mk.injEq] at h1
        obtain ⟨rfl, rfl⟩ := h1
        rw [if_pos hk1, hqn]
        refine ⟨kFits_t (k := q.k) hqf (kFits_span hpf), ?_⟩
        unfold turnK
        cases pb <;> cases q.bad <;> simp [hk0, hk1]
      · rw [if_neg hk1] at h1
        simp only [Prod.mk.injEq] at h1
        obtain ⟨rfl, rfl⟩ := h1
        rw [if_neg hk1]
        refine ⟨kFits_hyper hpf (hy (by omega)), ?_⟩
        unfold turnK
        cases b' <;> simp [hk0, hk1]
  refine ⟨by rw [List.length_set]; exact hl, fun i q hq => ?_, fun i q hq => ?_, fun i q hq => ?_⟩
  · rw [manyOf_succ he]
    rcases get i q hq with ⟨rfl, rfl⟩ | ⟨hne, hq⟩
    · rw [h2, hn _ _ hp, hmn, if_pos rfl]; omega
    · rw [if_neg (by omega), hn _ _ hq]; omega
  · rcases get i q hq with ⟨rfl, rfl⟩ | ⟨hne, hq⟩
    · exact key.1
    · exact hf _ _ hq
  · have hil : i < c.m.toNat := by have := (List.getElem?_eq_some_iff.1 hq).1; rw [List.length_set] at this; omega
    rw [nowH_step hm he (by omega) (by omega)]
    rcases get i q hq with ⟨rfl, rfl⟩ | ⟨hne, hq⟩
    · rw [if_pos hmn, hpw]
      exact key.2
    · rw [if_neg (by omega)]
      exact hw _ _ hq
theorem paths_start {c : Cfg} (hc : cfgMay c = true) {es : List Ev} {ps : List Pa} (hl : ps.length = c.m.toNat) (h : ∀ (i : Nat) p, ps[i]? = some p → p.k = firstKR c i ∧ p.n = 0 ∧ p.bad = false) : PathsOk c es 0 ps := by
  refine ⟨hl, fun i p hp => by rw [(h i p hp).2.1]; rfl, fun i p hp => ?_, fun i p hp => ?_⟩
  · have hi := (List.getElem?_eq_some_iff.1 hp).1
    rw [(h i p hp).1]
    obtain ⟨hm2, _⟩ := cfgMay_split hc
    have hok : firstOk c i = true := by
      unfold firstOk
      rw [hc, wrap_m hm2, within_iff.2 ⟨by omega, by omega⟩]; rfl
    unfold firstKR
    rw [if_pos hok]
    exact firstK_fits hc _
  · have hi := (List.getElem?_eq_some_iff.1 hp).1
    obtain ⟨h1, _, h3⟩ := h i p hp
    have e : foldH c (es.take 0) = startH c := rfl
    rw [e]
    unfold nowH
    rw [startH_row (by omega) (by omega), h1, h3]; rfl
end Go.Proofs.Ytengdmagaeckoaa.VM

/- Layer 24: the program's walk: an event is taken. -/
namespace Go.Proofs.Ytengdmagaeckoaa.VM
open Go
set_option linter.unusedVariables false
set_option linter.unusedSimpArgs false
attribute [local irreducible] wq wqL wqD wqE wqO Th Bk EndR
set_option maxHeartbeats 8000000

theorem cloneInts_ (H : Heap) (v : V) (xs : List Int) (hx : Sl 1 intC H v xs) (hl : xs.length * 8 ≤ 2 ^ 47) : ∃ w H', Call Try.prog 76 [v] H w H' ∧ Mem H H' [.own 1 intC w xs] := by
  refine call_mem fit mixed Try.func76 rfl rfl rfl (by kernel_rfl) fun hM => ?_
  rcases hx with ⟨rfl, rfl⟩ | ⟨b, off, cap, t, cs, wr, rfl, h1, h2, h3, h4⟩
  · refine goM ?_
    exact end_1 (by first | exact .inl rfl | exact .inr rfl) (hM.nil 1 intC)
  · have hx : Sl 1 intC H (.slc b off xs.length cap t 1) xs := .inr ⟨b, off, cap, t, cs, wr, rfl, h1, h2, h3, h4⟩
    clear h1 h2 h3 h4
    refine goM ?_
    refine l_sliceM intC [] [] T35 rfl T3 rfl (cells_ints []) (by decide) fun e1 H3 hM => ?_
    refine goM ?_
    refine l_appM (hx.mono hM.pre) (xs := []) (hb := by simp only [List.length_nil]; omega) fun a H4 hM => ?_
    refine goM ?_
    exact end_1 (by first | exact .inl rfl | exact .inr rfl) hM
theorem checkCopy_ (H : Heap) (w v : V) (k : Chk) (hk : KAt H w v k) (hf : k.Fit) : ∃ u H', Call Try.prog 40 [.agg (kC w v k)] H u H' ∧ ∃ a b, u = .agg (kC a b k) ∧ Mem H H' [.own 1 intC b k.vs, .own 1 intC a k.ws] := by
  have l1 := hf.ws
  have l2 := hf.vs
  have s1 := hk.ws.cells
  have s2 := hk.vs.cells
  refine call_mem fit mixed Try.func40 rfl rfl rfl (by kernel_rfl) fun hM => ?_
  refine wq_seq (wq_line ?_)
  refine l_boxM T37 fun b1 H1 hM => ?_
  refine l_newM (cs := zeroChk) T37 rfl fun b2 H2 hM => ?_
  refine goM ?_
  obtain ⟨a, H3, c1, m1⟩ := cloneInts_ H2 w k.ws (hk.ws.mono hM.pre) (by omega)
  refine d_callG c1 (.inl m1.pre) ?_
  replace hM := hM.call1 m1
  have s3 := (hM.sl .here).cells
  refine goM ?_
  obtain ⟨b, H4, c2, m2⟩ := cloneInts_ H3 v k.vs (hk.vs.mono hM.pre) (by omega)
  refine d_callG c2 (.inl m2.pre) ?_
  replace hM := hM.call1 m2
  have s4 := (hM.sl .here).cells
  clear c1 c2 m1 m2
  refine goM ?_
  refine d_putM T35 fun H5 hM => ?_
  refine goM ?_
  refine d_putM T35 fun H6 hM => ?_
  refine goM ?_
  refine l_putM T37 fun H7 hM => ?_
  refine goM ?_
  exact end_1 (by first | exact .inl rfl | exact .inr rfl) ⟨a, b, rfl, hM.subG⟩

theorem loadN_in {H : Heap} {b o sz : Nat} {cs : List V} (h : H.loadN b o sz = some cs) {j n : Nat} (hj : j + n ≤ sz) : H.loadN b (o + j) n = some ((cs.drop j).take n) := by
  unfold Heap.loadN at h ⊢
  cases hb : H[b]? with
  | none => rw [hb] at h; cases h
  | some k =>
    rw [hb] at h
    cases k with
    | row ds w =>
      simp only at h ⊢
      split at h
      · rename_i hl
        cases h
        rw [if_pos (by omega), List.drop_take, List.take_take, List.drop_drop, Nat.min_eq_left (by omega)]
      · cases h
    | _ => cases h
abbrev foldC (c : Cfg) (rv u : V) : List V := [.int .i64 c.m, .int .i64 c.i, .int .i64 c.h, rv, .int .i64 c.seed, .int .i64 c.total, .int .i64 c.interval, .int .i64 c.cutn, .bool c.pert, u]
theorem path_at {B H : Heap} {L : List Res} {f : Res → List Res} {u : V} {ps : List Pa} (hM : Mem B H L) (hh : Has L (.own 7 pathC u ps) f) {k : Nat} {p : Pa} (hp : ps[k]? = some p) :
    ∃ b o, idxV T 61 u (k : Int) = some (.ptr b o) ∧ loadV T 37 H b o = some (.agg (kC p.w p.v p.k)) ∧ loadV T 3 H b (o + 5) = some (.int .i64 p.n) ∧ loadV T 4 H b (o + 6) = some (.bool p.bad) := by
  obtain ⟨b, o, cs, hi, hc, _, hlo, hlc⟩ := (hM.sl hh).get T61 rfl T67 rfl hp
  rw [hc] at hlo hlc
  refine ⟨b, o, hi, loadV_agg T37 rfl ?_, loadV_one T3 rfl (hlc 5 _ rfl), loadV_one T4 rfl (hlc 6 _ rfl)⟩
  exact loadN_in (j := 0) (n := 5) hlo (by decide)
theorem path_put {B H : Heap} {L : List Res} {f : Res → List Res} {u : V} {ps : List Pa} (hM : Mem B H L) (hh : Has L (.own 7 pathC u ps) f) {k : Nat} {p : Pa} (hp : ps[k]? = some p) {b o : Nat} (hi : idxV T 61 u (k : Int) = some (.ptr b o))
    (off : Nat) {te : Nat} {it : TI} (hTe : T te = some it) (hoff : off + it.size ≤ 7) {w : V} {p' : Pa} (hw : w.isTup = false) (hl : w.cells.length = it.size) (hs : setL (paC p) off w.cells = paC p') :
    ∃ H', storeV T te H b (o + off) w = some H' ∧ Mem B H' (f (.own 7 pathC u (ps.set k p'))) := by
  obtain ⟨b', hix, hput⟩ := hM.elemAt hh T61 rfl T67 rfl hp off hTe hoff
  rw [hi] at hix
  cases hix
  exact hput w p' hw hl fun cs hl hR => by rw [hR]; exact hs

theorem take24_ (B H : Heap) (L : List Res) (c : Cfg) (rv u : V) (ps : List Pa) (fb eb eo : Nat) (e : Ev) (p : Pa)
    (hM : Mem B H (.box fb (foldC c rv u) :: .own 7 pathC u ps :: .ro (pack (paths ps)) :: L)) (hr : Rows B rv c.rows) (cf : c.Fit) (hpf : ∀ (i : Nat) p, ps[i]? = some p → p.k.Fit)
    (e0 : loadV T 3 H eb eo = some (.int .i64 e.kind)) (e1 : loadV T 3 H eb (eo + 1) = some (.int .i64 e.member)) (e2 : loadV T 3 H eb (eo + 2) = some (.int .i64 e.donor)) (e4 : loadV T 30 H eb (eo + 4) = some (.agg [.int .i64 e.rate, .int .i64 e.mom]))
    (hm0 : 0 ≤ e.member) (hp : ps[e.member.toNat]? = some p) (hd : e.kind = 1 → ∃ q, 0 ≤ e.donor ∧ ps[e.donor.toNat]? = some q) (hn : 0 ≤ p.n ∧ p.n ≤ 2000) :
    ∃ w H', Call Try.prog 20 [.ptr fb 0, .ptr eb eo] H w H' ∧ w = .tup [] ∧ ∃ p', (p'.k, p'.bad) = tookK c e p (if e.kind = 1 then ps[e.donor.toNat]? else none) ∧ p'.n = p.n + 1 ∧ Mem B H' (.box fb (foldC c rv u) :: .own 7 pathC u (ps.set e.member.toNat p') :: .ro (pack (paths (ps.set e.member.toNat p'))) :: L) := by
  obtain ⟨kd, mb, dn, at_, ra, mo⟩ := e
  simp only at e0 e1 e2 e4 hm0 hp hd ⊢
  obtain ⟨m, rfl⟩ : ∃ m : Nat, mb = m := ⟨mb.toNat, by omega⟩
  rw [Int.toNat_natCast] at hp ⊢
  have hml := (List.getElem?_eq_some_iff.1 hp).1
  have s1 := (hM.sl (.there .here)).cells
  have hk := paths_at (hM.fact (.there (.there .here))) hp
  have kf := hpf _ _ hp
  have t1 := hk.ws.cells
  have t2 := hk.vs.cells
  obtain ⟨b, o, hi, l0, l5, l6⟩ := path_at hM (.there .here) hp
  obtain ⟨pw, pv, pk, pn, pb⟩ := p
  simp only at hk kf hn l0 l5 l6 t1 t2 ⊢
  have wn : IntKind.i64.wrap (pn + 1) = pn + 1 := wrap_i64 (by omega) (by omega)
  clear hn hm0
  by_cases h0 : kd = 0
  · subst h0
    obtain ⟨a, b2, H1, c1, m1⟩ := one_ H c rv pw pv m pk (hr.mono hM.pre) hk cf kf
    have tk : tookK c ⟨0, (m : Int), dn, at_, ra, mo⟩ ⟨pw, pv, pk, pn, pb⟩ none = if (pb || (trainR c m pk).2 != 0) = true then (pk, true) else ((trainR c m pk).1, false) := rfl
    rw [if_neg (by decide), tk]
    clear tk hd
    generalize trainR c m pk = o1 at *
    obtain ⟨k1, f1⟩ := o1
    simp only at c1 m1 ⊢
    refine call_turn fit mixed hM Try.func20 rfl rfl rfl (by kernel_rfl) fun _ => ?_
    refine goM ?_
    refine d_callG c1 (.inl m1.pre) ?_
    have s3 := (m1.sl .here).cells
    have s4 := (m1.sl (.there .here)).cells
    replace hM := hM.call2 m1
    clear c1 m1 l0 l5 l6 hk
    refine goM ?_
    refine d_newM (cs := zeroChk) T37 rfl fun b5 H2 hM => ?_
    refine d_putM T37 fun H3 hM => ?_
    obtain ⟨_, _, hi', l0, l5, l6⟩ := path_at hM (by (repeat (first | exact Has.here | apply Has.there))) hp
    rw [hi] at hi'
    cases hi'
    simp only at l0 l5 l6
    have done1 : ∀ bd : Bool, ∃ H4, storeV T 4 H3 b (o + 6) (.bool bd) = some H4 ∧ Mem B H4 (.box b5 (kC a b2 k1) :: .own 1 intC a k1.ws :: .own 1 intC b2 k1.vs :: .box fb (foldC c rv u) :: .own 7 pathC u (ps.set m ⟨pw, pv, pk, pn, bd⟩) :: .ro (pack (paths ps)) :: L) := fun bd =>
      path_put hM (.there (.there (.there (.there .here)))) hp hi 6 T4 (by decide) rfl rfl rfl
    have bad : ∀ H4 (hM4 : Mem B H4 (.box b5 (kC a b2 k1) :: .own 1 intC a k1.ws :: .own 1 intC b2 k1.vs :: .box fb (foldC c rv u) :: .own 7 pathC u (ps.set m ⟨pw, pv, pk, pn, true⟩) :: .ro (pack (paths ps)) :: L)), ∃ H5, loadV T 4 H4 b (o + 6) = some (.bool true) ∧ loadV T 3 H4 b (o + 5) = some (.int .i64 pn) ∧ storeV T 3 H4 b (o + 5) (.int .i64 (pn + 1)) = some H5 ∧ Mem B H5 (.box fb (foldC c rv u) :: .own 7 pathC u (ps.set m ⟨pw, pv, pk, pn + 1, true⟩) :: .ro (pack (paths (ps.set m ⟨pw, pv, pk, pn + 1, true⟩))) :: L) := fun H4 hM4 => by
      have hp4 : (ps.set m ⟨pw, pv, pk, pn, true⟩)[m]? = some ⟨pw, pv, pk, pn, true⟩ := List.getElem?_set_self hml
      obtain ⟨_, _, hi', _, l5, l6⟩ := path_at hM4 (.there (.there (.there (.there .here)))) hp4
      rw [hi] at hi'
      cases hi'
      obtain ⟨H5, st, hM5⟩ := path_put hM4 (.there (.there (.there (.there .here)))) hp4 hi 5 T3 (by decide) (w := .int .i64 (pn + 1)) (p' := ⟨pw, pv, pk, pn + 1, true⟩) rfl rfl rfl
      rw [List.set_set] at hM5
      have h6 := (hM5.front (r := .ro (pack (paths ps))) (by (repeat (first | exact Take.here | apply Take.there)))).samePath (q := ⟨pw, pv, pk, pn + 1, true⟩) hp rfl rfl rfl rfl
      have h7 := (h6.front (r := .own 7 pathC u (ps.set m ⟨pw, pv, pk, pn + 1, true⟩)) (by (repeat (first | exact Take.here | apply Take.there)))).front (r := .box fb (foldC c rv u)) (by (repeat (first | exact Take.here | apply Take.there)))
      exact ⟨H5, l6, l5, st, h7.sub (by (repeat (first | exact List.Sublist.slnil | exact List.Sublist.refl _ | refine List.Sublist.cons_cons _ ?_ | refine List.Sublist.cons _ ?_)))⟩
    obtain ⟨q, hq⟩ : ∃ q, (f1 != 0) = q := ⟨_, rfl⟩
    cases pb with
    | true =>
      obtain ⟨H4, st4, hM4⟩ := done1 true
      obtain ⟨H5, l6', l5', st5, hM5⟩ := bad H4 hM4
      clear done1 bad
      refine goM ?_
      refine l_stM st4 ?_
      clear hM l0 l5 l6
      have hM := hM4
      refine goM ?_
      refine l_stM st5 ?_
      refine goM ?_
      refine end_normal (by simp only [resRf, resRs, resR]; first | done | rfl) ⟨rfl, ⟨pw, pv, pk, pn + 1, true⟩, rfl, rfl, hM5⟩
    | false =>
      cases q with
      | true =>
        obtain ⟨H4, st4, hM4⟩ := done1 true
        obtain ⟨H5, l6', l5', st5, hM5⟩ := bad H4 hM4
        clear done1 bad
        refine goM ?_
        refine l_stM st4 ?_
        clear hM l0 l5 l6
        have hM := hM4
        refine goM ?_
        refine l_stM st5 ?_
        refine goM ?_
        refine end_normal (by simp only [resRf, resRs, resR]; first | done | rfl) ⟨rfl, ⟨pw, pv, pk, pn + 1, true⟩, by first | rfl | (rw [hq]; rfl), rfl, hM5⟩
      | false =>
        obtain ⟨H4, st4, hM4⟩ := done1 false
        have hp4 : (ps.set m ⟨pw, pv, pk, pn, false⟩)[m]? = some ⟨pw, pv, pk, pn, false⟩ := List.getElem?_set_self hml
        obtain ⟨_, _, hi', _, l5', l6'⟩ := path_at hM4 (by (repeat (first | exact Has.here | apply Has.there))) hp4
        rw [hi] at hi'
        cases hi'
        obtain ⟨H5, st5, hM5⟩ := path_put hM4 (.there (.there (.there (.there .here)))) hp4 hi 0 T37 (by decide) (w := .agg (kC a b2 k1)) (p' := ⟨a, b2, k1, pn, false⟩) rfl rfl rfl
        rw [List.set_set] at hM5
        have hp5 : (ps.set m ⟨a, b2, k1, pn, false⟩)[m]? = some ⟨a, b2, k1, pn, false⟩ := List.getElem?_set_self hml
        obtain ⟨_, _, hi', _, l5'', _⟩ := path_at hM5 (by (repeat (first | exact Has.here | apply Has.there))) hp5
        rw [hi] at hi'
        cases hi'
        obtain ⟨H6, st6, hM6⟩ := path_put hM5 (.there (.there (.there (.there .here)))) hp5 hi 5 T3 (by decide) (w := .int .i64 (pn + 1)) (p' := ⟨a, b2, k1, pn + 1, false⟩) rfl rfl rfl
        rw [List.set_set] at hM6
        have h6 := ((hM6.front (r := .ro (pack (paths ps))) (by (repeat (first | exact Take.here | apply Take.there)))).front (r := .own 1 intC b2 k1.vs) (by (repeat (first | exact Take.here | apply Take.there)))).front (r := .own 1 intC a k1.ws) (by (repeat (first | exact Take.here | apply Take.there)))
        have h7 := h6.newPath (p := ⟨a, b2, k1, pn + 1, false⟩) hml
        have h8 := (h7.front (r := .own 7 pathC u (ps.set m ⟨a, b2, k1, pn + 1, false⟩)) (by (repeat (first | exact Take.here | apply Take.there)))).front (r := .box fb (foldC c rv u)) (by (repeat (first | exact Take.here | apply Take.there)))
        clear done1 bad h6 h7 hM6
        simp only [Nat.add_zero] at st5
        refine goM ?_
        refine l_stM st4 ?_
        clear hM l0 l5 l6
        have hM := hM4
        refine goM ?_
        refine l_stM st5 ?_
        clear hM hM4 l5' l6'
        have hM := hM5
        refine goM ?_
        refine l_stM st6 ?_
        refine goM ?_
        refine end_normal (by simp only [resRf, resRs, resR]; first | done | rfl) ⟨rfl, ⟨a, b2, k1, pn + 1, false⟩, by first | rfl | (rw [hq]; rfl), rfl, h8.sub (by (repeat (first | exact List.Sublist.slnil | exact List.Sublist.refl _ | refine List.Sublist.cons_cons _ ?_ | refine List.Sublist.cons _ ?_)))⟩
  · have n0 : (kd == 0) = false := by simpa using h0
    by_cases h1 : kd = 1
    · subst h1
      obtain ⟨q, hd0, hq⟩ := hd rfl
      clear hd h0
      obtain ⟨d, rfl⟩ : ∃ d : Nat, dn = d := ⟨dn.toNat, by omega⟩
      rw [Int.toNat_natCast] at hq ⊢
      rw [if_pos rfl]
      have hk2 := paths_at (hM.fact (.there (.there .here))) hq
      have kf2 := hpf _ _ hq
      obtain ⟨b', o', hi2, j0, _, j6⟩ := path_at hM (.there .here) hq
      obtain ⟨qw, qv, qk, qn, qb⟩ := q
      simp only at hk2 kf2 j0 j6
      have t3 := hk2.ws.cells
      have t4 := hk2.vs.cells
      obtain ⟨_, H1, c1, a, b2, rfl, m1⟩ := checkCopy_ H qw qv qk hk2 kf2
      have tk : tookK c ⟨1, (m : Int), d, at_, ra, mo⟩ ⟨pw, pv, pk, pn, pb⟩ (some ⟨qw, qv, qk, qn, qb⟩) = (⟨qk.ws, qk.vs, qk.r, qk.m, pk.t⟩, pb || qb) := rfl
      rw [hq, tk]
      clear tk n0
      refine call_turn fit mixed hM Try.func20 rfl rfl rfl (by kernel_rfl) fun _ => ?_
      refine goM ?_
      refine l_callG c1 ?_
      have s3 := (m1.sl .here).cells
      have s4 := (m1.sl (.there .here)).cells
      replace hM := hM.call2 m1
      clear c1 m1 l0 l5 l6 hk hk2 j0 j6
      refine goM ?_
      refine l_newM (cs := zeroChk) T37 rfl fun b5 H2 hM => ?_
      refine l_putM T37 fun H3 hM => ?_
      obtain ⟨_, _, hi', l0, l5, l6⟩ := path_at hM (by (repeat (first | exact Has.here | apply Has.there))) hp
      rw [hi] at hi'
      cases hi'
      obtain ⟨_, _, hi', _, _, j6⟩ := path_at hM (by (repeat (first | exact Has.here | apply Has.there))) hq
      rw [hi2] at hi'
      cases hi'
      simp only at l0 l5 l6 j6
      obtain ⟨H4, st4, hM4⟩ := path_put hM (.there (.there (.there (.there .here)))) hp hi 0 T35 (by decide) (w := a) (p' := ⟨a, pv, pk, pn, pb⟩) s4.2 (by rw [s4.1]; rfl) (by rw [s4.1]; rfl)
      have hp4 : (ps.set m ⟨a, pv, pk, pn, pb⟩)[m]? = some ⟨a, pv, pk, pn, pb⟩ := List.getElem?_set_self hml
      obtain ⟨H5, st5, hM5⟩ := path_put hM4 (.there (.there (.there (.there .here)))) hp4 hi 1 T35 (by decide) (w := b2) (p' := ⟨a, b2, pk, pn, pb⟩) s3.2 (by rw [s3.1]; rfl) (by rw [s3.1]; rfl)
      rw [List.set_set] at hM5
      have hp5 : (ps.set m ⟨a, b2, pk, pn, pb⟩)[m]? = some ⟨a, b2, pk, pn, pb⟩ := List.getElem?_set_self hml
      obtain ⟨H6, st6, hM6⟩ := path_put hM5 (.there (.there (.there (.there .here)))) hp5 hi 2 T30 (by decide) (w := .agg [.int .i64 qk.r, .int .i64 qk.m]) (p' := ⟨a, b2, ⟨qk.ws, qk.vs, qk.r, qk.m, pk.t⟩, pn, pb⟩) rfl rfl rfl
      rw [List.set_set] at hM6
      have hp6 : (ps.set m ⟨a, b2, ⟨qk.ws, qk.vs, qk.r, qk.m, pk.t⟩, pn, pb⟩)[m]? = some ⟨a, b2, ⟨qk.ws, qk.vs, qk.r, qk.m, pk.t⟩, pn, pb⟩ := List.getElem?_set_self hml
      obtain ⟨H7, st7, hM7⟩ := path_put hM6 (.there (.there (.there (.there .here)))) hp6 hi 6 T4 (by decide) (w := .bool (pb || qb)) (p' := ⟨a, b2, ⟨qk.ws, qk.vs, qk.r, qk.m, pk.t⟩, pn, pb || qb⟩) rfl rfl rfl
      rw [List.set_set] at hM7
      have hp7 : (ps.set m ⟨a, b2, ⟨qk.ws, qk.vs, qk.r, qk.m, pk.t⟩, pn, pb || qb⟩)[m]? = some ⟨a, b2, ⟨qk.ws, qk.vs, qk.r, qk.m, pk.t⟩, pn, pb || qb⟩ := List.getElem?_set_self hml
      obtain ⟨_, _, hi', _, l5', _⟩ := path_at hM7 (by (repeat (first | exact Has.here | apply Has.there))) hp7
      rw [hi] at hi'
      cases hi'
      obtain ⟨H8, st8, hM8⟩ := path_put hM7 (.there (.there (.there (.there .here)))) hp7 hi 5 T3 (by decide) (w := .int .i64 (pn + 1)) (p' := ⟨a, b2, ⟨qk.ws, qk.vs, qk.r, qk.m, pk.t⟩, pn + 1, pb || qb⟩) rfl rfl rfl
      rw [List.set_set] at hM8
      have h6 := ((hM8.front (r := .ro (pack (paths ps))) (by (repeat (first | exact Take.here | apply Take.there)))).front (r := .own 1 intC b2 qk.vs) (by (repeat (first | exact Take.here | apply Take.there)))).front (r := .own 1 intC a qk.ws) (by (repeat (first | exact Take.here | apply Take.there)))
      have h7 := h6.newPath (p := ⟨a, b2, ⟨qk.ws, qk.vs, qk.r, qk.m, pk.t⟩, pn + 1, pb || qb⟩) hml
      have h8 := (h7.front (r := .own 7 pathC u (ps.set m ⟨a, b2, ⟨qk.ws, qk.vs, qk.r, qk.m, pk.t⟩, pn + 1, pb || qb⟩)) (by (repeat (first | exact Take.here | apply Take.there)))).front (r := .box fb (foldC c rv u)) (by (repeat (first | exact Take.here | apply Take.there)))
      clear h6 h7 hM8 hp4 hp5 hp6 hp7 hp hq hpf
      simp only [Nat.add_zero, List.length_cons, List.length_nil] at st4
      cases pb with
      | true =>
        simp only [Bool.true_or] at st7 l5' h8 ⊢
        have und : V.under H3.length b2 = true := (hM.sl (.there .here)).under
        refine goM ?_
        refine wq_late ?_
        have np := no_pend (T := T) H3
        repeat (first | (refine e_pl ?_; refine e_goM ?_) | refine e_nil ?_)
        refine e_lateG np und ?_
        clear np
        refine e_np (one_pend (pend_box (off := 1) hM .here T35 rfl rfl)) fun np => ?_
        repeat (first | (refine e_pl ?_; refine e_goM ?_) | refine e_nil ?_)
        refine e_lateG np (v := .agg [.int .i64 qk.r, .int .i64 qk.m]) rfl ?_
        clear np
        refine e_np (two_pend (pend_boxS (off := 2) hM .here T30 rfl rfl rfl) (pend_box (off := 1) hM .here T35 rfl rfl)) fun np => ?_
        repeat (first | (refine e_pl ?_; refine e_goM ?_) | (refine e_gd ?_; first | refine e_onG ?_ | refine e_offG ?_))
        refine e_stM st4 ⟨two_pend (pend_boxS (off := 2) hM4 .here T30 rfl rfl rfl) (pend_box (off := 1) hM4 .here T35 rfl rfl), ?_⟩
        clear np
        refine e_np (two_pend (pend_boxS (off := 2) hM4 .here T30 rfl rfl rfl) (pend_box (off := 1) hM4 .here T35 rfl rfl)) fun np => ?_
        repeat (first | (refine e_pl ?_; refine e_goM ?_) | refine e_nil ?_)
        refine e_stM st5 ⟨two_pend (pend_boxS (off := 2) hM5 .here T30 rfl rfl rfl) (pend_box (off := 1) hM5 .here T35 rfl rfl), ?_⟩
        clear np
        refine e_np (two_pend (pend_boxS (off := 2) hM5 .here T30 rfl rfl rfl) (pend_box (off := 1) hM5 .here T35 rfl rfl)) fun np => ?_
        repeat (first | (refine e_pl ?_; refine e_goM ?_) | refine e_nil ?_)
        refine e_stM st6 ⟨two_pend (pend_boxS (off := 2) hM6 .here T30 rfl rfl rfl) (pend_box (off := 1) hM6 .here T35 rfl rfl), ?_⟩
        clear np
        refine e_np (two_pend (pend_boxS (off := 2) hM6 .here T30 rfl rfl rfl) (pend_box (off := 1) hM6 .here T35 rfl rfl)) fun np => ?_
        repeat (first | (refine e_pl ?_; refine e_goM ?_) | refine e_nil ?_)
        refine e_stM st7 ⟨two_pend (pend_boxS (off := 2) hM7 .here T30 rfl rfl rfl) (pend_box (off := 1) hM7 .here T35 rfl rfl), ?_⟩
        clear np
        refine e_np (two_pend (pend_boxS (off := 2) hM7 .here T30 rfl rfl rfl) (pend_box (off := 1) hM7 .here T35 rfl rfl)) fun np => ?_
        repeat (first | (refine e_pl ?_; refine e_goM ?_) | refine e_nil ?_)
        clear np
        clear hM l0 l5 l6
        have hM := hM7
        refine goM ?_
        refine l_stM st8 ?_
        refine goM ?_
        refine end_normal (by simp only [resRf, resRs, resR]; first | done | rfl) ⟨rfl, ⟨a, b2, ⟨qk.ws, qk.vs, qk.r, qk.m, pk.t⟩, pn + 1, true⟩, rfl, rfl, h8.sub (by (repeat (first | exact List.Sublist.slnil | exact List.Sublist.refl _ | refine List.Sublist.cons_cons _ ?_ | refine List.Sublist.cons _ ?_)))⟩
      | false =>
        simp only [Bool.false_or] at st7 l5' h8 ⊢
        have und : V.under H3.length b2 = true := (hM.sl (.there .here)).under
        refine goM ?_
        refine wq_late ?_
        have np := no_pend (T := T) H3
        repeat (first | (refine e_pl ?_; refine e_goM ?_) | refine e_nil ?_)
        refine e_lateG np und ?_
        clear np
        refine e_np (one_pend (pend_box (off := 1) hM .here T35 rfl rfl)) fun np => ?_
        repeat (first | (refine e_pl ?_; refine e_goM ?_) | refine e_nil ?_)
        refine e_lateG np (v := .agg [.int .i64 qk.r, .int .i64 qk.m]) rfl ?_
        clear np
        refine e_np (two_pend (pend_boxS (off := 2) hM .here T30 rfl rfl rfl) (pend_box (off := 1) hM .here T35 rfl rfl)) fun np => ?_
        repeat (first | (refine e_pl ?_; refine e_goM ?_) | (refine e_gd ?_; first | refine e_onG ?_ | refine e_offG ?_))
        refine e_stM st4 ⟨two_pend (pend_boxS (off := 2) hM4 .here T30 rfl rfl rfl) (pend_box (off := 1) hM4 .here T35 rfl rfl), ?_⟩
        clear np
        refine e_np (two_pend (pend_boxS (off := 2) hM4 .here T30 rfl rfl rfl) (pend_box (off := 1) hM4 .here T35 rfl rfl)) fun np => ?_
        repeat (first | (refine e_pl ?_; refine e_goM ?_) | refine e_nil ?_)
        refine e_stM st5 ⟨two_pend (pend_boxS (off := 2) hM5 .here T30 rfl rfl rfl) (pend_box (off := 1) hM5 .here T35 rfl rfl), ?_⟩
        clear np
        refine e_np (two_pend (pend_boxS (off := 2) hM5 .here T30 rfl rfl rfl) (pend_box (off := 1) hM5 .here T35 rfl rfl)) fun np => ?_
        repeat (first | (refine e_pl ?_; refine e_goM ?_) | refine e_nil ?_)
        refine e_stM st6 ⟨two_pend (pend_boxS (off := 2) hM6 .here T30 rfl rfl rfl) (pend_box (off := 1) hM6 .here T35 rfl rfl), ?_⟩
        clear np
        refine e_np (two_pend (pend_boxS (off := 2) hM6 .here T30 rfl rfl rfl) (pend_box (off := 1) hM6 .here T35 rfl rfl)) fun np => ?_
        repeat (first | (refine e_pl ?_; refine e_goM ?_) | refine e_nil ?_)
        refine e_stM st7 ⟨two_pend (pend_boxS (off := 2) hM7 .here T30 rfl rfl rfl) (pend_box (off := 1) hM7 .here T35 rfl rfl), ?_⟩
        clear np
        refine e_np (two_pend (pend_boxS (off := 2) hM7 .here T30 rfl rfl rfl) (pend_box (off := 1) hM7 .here T35 rfl rfl)) fun np => ?_
        repeat (first | (refine e_pl ?_; refine e_goM ?_) | refine e_nil ?_)
        clear np
        clear hM l0 l5 l6
        have hM := hM7
        refine goM ?_
        refine l_stM st8 ?_
        refine goM ?_
        refine end_normal (by simp only [resRf, resRs, resR]; first | done | rfl) ⟨rfl, ⟨a, b2, ⟨qk.ws, qk.vs, qk.r, qk.m, pk.t⟩, pn + 1, qb⟩, rfl, rfl, h8.sub (by (repeat (first | exact List.Sublist.slnil | exact List.Sublist.refl _ | refine List.Sublist.cons_cons _ ?_ | refine List.Sublist.cons _ ?_)))⟩
    · have n1 : (kd == 1) = false := by simpa using h1
      rw [if_neg h1]
      have tk : tookK c ⟨kd, (m : Int), dn, at_, ra, mo⟩ ⟨pw, pv, pk, pn, pb⟩ none = (⟨pk.ws, pk.vs, ra, mo, pk.t⟩, pb) := by
        unfold tookK
        simp only
        rw [if_neg h0, if_neg h1]
      rw [tk]
      clear tk hd h0 h1
      obtain ⟨H4, st4, hM4⟩ := path_put hM (.there .here) hp hi 2 T30 (by decide) (w := .agg [.int .i64 ra, .int .i64 mo]) (p' := ⟨pw, pv, ⟨pk.ws, pk.vs, ra, mo, pk.t⟩, pn, pb⟩) rfl rfl rfl
      have hp4 : (ps.set m ⟨pw, pv, ⟨pk.ws, pk.vs, ra, mo, pk.t⟩, pn, pb⟩)[m]? = some ⟨pw, pv, ⟨pk.ws, pk.vs, ra, mo, pk.t⟩, pn, pb⟩ := List.getElem?_set_self hml
      obtain ⟨_, _, hi', _, l5', _⟩ := path_at hM4 (by (repeat (first | exact Has.here | apply Has.there))) hp4
      rw [hi] at hi'
      cases hi'
      obtain ⟨H5, st5, hM5⟩ := path_put hM4 (.there .here) hp4 hi 5 T3 (by decide) (w := .int .i64 (pn + 1)) (p' := ⟨pw, pv, ⟨pk.ws, pk.vs, ra, mo, pk.t⟩, pn + 1, pb⟩) rfl rfl rfl
      rw [List.set_set] at hM5
      have h6 := (hM5.front (r := .ro (pack (paths ps))) (by (repeat (first | exact Take.here | apply Take.there)))).samePath (q := ⟨pw, pv, ⟨pk.ws, pk.vs, ra, mo, pk.t⟩, pn + 1, pb⟩) hp rfl rfl rfl rfl
      have h7 := (h6.front (r := .own 7 pathC u (ps.set m ⟨pw, pv, ⟨pk.ws, pk.vs, ra, mo, pk.t⟩, pn + 1, pb⟩)) (by (repeat (first | exact Take.here | apply Take.there)))).front (r := .box fb (foldC c rv u)) (by (repeat (first | exact Take.here | apply Take.there)))
      clear h6 hM5 hp hp4 hpf
      refine call_turn fit mixed hM Try.func20 rfl rfl rfl (by kernel_rfl) fun _ => ?_
      refine goM ?_
      refine l_stM st4 ?_
      clear hM l0 l5 l6
      have hM := hM4
      refine goM ?_
      refine l_stM st5 ?_
      refine goM ?_
      refine end_normal (by simp only [resRf, resRs, resR]; first | done | rfl) ⟨rfl, ⟨pw, pv, ⟨pk.ws, pk.vs, ra, mo, pk.t⟩, pn + 1, pb⟩, rfl, rfl, h7.sub (by (repeat (first | exact List.Sublist.slnil | exact List.Sublist.refl _ | refine List.Sublist.cons_cons _ ?_ | refine List.Sublist.cons _ ?_)))⟩
end Go.Proofs.Ytengdmagaeckoaa.VM

/- Layer 18: how many events are a member's; the program's, the document's (LinA, for seats that also have configs). -/
namespace Go.Proofs.Ytengdmagaeckoaa.VM
open Go
set_option linter.unusedVariables false
set_option linter.unusedSimpArgs false
attribute [local irreducible] wq wqL wqD wqE wqO Th Bk EndR
set_option maxHeartbeats 8000000

theorem upTo12 (H : Heap) (x a b : Int) : Call Try.prog 21 [.int .i64 x, .int .i64 a, .int .i64 b] H (.bool (within x a b)) H := upTo12_ H x a b
theorem upTo1 (H : Heap) (x a b : Int) : Call Try.prog 43 [.int .i64 x, .int .i64 a, .int .i64 b] H (.bool (within x a b)) H := upTo1_ H x a b
theorem hyperMay1 (H : Heap) (r m : Int) : Call Try.prog 45 [.agg [.int .i64 r, .int .i64 m]] H (.bool (hyperMay r m)) H := refHyperMay_ H r m
theorem many (H : Heap) (v : V) (es : List Ev) (m : Int) (hes : Sl 6 evC H v es) (hl : es.length ≤ 2 ^ 47) : Call Try.prog 18 [v, .int .i64 m] H (.int .i64 (manyOf es m)) H := by
  refine call_plain fit mixed Try.func18 rfl rfl rfl (by kernel_rfl) rfl ?_
  have hlen := hes.len T33 rfl
  refine goW ?_
  refine wq_loop (fun c ρ h => ∃ k, k ≤ es.length ∧ c = es.length - k ∧ H <+: h ∧ ρ 0 = v ∧ ρ 1 = .int .i64 m ∧ ρ 8 = v ∧ ρ 9 = .int .i64 es.length ∧ ρ 10 = .int .i64 (k : Nat) ∧ ρ 5 = .int .i64 (manyOf (es.take k) m)) ⟨0, Nat.zero_le _, rfl, List.prefix_refl _, rfl, rfl, rfl, rfl, rfl, rfl⟩ ?_
  rintro _ ρ h ⟨k, hk, rfl, hp, h0, h1, h8, h9, h10, h5⟩
  refine goW ?_
  refine cond_go (fun hb => ?_) (fun hb => ?_)
  · have hk' : k < es.length := by simpa using hb
    obtain ⟨e, he⟩ : ∃ e, es[k]? = some e := ⟨es[k], by simp [hk']⟩
    obtain ⟨b, o, cs, hi, rfl, _, hlo, hlc⟩ := (hes.mono hp).get T33 rfl T32 rfl he
    have ho := loadV_agg T32 rfl hlo
    have hle := manyOf_le (es.take k) m
    rw [List.length_take] at hle
    have hw := wrap_succ (n := k) (by omega)
    have hw2 := wrap_succ (n := manyOf (es.take k) m) (by omega)
    have hs := manyOf_succ (m := m) he
    refine goW ?_
    refine cond_go (fun hc => ?_) (fun hc => ?_)
    all_goals refine goW ?_
    all_goals refine ⟨es.length - (k + 1), by omega, k + 1, hk', rfl, hp.trans (List.prefix_append ..), ?_⟩
    all_goals simp at hc
    all_goals simp [put_app, put_none, *]
  · have hk' : k = es.length := by have : ¬ k < es.length := by simpa using hb
                                   omega
    subst hk'
    refine goW ?_
    refine end_ret (by simp only [resRf, resRs, resR]; first | done | rfl) ⟨?_, hp⟩
    simp [put_app, put_none, *]
end Go.Proofs.Ytengdmagaeckoaa.VM

/- Layer 18: the program's tally, its events that may be (LinD, LinE). -/
namespace Go.Proofs.Ytengdmagaeckoaa.VM
open Go
set_option linter.unusedVariables false
set_option linter.unusedSimpArgs false
attribute [local irreducible] wq wqL wqD wqE wqO Th Bk EndR
set_option maxHeartbeats 8000000

theorem inside (H : Heap) (b : Nat) (n x : Int) (hb : H.loadN b 0 1 = some [.int .i64 n]) : Call Try.prog 62 [.int .i64 x, .ptr b 0] H (.bool (decide (x ≥ 0) && decide (x < n))) H := by
  refine call_plain fit mixed Try.func62 rfl rfl rfl (by kernel_rfl) rfl ?_
  have hl : loadV T 3 H b 0 = some (.int .i64 n) := loadV_one T3 rfl hb
  repeat' (first | (refine l_pl ?_; refine l_go ?_) | (refine d_pl ?_; refine d_go ?_) | (refine l_gd ?_; first | refine l_onG ?_ | refine l_offG ?_) | (refine d_gd ?_; first | refine d_onG ?_ | refine d_offG ?_) | refine wq_seq ?_ | refine wq_line ?_ | refine wq_draw (by decide +kernel) ?_ | refine wq_block ?_ | refine l_nil ?_ | refine d_nil ?_ | refine wq_skip ?_ | refine wq_ret ?_ | refine wq_exit ?_ | refine th_normal ?_ | refine th_ret ?_ | refine th_exit ?_ | refine bk_normal ?_ | refine bk_ret ?_ | refine bk_exit ?_ | refine bk_other rfl ?_ | first | refine l_partG (fun hb => ?_) (fun hb => ?_) | refine d_partG (fun hb => ?_) (fun hb => ?_))
  all_goals refine end_finG ?_; simp [put_app, put_none, *]
  all_goals simp_all
  all_goals (first | done | omega)
def TallyC (cs : List V) (es : List Ev) : Prop := cs.length = 16 ∧ ∀ m : Nat, m < 8 → cs[m]? = some (.int .i64 (manyOf es (m : Int))) ∧ cs[8 + m]? = some (.int .i64 (lastKind es (m : Int)))
theorem take_ (H : Heap) (cs : List V) (es : List Ev) (e : Ev) (q : Nat) (b o : Nat) (hq : q < 8) (hm : e.member = (q : Int)) (ht : TallyC cs es) (hl : es.length ≤ 2 ^ 47) (he : ∀ l, (H ++ l).loadN b o 1 = some [.int .i64 e.kind]) (he1 : ∀ l, (H ++ l).loadN b (o + 1) 1 = some [.int .i64 e.member]) :
    ∃ cs', TallyC cs' (es ++ [e]) ∧ Call Try.prog 35 [.ptr H.length 0, .ptr b o] (H ++ [.row cs true]) (.tup []) (H ++ [.row cs' true]) := by
  obtain ⟨h1, h2⟩ := ht
  obtain ⟨c1, c2⟩ := h2 q hq
  have hle := manyOf_le es (q : Int)
  have hw := wrap_succ (n := manyOf es (q : Int)) (by omega)
  have x1 : ∀ l, loadV T 3 (H ++ l) b o = some (.int .i64 e.kind) := fun l => loadV_one T3 rfl (he l)
  have x2 : ∀ l, loadV T 3 (H ++ l) b (o + 1) = some (.int .i64 (q : Int)) := fun l => by rw [← hm]; exact loadV_one T3 rfl (he1 l)
  have i1 := arr_idx (b := H.length) (off := 0) T87 rfl T3 rfl hq
  have i2 := arr_idx (b := H.length) (off := 8) T87 rfl T3 rfl hq
  rw [Nat.zero_add] at i1
  have l1 := row_load (H := H) (w := true) T3 rfl c1
  have s1 := row_store (H := H) (v := .int .i64 ((manyOf es (q : Int) : Int) + 1)) (q := q) (cs := cs) T3 rfl rfl rfl (by omega)
  have s2 := row_store (H := H) (v := .int .i64 e.kind) (q := 8 + q) (cs := cs.set q (.int .i64 ((manyOf es (q : Int) : Int) + 1))) T3 rfl rfl rfl (by simp; omega)
  refine ⟨(cs.set q (.int .i64 ((manyOf es (q : Int) : Int) + 1))).set (8 + q) (.int .i64 e.kind), ⟨by simp [h1], fun m hm' => ?_⟩, ?_⟩
  · obtain ⟨d1, d2⟩ := h2 m hm'
    rw [manyOf_snoc, lastKind_snoc, hm]
    by_cases hmq : q = m
    · subst hmq
      simp [List.getElem?_set, h1]
      omega
    · have : ¬ (q : Int) = (m : Int) := by omega
      simp [List.getElem?_set, h1, this, hmq]
      rw [if_neg (by omega), if_neg (by omega), d1, d2]
      exact ⟨rfl, rfl⟩
  · obtain ⟨v', H', ⟨rfl, rfl⟩, hc⟩ := call_wq (R := fun v h => v = .tup [] ∧ h = H ++ [.row ((cs.set q (.int .i64 ((manyOf es (q : Int) : Int) + 1))).set (8 + q) (.int .i64 e.kind)) true]) (args := [.ptr H.length 0, .ptr b o]) (H := H ++ [.row cs true]) fit mixed Try.func35 rfl rfl rfl (by kernel_rfl) (by
      refine goW ?_
      refine end_normal (by simp only [resRf, resRs, resR]; first | done | rfl) ⟨rfl, rfl⟩)
    exact hc
theorem within_lt (x n : Int) : within x 0 (n - 1) = (decide (x ≥ 0) && decide (x < n)) := by
  unfold within
  congr 1
  apply decide_eq_decide.2
  omega
theorem mayT (H : Heap) (cs : List V) (es : List Ev) (e : Ev) (n : Int) (b o : Nat) (hn : 1 ≤ n ∧ n ≤ 8) (ht : TallyC cs es) (hl : es.length ≤ 2 ^ 47)
    (he : ∀ l, (H ++ l).loadN b o 6 = some e.cells) (hf : ∀ l (j : Nat) c, e.cells[j]? = some c → (H ++ l).loadN b (o + j) 1 = some [c]) :
    Call Try.prog 34 [.ptr H.length 0, .ptr b o, .int .i64 n] (H ++ [.row cs true]) (.bool (evMay es n e)) (H ++ [.row cs true]) := by
  obtain ⟨h1, h2⟩ := ht
  have x0 : ∀ l, loadV T 3 (H ++ l) b o = some (.int .i64 e.kind) := fun l => loadV_one T3 rfl (hf l 0 _ rfl)
  have x1 : ∀ l, loadV T 3 (H ++ l) b (o + 1) = some (.int .i64 e.member) := fun l => loadV_one T3 rfl (hf l 1 _ rfl)
  have x2 : ∀ l, loadV T 3 (H ++ l) b (o + 2) = some (.int .i64 e.donor) := fun l => loadV_one T3 rfl (hf l 2 _ rfl)
  have x3 : ∀ l, loadV T 3 (H ++ l) b (o + 3) = some (.int .i64 e.at_) := fun l => loadV_one T3 rfl (hf l 3 _ rfl)
  have x5 : ∀ l, loadV T 32 (H ++ l) b o = some (.agg [.int .i64 e.kind, .int .i64 e.member, .int .i64 e.donor, .int .i64 e.at_, .int .i64 e.rate, .int .i64 e.mom]) := fun l => loadV_agg T32 rfl (he l)
  refine call_plain fit mixed Try.func34 rfl rfl rfl (by kernel_rfl) rfl ?_
  have hwl : within e.member 0 (n - 1) = (decide (e.member ≥ 0) && decide (e.member < n)) := within_lt ..
  repeat' (first | (refine l_pl ?_; refine l_go ?_) | (refine d_pl ?_; refine d_go ?_) | (refine l_gd ?_; first | refine l_onG ?_ | refine l_offG ?_) | (refine d_gd ?_; first | refine d_onG ?_ | refine d_offG ?_) | refine wq_seq ?_ | refine wq_line ?_ | refine wq_draw (by decide +kernel) ?_ | refine wq_block ?_ | refine l_nil ?_ | refine d_nil ?_ | refine wq_skip ?_ | refine wq_ret ?_ | refine wq_exit ?_ | refine th_normal ?_ | refine th_ret ?_ | refine th_exit ?_ | refine bk_normal ?_ | refine bk_ret ?_ | refine bk_exit ?_ | refine bk_other rfl ?_ | refine l_call (by exact (by simp only [callsWhom, beq_self_eq_true, bne_self_eq_false, ev_tmp, ev_const, ev_func, V.of, V.ofs, put_app, put_none, rho0_app, reduceIte, Nat.reduceEqDiff, reduceCtorEq, List.getD_cons_zero, List.getD_cons_succ, evs, optEv, evParts, Option.map_some, List.cons_append, List.nil_append, List.append_nil, List.append_assoc, Nat.zero_add, Nat.add_zero, *]; first | done | rfl)) (inside _ _ n _ (by first | (simp only [loadN_app, loadN_app0]; first | done | rfl) | (simp only [List.append_assoc, List.cons_append, List.nil_append, List.length_append, List.length_cons, List.length_nil, Nat.zero_add, Nat.add_zero, Nat.reduceAdd, List.set_cons_zero, List.set_cons_succ, loadN_app, loadN_app0]; first | done | rfl))) ?_)
  refine cond_go (fun hb => ?_) (fun hb => ?_)
  · repeat' (first | (refine l_pl ?_; refine l_go ?_) | (refine d_pl ?_; refine d_go ?_) | (refine l_gd ?_; first | refine l_onG ?_ | refine l_offG ?_) | (refine d_gd ?_; first | refine d_onG ?_ | refine d_offG ?_) | refine wq_seq ?_ | refine wq_line ?_ | refine wq_draw (by decide +kernel) ?_ | refine wq_block ?_ | refine l_nil ?_ | refine d_nil ?_ | refine wq_skip ?_ | refine wq_ret ?_ | refine wq_exit ?_ | refine th_normal ?_ | refine th_ret ?_ | refine th_exit ?_ | refine bk_normal ?_ | refine bk_ret ?_ | refine bk_exit ?_ | refine bk_other rfl ?_)
    refine end_finG ?_; simp [put_app, put_none, *]
    have : within e.member 0 (n - 1) = false := by rw [hwl]; cases h : (decide (e.member ≥ 0) && decide (e.member < n)) <;> simp_all
    simp [evMay, this]
  · have hin : within e.member 0 (n - 1) = true := by rw [hwl]; simpa using hb
    have hm : 0 ≤ e.member ∧ e.member < n := by simpa [within_lt] using hin
    clear hwl hb
    repeat' (first | (refine l_pl ?_; refine l_go ?_) | (refine d_pl ?_; refine d_go ?_) | (refine l_gd ?_; first | refine l_onG ?_ | refine l_offG ?_) | (refine d_gd ?_; first | refine d_onG ?_ | refine d_offG ?_) | refine wq_seq ?_ | refine wq_line ?_ | refine wq_draw (by decide +kernel) ?_ | refine wq_block ?_ | refine l_nil ?_ | refine d_nil ?_ | refine wq_skip ?_ | refine wq_ret ?_ | refine wq_exit ?_ | refine th_normal ?_ | refine th_ret ?_ | refine th_exit ?_ | refine bk_normal ?_ | refine bk_ret ?_ | refine bk_exit ?_ | refine bk_other rfl ?_)
    refine cond_go (fun hc => ?_) (fun hc => ?_)
    · simp at hc
      repeat' (first | (refine l_pl ?_; refine l_go ?_) | (refine d_pl ?_; refine d_go ?_) | (refine l_gd ?_; first | refine l_onG ?_ | refine l_offG ?_) | (refine d_gd ?_; first | refine d_onG ?_ | refine d_offG ?_) | refine wq_seq ?_ | refine wq_line ?_ | refine wq_draw (by decide +kernel) ?_ | refine wq_block ?_ | refine l_nil ?_ | refine d_nil ?_ | refine wq_skip ?_ | refine wq_ret ?_ | refine wq_exit ?_ | refine th_normal ?_ | refine th_ret ?_ | refine th_exit ?_ | refine bk_normal ?_ | refine bk_ret ?_ | refine bk_exit ?_ | refine bk_other rfl ?_)
      refine end_finG ?_; simp [put_app, put_none, *]
      rw [evMay_0 hc, hin]
      simp [Bool.and_assoc]
    · simp at hc
      repeat' (first | (refine l_pl ?_; refine l_go ?_) | (refine d_pl ?_; refine d_go ?_) | (refine l_gd ?_; first | refine l_onG ?_ | refine l_offG ?_) | (refine d_gd ?_; first | refine d_onG ?_ | refine d_offG ?_) | refine wq_seq ?_ | refine wq_line ?_ | refine wq_draw (by decide +kernel) ?_ | refine wq_block ?_ | refine l_nil ?_ | refine d_nil ?_ | refine wq_skip ?_ | refine wq_ret ?_ | refine wq_exit ?_ | refine th_normal ?_ | refine th_ret ?_ | refine th_exit ?_ | refine bk_normal ?_ | refine bk_ret ?_ | refine bk_exit ?_ | refine bk_other rfl ?_)
      refine cond_go (fun hc1 => ?_) (fun hc1 => ?_)
      · simp at hc1
        repeat' (first | (refine l_pl ?_; refine l_go ?_) | (refine d_pl ?_; refine d_go ?_) | (refine l_gd ?_; first | refine l_onG ?_ | refine l_offG ?_) | (refine d_gd ?_; first | refine d_onG ?_ | refine d_offG ?_) | refine wq_seq ?_ | refine wq_line ?_ | refine wq_draw (by decide +kernel) ?_ | refine wq_block ?_ | refine l_nil ?_ | refine d_nil ?_ | refine wq_skip ?_ | refine wq_ret ?_ | refine wq_exit ?_ | refine th_normal ?_ | refine th_ret ?_ | refine th_exit ?_ | refine bk_normal ?_ | refine bk_ret ?_ | refine bk_exit ?_ | refine bk_other rfl ?_)
        refine wq_late ?_
        repeat (first | refine e_go ?_ | refine e_goL ?_ | refine e_goS ?_ | refine e_nil ?_)
        have hd : (∃ d, idxV T 87 (.ptr H.length 0) e.donor = some (.ptr H.length d) ∧ ∀ l, loadV T 3 (H ++ (.row cs true :: l)) H.length d = some (.int .i64 (manyOf es e.donor))) ∨ ¬ (0 ≤ e.donor ∧ e.donor < n) := by
          by_cases hd : 0 ≤ e.donor ∧ e.donor < n
          · obtain ⟨d, hde⟩ : ∃ d : Nat, e.donor = (d : Int) := ⟨e.donor.toNat, by omega⟩
            have hd8 : d < 8 := by omega
            have i1 := arr_idx (b := H.length) (off := 0) T87 rfl T3 rfl hd8
            rw [Nat.zero_add] at i1
            exact .inl ⟨d, by rw [hde]; exact i1, fun l => by rw [hde]; exact row_load T3 rfl (h2 d hd8).1 l⟩
          · exact .inr hd
        have hev := evMay_1 (es := es) (n := n) hc1
        rw [hin, within_lt] at hev
        rcases hd with ⟨d, i1, l1⟩ | hd
        · repeat' (first | (refine l_pl ?_; refine l_go ?_) | (refine d_pl ?_; refine d_go ?_) | (refine l_gd ?_; first | refine l_onG ?_ | refine l_offG ?_) | (refine d_gd ?_; first | refine d_onG ?_ | refine d_offG ?_) | refine wq_seq ?_ | refine wq_line ?_ | refine wq_draw (by decide +kernel) ?_ | refine wq_block ?_ | refine l_nil ?_ | refine d_nil ?_ | refine wq_skip ?_ | refine wq_ret ?_ | refine wq_exit ?_ | refine th_normal ?_ | refine th_ret ?_ | refine th_exit ?_ | refine bk_normal ?_ | refine bk_ret ?_ | refine bk_exit ?_ | refine bk_other rfl ?_ | refine d_call0 (by exact (by simp only [callsWhom, beq_self_eq_true, bne_self_eq_false, ev_tmp, ev_const, ev_func, V.of, V.ofs, put_app, put_none, rho0_app, reduceIte, Nat.reduceEqDiff, reduceCtorEq, List.getD_cons_zero, List.getD_cons_succ, evs, optEv, evParts, Option.map_some, List.cons_append, List.nil_append, List.append_nil, List.append_assoc, Nat.zero_add, Nat.add_zero, *]; first | done | rfl)) (inside _ _ n _ (by first | (simp only [loadN_app, loadN_app0]; first | done | rfl) | (simp only [List.append_assoc, List.cons_append, List.nil_append, List.length_append, List.length_cons, List.length_nil, Nat.zero_add, Nat.add_zero, Nat.reduceAdd, List.set_cons_zero, List.set_cons_succ, loadN_app, loadN_app0]; first | done | rfl))) ?_ | first | refine l_partG (fun hb => ?_) (fun hb => ?_) | refine d_partG (fun hb => ?_) (fun hb => ?_))
          all_goals refine end_ret (by simp only [resRf, resRs, resR]; first | done | rfl) ⟨?_, by first | exact List.prefix_refl _ | exact List.prefix_append _ _ | assumption | (refine List.IsPrefix.trans (by assumption) (List.prefix_append _ _)) | (simp only [List.append_assoc, List.cons_append, List.nil_append, List.set_cons_zero, List.set_cons_succ]; exact ⟨_, by simp only [List.append_assoc, List.cons_append, List.nil_append]; rfl⟩)⟩
          all_goals (rw [hev]; clear he hf h2 x0 x1 x2 x3 x5; first | (simp [put_app, put_none, *]; done) | (simp_all [put_app, put_none]; done))
        · have hd' : (decide (e.donor ≥ 0) && decide (e.donor < n)) = false := by
            cases h : (decide (e.donor ≥ 0) && decide (e.donor < n)) with
            | false => rfl
            | true =>
              exfalso
              simp at h
              exact hd ⟨by omega, by omega⟩
          clear hd
          rw [hd'] at hev
          repeat' (first | (refine l_pl ?_; refine l_go ?_) | (refine d_pl ?_; refine d_go ?_) | (refine l_gd ?_; first | refine l_onG ?_ | refine l_offG ?_) | (refine d_gd ?_; first | refine d_onG ?_ | refine d_offG ?_) | refine wq_seq ?_ | refine wq_line ?_ | refine wq_draw (by decide +kernel) ?_ | refine wq_block ?_ | refine l_nil ?_ | refine d_nil ?_ | refine wq_skip ?_ | refine wq_ret ?_ | refine wq_exit ?_ | refine th_normal ?_ | refine th_ret ?_ | refine th_exit ?_ | refine bk_normal ?_ | refine bk_ret ?_ | refine bk_exit ?_ | refine bk_other rfl ?_ | refine d_call0 (by exact (by simp only [callsWhom, beq_self_eq_true, bne_self_eq_false, ev_tmp, ev_const, ev_func, V.of, V.ofs, put_app, put_none, rho0_app, reduceIte, Nat.reduceEqDiff, reduceCtorEq, List.getD_cons_zero, List.getD_cons_succ, evs, optEv, evParts, Option.map_some, List.cons_append, List.nil_append, List.append_nil, List.append_assoc, Nat.zero_add, Nat.add_zero, *]; first | done | rfl)) (inside _ _ n _ (by first | (simp only [loadN_app, loadN_app0]; first | done | rfl) | (simp only [List.append_assoc, List.cons_append, List.nil_append, List.length_append, List.length_cons, List.length_nil, Nat.zero_add, Nat.add_zero, Nat.reduceAdd, List.set_cons_zero, List.set_cons_succ, loadN_app, loadN_app0]; first | done | rfl))) ?_ | first | refine l_partG (fun hb => ?_) (fun hb => ?_) | refine d_partG (fun hb => ?_) (fun hb => ?_))
          all_goals refine end_ret (by simp only [resRf, resRs, resR]; first | done | rfl) ⟨?_, by first | exact List.prefix_refl _ | exact List.prefix_append _ _ | assumption | (refine List.IsPrefix.trans (by assumption) (List.prefix_append _ _)) | (simp only [List.append_assoc, List.cons_append, List.nil_append, List.set_cons_zero, List.set_cons_succ]; exact ⟨_, by simp only [List.append_assoc, List.cons_append, List.nil_append]; rfl⟩)⟩
          all_goals (rw [hev]; clear he hf h2 x0 x1 x2 x3 x5; first | (simp [put_app, put_none, *]; done) | (simp_all [put_app, put_none]; done))
      · simp at hc1
        repeat' (first | (refine l_pl ?_; refine l_go ?_) | (refine d_pl ?_; refine d_go ?_) | (refine l_gd ?_; first | refine l_onG ?_ | refine l_offG ?_) | (refine d_gd ?_; first | refine d_onG ?_ | refine d_offG ?_) | refine wq_seq ?_ | refine wq_line ?_ | refine wq_draw (by decide +kernel) ?_ | refine wq_block ?_ | refine l_nil ?_ | refine d_nil ?_ | refine wq_skip ?_ | refine wq_ret ?_ | refine wq_exit ?_ | refine th_normal ?_ | refine th_ret ?_ | refine th_exit ?_ | refine bk_normal ?_ | refine bk_ret ?_ | refine bk_exit ?_ | refine bk_other rfl ?_)
        refine cond_go (fun hc2 => ?_) (fun hc2 => ?_)
        · simp at hc2
          have hev := evMay_2 (es := es) (n := n) hc2
          rw [hin, explored_last] at hev
          obtain ⟨d, i1, i2, l1, l2⟩ : ∃ d, idxV T 87 (.ptr H.length 0) e.member = some (.ptr H.length d) ∧ idxV T 87 (.ptr H.length 8) e.member = some (.ptr H.length (8 + d)) ∧ (∀ l, loadV T 3 (H ++ (.row cs true :: l)) H.length d = some (.int .i64 (manyOf es e.member))) ∧ (∀ l, loadV T 3 (H ++ (.row cs true :: l)) H.length (8 + d) = some (.int .i64 (lastKind es e.member))) := by
            obtain ⟨d, hde⟩ : ∃ d : Nat, e.member = (d : Int) := ⟨e.member.toNat, by omega⟩
            have hd8 : d < 8 := by omega
            have i1 := arr_idx (b := H.length) (off := 0) T87 rfl T3 rfl hd8
            have i2 := arr_idx (b := H.length) (off := 8) T87 rfl T3 rfl hd8
            rw [Nat.zero_add] at i1
            exact ⟨d, by rw [hde]; exact i1, by rw [hde]; exact i2, fun l => by rw [hde]; exact row_load T3 rfl (h2 d hd8).1 l, fun l => by rw [hde]; exact row_load T3 rfl (h2 d hd8).2 l⟩
          have x4 : ∀ l, loadV T 30 (H ++ l) b (o + 4) = some (.agg [.int .i64 e.rate, .int .i64 e.mom]) := fun l => by
            refine loadV_agg T30 rfl ?_
            have h4 := he l
            unfold Heap.loadN at h4 ⊢
            split at h4
            · rename_i rw_ _ hb
              split at h4
              · rename_i hle
                simp only [Option.some.injEq] at h4
                rw [if_pos (by omega)]
                have := congrArg (fun l => (l.drop 4).take 2) h4
                simpa [Ev.cells, List.drop_take, List.take_take, List.drop_drop, Nat.add_comm] using this
              · cases h4
            · cases h4
          repeat' (first | (refine l_pl ?_; refine l_go ?_) | (refine d_pl ?_; refine d_go ?_) | (refine l_gd ?_; first | refine l_onG ?_ | refine l_offG ?_) | (refine d_gd ?_; first | refine d_onG ?_ | refine d_offG ?_) | refine wq_seq ?_ | refine wq_line ?_ | refine wq_draw (by decide +kernel) ?_ | refine wq_block ?_ | refine l_nil ?_ | refine d_nil ?_ | refine wq_skip ?_ | refine wq_ret ?_ | refine wq_exit ?_ | refine th_normal ?_ | refine th_ret ?_ | refine th_exit ?_ | refine bk_normal ?_ | refine bk_ret ?_ | refine bk_exit ?_ | refine bk_other rfl ?_ | refine d_call0G (hyperMayP ..) ?_ | first | refine l_partG (fun hb => ?_) (fun hb => ?_) | refine d_partG (fun hb => ?_) (fun hb => ?_))
          all_goals refine end_ret (by simp only [resRf, resRs, resR]; first | done | rfl) ⟨?_, by first | exact List.prefix_refl _ | exact List.prefix_append _ _ | assumption | (refine List.IsPrefix.trans (by assumption) (List.prefix_append _ _)) | (simp only [List.append_assoc, List.cons_append, List.nil_append, List.set_cons_zero, List.set_cons_succ]; exact ⟨_, by simp only [List.append_assoc, List.cons_append, List.nil_append]; rfl⟩)⟩
          all_goals (rw [hev]; clear he hf h2 x0 x1 x2 x3 x5; first | (simp [put_app, put_none, *]; done) | (simp_all [put_app, put_none]; done))
        · simp at hc2
          have hev := evMay_3 (es := es) (n := n) hc hc1 hc2
          repeat' (first | (refine l_pl ?_; refine l_go ?_) | (refine d_pl ?_; refine d_go ?_) | (refine l_gd ?_; first | refine l_onG ?_ | refine l_offG ?_) | (refine d_gd ?_; first | refine d_onG ?_ | refine d_offG ?_) | refine wq_seq ?_ | refine wq_line ?_ | refine wq_draw (by decide +kernel) ?_ | refine wq_block ?_ | refine l_nil ?_ | refine d_nil ?_ | refine wq_skip ?_ | refine wq_ret ?_ | refine wq_exit ?_ | refine th_normal ?_ | refine th_ret ?_ | refine th_exit ?_ | refine bk_normal ?_ | refine bk_ret ?_ | refine bk_exit ?_ | refine bk_other rfl ?_)
          refine end_ret (by simp only [resRf, resRs, resR]; first | done | rfl) ⟨?_, by first | exact List.prefix_refl _ | exact List.prefix_append _ _ | assumption | (refine List.IsPrefix.trans (by assumption) (List.prefix_append _ _)) | (simp only [List.append_assoc, List.cons_append, List.nil_append, List.set_cons_zero, List.set_cons_succ]; exact ⟨_, by simp only [List.append_assoc, List.cons_append, List.nil_append]; rfl⟩)⟩
          rw [hev]
          simp [put_app, put_none, *]
theorem tally0 : TallyC (List.replicate 16 (.int .i64 0)) [] := by
  refine ⟨by simp, fun m hm => ?_⟩
  constructor
  · rw [List.getElem?_replicate, if_pos (by omega)]; rfl
  · rw [List.getElem?_replicate, if_pos (by omega)]; rfl
theorem lineageMay (H : Heap) (v : V) (es : List Ev) (n : Int) (hes : Sl 6 evC H v es) (hl : es.length ≤ 2 ^ 47) : Call Try.prog 16 [v, .int .i64 n] H (.bool (eventsMay es n)) H := by
  refine call_plain fit mixed Try.func16 rfl rfl rfl (by kernel_rfl) rfl ?_
  have hlen := hes.len T33 rfl
  by_cases hbad : within n 1 8 = true ∧ es.length ≤ 1024
  · obtain ⟨hn, hl'⟩ := hbad
    have hn' := hn
    simp [within] at hn'
    have q1 : decide (n < 1) = false := by simp; omega
    have q2 : decide (n > 8) = false := by simp; omega
    have q3 : decide ((es.length : Int) > 1024) = false := by simp; omega
    repeat (first | (refine l_pl ?_; refine l_go ?_) | (refine d_pl ?_; refine d_go ?_) | (refine l_gd ?_; first | refine l_onG ?_ | refine l_offG ?_) | (refine d_gd ?_; first | refine d_onG ?_ | refine d_offG ?_) | refine wq_seq ?_ | refine wq_line ?_ | refine wq_draw (by decide +kernel) ?_ | refine wq_block ?_ | refine l_nil ?_ | refine d_nil ?_ | refine wq_skip ?_ | refine wq_ret ?_ | refine wq_exit ?_ | refine th_normal ?_ | refine th_ret ?_ | refine th_exit ?_ | refine bk_normal ?_ | refine bk_ret ?_ | refine bk_exit ?_ | refine bk_other rfl ?_)
    refine cond_go (fun hb => ?_) (fun hb => ?_)
    · cases hb
    · clear hb
      repeat (first | (refine l_pl ?_; refine l_go ?_) | (refine d_pl ?_; refine d_go ?_) | (refine l_gd ?_; first | refine l_onG ?_ | refine l_offG ?_) | (refine d_gd ?_; first | refine d_onG ?_ | refine d_offG ?_) | refine wq_seq ?_ | refine wq_line ?_ | refine wq_draw (by decide +kernel) ?_ | refine wq_block ?_ | refine l_nil ?_ | refine d_nil ?_ | refine wq_skip ?_ | refine wq_ret ?_ | refine wq_exit ?_ | refine th_normal ?_ | refine th_ret ?_ | refine th_exit ?_ | refine bk_normal ?_ | refine bk_ret ?_ | refine bk_exit ?_ | refine bk_other rfl ?_)
      refine wq_loop (fun c ρ h => ∃ k cs, k ≤ es.length ∧ c = es.length - k ∧ h = H ++ [.row cs true] ∧ TallyC cs (es.take k) ∧ (∀ (j : Nat) e, j < k → es[j]? = some e → evMay (es.take j) n e = true) ∧ ρ 0 = v ∧ ρ 1 = .int .i64 n ∧ ρ 5 = .ptr H.length 0 ∧ ρ 21 = .int .i64 es.length ∧ ρ 22 = .int .i64 (k : Nat)) ⟨0, _, Nat.zero_le _, rfl, rfl, tally0, by intro j e hj; omega, rfl, rfl, rfl, rfl, rfl⟩ ?_
      rintro _ ρ h ⟨k, cs, hk, rfl, rfl, htal, hall, h0, h1, h5, h21, h22⟩
      repeat (first | (refine l_pl ?_; refine l_go ?_) | (refine d_pl ?_; refine d_go ?_) | (refine l_gd ?_; first | refine l_onG ?_ | refine l_offG ?_) | (refine d_gd ?_; first | refine d_onG ?_ | refine d_offG ?_) | refine wq_seq ?_ | refine wq_line ?_ | refine wq_draw (by decide +kernel) ?_ | refine wq_block ?_ | refine l_nil ?_ | refine d_nil ?_ | refine wq_skip ?_ | refine wq_ret ?_ | refine wq_exit ?_ | refine th_normal ?_ | refine th_ret ?_ | refine th_exit ?_ | refine bk_normal ?_ | refine bk_ret ?_ | refine bk_exit ?_ | refine bk_other rfl ?_)
      refine cond_go (fun hb => ?_) (fun hb => ?_)
      · have hk' : k < es.length := by simp at hb; omega
        clear hb
        obtain ⟨e, he⟩ : ∃ e, es[k]? = some e := ⟨es[k], by simp [hk']⟩
        obtain ⟨b, o, cs', hi, rfl, _, hlo, hlc⟩ := hes.get T33 rfl T32 rfl he
        have hw := wrap_succ (n := k) (by omega)
        have hul : (es.take k).length ≤ 2 ^ 47 := by rw [List.length_take]; omega
        have hmay := mayT H cs (es.take k) e n b o hn' htal hul (fun l => loadN_pre (List.prefix_append H l) hlo) (fun l j c hj => loadN_pre (List.prefix_append H l) (hlc j c hj))
        repeat (first | (refine l_pl ?_; refine l_go ?_) | (refine d_pl ?_; refine d_go ?_) | (refine l_gd ?_; first | refine l_onG ?_ | refine l_offG ?_) | (refine d_gd ?_; first | refine d_onG ?_ | refine d_offG ?_) | refine wq_seq ?_ | refine wq_line ?_ | refine wq_draw (by decide +kernel) ?_ | refine wq_block ?_ | refine l_nil ?_ | refine d_nil ?_ | refine wq_skip ?_ | refine wq_ret ?_ | refine wq_exit ?_ | refine th_normal ?_ | refine th_ret ?_ | refine th_exit ?_ | refine bk_normal ?_ | refine bk_ret ?_ | refine bk_exit ?_ | refine bk_other rfl ?_)
        refine l_callG hmay ?_
        repeat (first | (refine l_pl ?_; refine l_go ?_) | (refine d_pl ?_; refine d_go ?_) | (refine l_gd ?_; first | refine l_onG ?_ | refine l_offG ?_) | (refine d_gd ?_; first | refine d_onG ?_ | refine d_offG ?_) | refine wq_seq ?_ | refine wq_line ?_ | refine wq_draw (by decide +kernel) ?_ | refine wq_block ?_ | refine l_nil ?_ | refine d_nil ?_ | refine wq_skip ?_ | refine wq_ret ?_ | refine wq_exit ?_ | refine th_normal ?_ | refine th_ret ?_ | refine th_exit ?_ | refine bk_normal ?_ | refine bk_ret ?_ | refine bk_exit ?_ | refine bk_other rfl ?_)
        refine cond_go (fun hc => ?_) (fun hc => ?_)
        · simp at hc
          repeat (first | (refine l_pl ?_; refine l_go ?_) | (refine d_pl ?_; refine d_go ?_) | (refine l_gd ?_; first | refine l_onG ?_ | refine l_offG ?_) | (refine d_gd ?_; first | refine d_onG ?_ | refine d_offG ?_) | refine wq_seq ?_ | refine wq_line ?_ | refine wq_draw (by decide +kernel) ?_ | refine wq_block ?_ | refine l_nil ?_ | refine d_nil ?_ | refine wq_skip ?_ | refine wq_ret ?_ | refine wq_exit ?_ | refine th_normal ?_ | refine th_ret ?_ | refine th_exit ?_ | refine bk_normal ?_ | refine bk_ret ?_ | refine bk_exit ?_ | refine bk_other rfl ?_)
          refine end_ret (by simp only [resRf, resRs, resR]; first | done | rfl) (no_more he (by simp [put_app, put_none, *]) hc (by first | exact List.prefix_refl _ | exact List.prefix_append _ _ | assumption | (refine List.IsPrefix.trans (by assumption) (List.prefix_append _ _)) | (simp only [List.append_assoc, List.cons_append, List.nil_append, List.set_cons_zero, List.set_cons_succ]; exact ⟨_, by simp only [List.append_assoc, List.cons_append, List.nil_append]; rfl⟩)))
        · simp at hc
          have hm : 0 ≤ e.member ∧ e.member < n := by
            have hx : within e.member 0 (n - 1) = true := by
              unfold evMay at hc
              simp only [Bool.and_eq_true] at hc
              exact hc.1
            simpa [within_lt] using hx
          obtain ⟨q, hq⟩ : ∃ q : Nat, e.member = (q : Int) := ⟨e.member.toNat, by omega⟩
          obtain ⟨cs2, ht2, hcall⟩ := take_ H cs (es.take k) e q b o (by omega) hq htal hul (fun l => loadN_pre (List.prefix_append H l) (hlc 0 _ rfl)) (fun l => loadN_pre (List.prefix_append H l) (hlc 1 _ rfl))
          clear hm hq
          repeat (first | (refine l_pl ?_; refine l_go ?_) | (refine d_pl ?_; refine d_go ?_) | (refine l_gd ?_; first | refine l_onG ?_ | refine l_offG ?_) | (refine d_gd ?_; first | refine d_onG ?_ | refine d_offG ?_) | refine wq_seq ?_ | refine wq_line ?_ | refine wq_draw (by decide +kernel) ?_ | refine wq_block ?_ | refine l_nil ?_ | refine d_nil ?_ | refine wq_skip ?_ | refine wq_ret ?_ | refine wq_exit ?_ | refine th_normal ?_ | refine th_ret ?_ | refine th_exit ?_ | refine bk_normal ?_ | refine bk_ret ?_ | refine bk_exit ?_ | refine bk_other rfl ?_)
          refine l_callG hcall ?_
          repeat (first | (refine l_pl ?_; refine l_go ?_) | (refine d_pl ?_; refine d_go ?_) | (refine l_gd ?_; first | refine l_onG ?_ | refine l_offG ?_) | (refine d_gd ?_; first | refine d_onG ?_ | refine d_offG ?_) | refine wq_seq ?_ | refine wq_line ?_ | refine wq_draw (by decide +kernel) ?_ | refine wq_block ?_ | refine l_nil ?_ | refine d_nil ?_ | refine wq_skip ?_ | refine wq_ret ?_ | refine wq_exit ?_ | refine th_normal ?_ | refine th_ret ?_ | refine th_exit ?_ | refine bk_normal ?_ | refine bk_ret ?_ | refine bk_exit ?_ | refine bk_other rfl ?_)
          refine ⟨es.length - (k + 1), by omega, k + 1, cs2, hk', rfl, rfl, ?_, all_succ hall he hc, ?_⟩
          · rw [List.take_add_one, he]; exact ht2
          · simp [put_app, put_none, *]
      · have hk' : k = es.length := by simp at hb; omega
        subst hk'
        repeat (first | (refine l_pl ?_; refine l_go ?_) | (refine d_pl ?_; refine d_go ?_) | (refine l_gd ?_; first | refine l_onG ?_ | refine l_offG ?_) | (refine d_gd ?_; first | refine d_onG ?_ | refine d_offG ?_) | refine wq_seq ?_ | refine wq_line ?_ | refine wq_draw (by decide +kernel) ?_ | refine wq_block ?_ | refine l_nil ?_ | refine d_nil ?_ | refine wq_skip ?_ | refine wq_ret ?_ | refine wq_exit ?_ | refine th_normal ?_ | refine th_ret ?_ | refine th_exit ?_ | refine bk_normal ?_ | refine bk_ret ?_ | refine bk_exit ?_ | refine bk_other rfl ?_)
        refine end_ret (by simp only [resRf, resRs, resR]; first | done | rfl) ⟨?_, by first | exact List.prefix_refl _ | exact List.prefix_append _ _ | assumption | (refine List.IsPrefix.trans (by assumption) (List.prefix_append _ _)) | (simp only [List.append_assoc, List.cons_append, List.nil_append, List.set_cons_zero, List.set_cons_succ]; exact ⟨_, by simp only [List.append_assoc, List.cons_append, List.nil_append]; rfl⟩)⟩
        rw [eventsMay_yes hn hl' fun j e he => hall j e (List.getElem?_eq_some_iff.1 he).1 he]
        simp [put_app, put_none, *]
  · have hno : eventsMay es n = false := by
      unfold eventsMay
      cases h1 : within n 1 8 with
      | false => simp
      | true =>
        have : ¬ es.length ≤ 1024 := fun h => hbad ⟨h1, h⟩
        simp [this]
    repeat' (first | (refine l_pl ?_; refine l_go ?_) | (refine d_pl ?_; refine d_go ?_) | (refine l_gd ?_; first | refine l_onG ?_ | refine l_offG ?_) | (refine d_gd ?_; first | refine d_onG ?_ | refine d_offG ?_) | refine wq_seq ?_ | refine wq_line ?_ | refine wq_draw (by decide +kernel) ?_ | refine wq_block ?_ | refine l_nil ?_ | refine d_nil ?_ | refine wq_skip ?_ | refine wq_ret ?_ | refine wq_exit ?_ | refine th_normal ?_ | refine th_ret ?_ | refine th_exit ?_ | refine bk_normal ?_ | refine bk_ret ?_ | refine bk_exit ?_ | refine bk_other rfl ?_ | first | refine l_partG (fun hb => ?_) (fun hb => ?_) | refine d_partG (fun hb => ?_) (fun hb => ?_))
    all_goals refine cond_go (fun hb => ?_) (fun hb => ?_)
    all_goals first
      | (cases hb; done)
      | ((repeat (first | (refine l_pl ?_; refine l_go ?_) | (refine d_pl ?_; refine d_go ?_) | (refine l_gd ?_; first | refine l_onG ?_ | refine l_offG ?_) | (refine d_gd ?_; first | refine d_onG ?_ | refine d_offG ?_) | refine wq_seq ?_ | refine wq_line ?_ | refine wq_draw (by decide +kernel) ?_ | refine wq_block ?_ | refine l_nil ?_ | refine d_nil ?_ | refine wq_skip ?_ | refine wq_ret ?_ | refine wq_exit ?_ | refine th_normal ?_ | refine th_ret ?_ | refine th_exit ?_ | refine bk_normal ?_ | refine bk_ret ?_ | refine bk_exit ?_ | refine bk_other rfl ?_)); refine end_ret (by simp only [resRf, resRs, resR]; first | done | rfl) ⟨?_, by first | exact List.prefix_refl _ | exact List.prefix_append _ _ | assumption | (refine List.IsPrefix.trans (by assumption) (List.prefix_append _ _)) | (simp only [List.append_assoc, List.cons_append, List.nil_append, List.set_cons_zero, List.set_cons_succ]; exact ⟨_, by simp only [List.append_assoc, List.cons_append, List.nil_append]; rfl⟩)⟩; simp [put_app, put_none, hno]; done)
      | (exfalso; apply hbad; clear hno hbad hlen; simp_all [within]; done)
      | (exfalso; apply hbad; clear hno hbad hlen; simp_all [within]; omega)
end Go.Proofs.Ytengdmagaeckoaa.VM
