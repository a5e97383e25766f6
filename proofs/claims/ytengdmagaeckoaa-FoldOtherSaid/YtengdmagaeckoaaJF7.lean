/- Joined texts: InitB, TrainE, HelpC, PutA, PutB, MembA, GetP, MembB, MembC, LossA, RowD, EvP. -/
import Derived.Test.YtengdmagaeckoaaJF6
/- Layer 20: the document's FirstMember. -/
namespace Go.Proofs.Ytengdmagaeckoaa.VM
open Go
set_option linter.unusedVariables false
set_option linter.unusedSimpArgs false
attribute [local irreducible] wq wqL wqD wqE wqO Th Bk EndR
set_option maxHeartbeats 8000000

theorem refFirst_good (H : Heap) (c : Cfg) (rv : V) (id : Int) (hr : Rows H rv c.rows) (hc : cfgMay c = true) (hid : 0 ≤ id ∧ id < c.m) :
    ∃ w H', Call Try.prog 14 [.agg (cfgC c rv), .int .i64 id] H w H' ∧ ∃ u1 u2, w = .tup [.agg (memC u1 u2 (firstR c id) (firstM c id) 0 0), .str (strOf (firstS c id)), .int .i64 0] ∧ Mem H H' [.own 1 intC u2 (firstV c), .own 1 intC u1 (firstW c id)] := by
  have hfit := first_fits hc id
  simp only [memFits, Bool.and_eq_true] at hfit
  obtain ⟨hchk, _⟩ := hfit
  obtain ⟨hm2, hloss, hseed, _⟩ := cfgMay_split hc
  obtain ⟨hs, hr1, hr8, hrok⟩ := lossMay_split hloss
  obtain ⟨a, b, ha, hb, ha1, ha3, hb1, hb3⟩ := shape_ab hs
  have h16 := size16 ha3 hb3
  obtain ⟨s, hse⟩ : ∃ s : Nat, c.seed = s := ⟨c.seed.toNat, by omega⟩
  obtain ⟨d, hd⟩ : ∃ d : Nat, id = d := ⟨id.toNat, by omega⟩
  have hWl : (firstW c id).length = netSize a b := by unfold firstW; rw [ha, hb]; simp only [Int.toNat_natCast]; exact initL_len _ _ _ _
  have hZr : firstV c = List.replicate (netSize a b) 0 := by unfold firstV; rw [ha, hb]; simp only [Int.toNat_natCast]
  have hW' : initL a b s (50000 + 16 * d) = firstW c id := by unfold firstW; rw [ha, hb, hse, hd]; simp only [Int.toNat_natCast]
  have hR' : ((rateN s (40000 + 2 * d) : Nat) : Int) = firstR c id := by unfold firstR; rw [hse, hd]; simp only [Int.toNat_natCast]
  have hM' : ((momN s (40000 + 2 * d) : Nat) : Int) = firstM c id := by unfold firstM; rw [hse, hd]; simp only [Int.toNat_natCast]
  have hS' : putL (firstW c id) (firstV c) (firstR c id) (firstM c id) 0 = firstS c id := rfl
  have w0 : IntKind.i64.wrap (c.m - 1) = c.m - 1 := wrap_i64 (by omega) (by omega)
  have w1 : IntKind.i64.wrap (16 * id) = 16 * id := wrap_i64 (by omega) (by omega)
  have w2 : IntKind.i64.wrap (50000 + 16 * id) = ((50000 + 16 * d : Nat) : Int) := by rw [wrap_i64 (by omega) (by omega)]; omega
  have lrow : ∀ r ∈ c.rows, r.1.length ≤ 2 ^ 47 := fun rr hrr => by
    have := hrok rr hrr
    simp only [rowOk, Bool.and_eq_true] at this
    have := vecMay_len (feeds_split this.1).2
    omega
  generalize firstW c id = W at *
  generalize firstV c = Z at *
  generalize firstR c id = r at *
  generalize firstM c id = m at *
  generalize firstS c id = S at *
  refine call_mem fit mixed Try.func14 rfl rfl rfl (by kernel_rfl) fun hM => ?_
  refine wq_seq (wq_line ?_)
  refine l_boxM T27 fun b1 H1 hM => ?_
  refine l_newM (cs := zeroMem) T51 rfl fun b2 H2 hM => ?_
  have c1 := refConfMay_ H2 c rv (hr.mono hM.pre) (by omega) lrow
  rw [hc] at c1
  have c2 := upTo12_ H2 id 0 (c.m - 1)
  rw [within_iff.2 ⟨hid.1, by omega⟩] at c2
  obtain ⟨u1, H3, c3, m3⟩ := refInit_ H2 a b s (50000 + 16 * d) ⟨ha1, ha3⟩ ⟨hb1, hb3⟩ (by omega) (by omega)
  rw [hW'] at m3
  rw [← ha, ← hb, ← hse] at c3
  have c4 := refFirstHyper_ H3 s d (by omega) (by omega)
  rw [hR', hM', ← hse, ← hd] at c4
  have hlen := m3.sl.len T35 rfl
  rw [hWl] at hlen
  have t1 := m3.sl.cells
  have t2 := m3.sl.two
  clear hid hm2 hloss hseed hs hr1 hr8 hrok ha hb ha1 ha3 hb1 hb3 hse hd hW' hR' hM' hWl lrow
  refine goM ?_
  refine l_callG c1 ?_
  refine goM ?_
  refine l_callG c2 ?_
  refine goM ?_
  refine l_callG c3 ?_
  replace hM := hM.call1 m3.mem
  refine goM ?_
  refine l_callG c4 ?_
  refine goM ?_
  refine l_newM (cs := [.int .i64 0, .int .i64 0]) T30 rfl fun b3 H4 hM => ?_
  refine l_putM T30 fun H5 hM => ?_
  refine goM ?_
  refine d_makeM 1 intC T35 rfl T3 (n := netSize a b) (z := 0) rfl rfl rfl rfl rfl ⟨by show (8 : Int) * _ ≤ _; omega, by omega⟩ fun u2 H6 hM => ?_
  rw [← hZr] at hM
  have t3 := (hM.sl .here).cells
  refine goM ?_
  refine d_newM (cs := zeroChk) T37 rfl fun b4 H7 hM => ?_
  refine d_putM T37 fun H8 hM => ?_
  have c5 := refPut_good H8 u1 u2 W Z r m 0 (hM.slG) (hM.slG) hchk
  rw [hS'] at c5
  refine goM ?_
  refine l_callG c5 ?_
  refine goM ?_
  refine l_putM T51 fun H9 hM => ?_
  refine goM ?_
  exact end_3 (by first | exact .inl rfl | exact .inr rfl) ⟨_, _, rfl, hM.subG⟩
end Go.Proofs.Ytengdmagaeckoaa.VM

/- Layer 21: what a step of training answers, whatever comes in: the program's One, the document's Train. -/
namespace Go.Proofs.Ytengdmagaeckoaa.VM
open Go
set_option linter.unusedVariables false
set_option linter.unusedSimpArgs false
attribute [local irreducible] wq wqL wqD wqE wqO Th Bk EndR
set_option maxHeartbeats 8000000

/-- a checkpoint -/
structure Chk where
  ws : List Int
  vs : List Int
  r : Int
  m : Int
  t : Int
abbrev kC (w v : V) (k : Chk) : List V := [w, v, .int .i64 k.r, .int .i64 k.m, .int .i64 k.t]
abbrev noChk : Chk := ⟨[], [], 0, 0, 0⟩
def kMay (k : Chk) : Bool := chkMay k.ws k.vs k.r k.m k.t
def kFits (c : Cfg) (k : Chk) : Bool := memFits c.i c.h k.ws k.vs k.r k.m k.t
def kEq (a b : Chk) : Bool := eqChk a.ws a.vs a.r a.m a.t b.ws b.vs b.r b.m b.t
theorem kEq_self (a : Chk) : kEq a a = true := by simp [kEq, eqChk, eqHyper]
theorem kEq_iff {a b : Chk} : kEq a b = true ↔ a = b := by
  cases a; cases b
  simp [kEq, eqChk, eqHyper, and_assoc]
/-- where a checkpoint's numbers lie -/
structure KAt (H : Heap) (w v : V) (k : Chk) : Prop where
  ws : Sl 1 intC H w k.ws
  vs : Sl 1 intC H v k.vs
theorem KAt.mono {H H' : Heap} {w v : V} {k : Chk} (hp : H <+: H') (h : KAt H w v k) : KAt H' w v k := ⟨h.ws.mono hp, h.vs.mono hp⟩
theorem Mem.k {B H : Heap} {L : List Res} {w v : V} {k : Chk} {f g : Res → List Res} (h : Mem B H L) (h1 : Has L (.own 1 intC w k.ws) f) (h2 : Has L (.own 1 intC v k.vs) g) : KAt H w v k := ⟨h.sl h1, h.sl h2⟩
structure Chk.Fit (k : Chk) : Prop where
  ws : k.ws.length * 8 ≤ 140737488351232
  vs : k.vs.length * 8 ≤ 140737488351232
structure Cfg.Fit (c : Cfg) : Prop where
  rows : c.rows.length * 32 ≤ 140737488351232
  row : ∀ r ∈ c.rows, r.1.length * 8 ≤ 140737488351232

def trainOk (c : Cfg) (id : Int) (k : Chk) : Bool := cfgMay c && within id 0 (IntKind.i64.wrap (c.m - 1)) && kFits c k
def trainK (c : Cfg) (id : Int) (k : Chk) : Chk := ⟨nextL k.r k.m k.ws k.vs (trainG c id k.ws k.t), speedL k.m k.ws k.vs (trainG c id k.ws k.t), k.r, k.m, k.t + 1⟩
def trainR (c : Cfg) (id : Int) (k : Chk) : Chk × Int :=
  if trainOk c id k then if k.t ≥ c.total then (noChk, 2101) else (trainK c id k, 0) else (noChk, 2100)

theorem cells_ints (xs : List Int) : Cells 1 intC (xs.flatMap fun x => [V.int .i64 x]) xs := cells_of (R := intC) (fun x => [V.int .i64 x]) (fun x => ⟨rfl, rfl⟩) xs
theorem cells_rows (xs : List (V × Int)) : Cells 2 rowC (xs.flatMap fun p => [p.1, V.int .i64 p.2]) xs := cells_of (R := rowC) (fun p => [p.1, V.int .i64 p.2]) (fun x => ⟨rfl, rfl⟩) xs

theorem two_mem {H H' : Heap} {b1 b2 : Nat} {u1 u2 : V} {xs ys : List Int} (hp : H <+: H') (h1 : H.length ≤ b1) (h2 : H.length ≤ b2) (hne : b1 ≠ b2) (o1 : Own 1 intC H' b1 u1 xs) (o2 : Own 1 intC H' b2 u2 ys) : Mem H H' [.own 1 intC u1 xs, .own 1 intC u2 ys] := by
  have e1 := o1.blk
  have e2 := o2.blk
  refine ⟨hp, fun r hr => ?_, fun r hr c hc => ?_, ?_⟩
  · simp at hr
    rcases hr with rfl | rfl
    · exact .inr ⟨_, o1⟩
    · exact .inr ⟨_, o2⟩
  · simp at hr
    rcases hr with rfl | rfl
    · have := e1.symm.trans hc; cases this; exact h1
    · have := e2.symm.trans hc; cases this; exact h2
  · simp only [List.pairwise_cons, List.mem_singleton, forall_eq, List.not_mem_nil, false_implies, implies_true, List.Pairwise.nil, and_true]
    intro c hc hc2
    have a := e1.symm.trans hc
    have b := e2.symm.trans hc2
    cases a; cases b; exact hne rfl

theorem two_mine {H H' : Heap} {u1 u2 : V} {xs ys : List Int} (h1 : Mine 1 intC H H' u1 xs) (h2 : Mine 1 intC H H' u2 ys) (ha : Apart u1 u2) : Mem H H' [.own 1 intC u1 xs, .own 1 intC u2 ys] := by
  have m1 := h1.mem
  have m2 := h2.mem
  refine ⟨h1.1, fun r hr => ?_, fun r hr => ?_, ?_⟩
  · simp at hr
    rcases hr with rfl | rfl
    · exact m1.ok _ (by simp)
    · exact m2.ok _ (by simp)
  · simp at hr
    rcases hr with rfl | rfl
    · exact m1.low _ (by simp)
    · exact m2.low _ (by simp)
  · simp only [List.pairwise_cons, List.mem_singleton, forall_eq, List.not_mem_nil, false_implies, implies_true, List.Pairwise.nil, and_true]
    intro c hc hc2
    exact ha c c hc hc2 rfl

theorem wrap_m {m : Int} (h : 2 ≤ m ∧ m ≤ 8) : IntKind.i64.wrap (m - 1) = m - 1 := wrap_i64 (by omega) (by omega)
theorem trainOk_split {c : Cfg} {id : Int} {k : Chk} (h : trainOk c id k = true) : cfgMay c = true ∧ (0 ≤ id ∧ id < c.m) ∧ kFits c k = true := by
  unfold trainOk at h
  rw [Bool.and_eq_true, Bool.and_eq_true] at h
  obtain ⟨⟨h1, h2⟩, h3⟩ := h
  obtain ⟨hm, _⟩ := cfgMay_split h1
  rw [wrap_m hm, within_iff] at h2
  exact ⟨h1, by omega, h3⟩

theorem one_ (H : Heap) (c : Cfg) (rv w v : V) (id : Int) (k : Chk) (hr : Rows H rv c.rows) (hk : KAt H w v k) (hc : c.Fit) (hf : k.Fit) :
    ∃ a b H', Call Try.prog 39 [.agg (cfgC c rv), .int .i64 id, .agg (kC w v k)] H (.tup [.agg (kC a b (trainR c id k).1), .int .i64 (trainR c id k).2]) H' ∧ Mem H H' [.own 1 intC a (trainR c id k).1.ws, .own 1 intC b (trainR c id k).1.vs] := by
  have l1 := hc.rows
  have l2 := hc.row
  have l3 := hf.ws
  have l4 := hf.vs
  have bad : ∀ e, ((trainOk c id k) = false ∧ e = 2100) ∨ ((trainOk c id k) = true ∧ decide (k.t ≥ c.total) = true ∧ e = 2101) → ∃ a b H', Call Try.prog 39 [.agg (cfgC c rv), .int .i64 id, .agg (kC w v k)] H (.tup [.agg (kC a b noChk), .int .i64 e]) H' ∧ Mem H H' [.own 1 intC a noChk.ws, .own 1 intC b noChk.vs] := fun e he =>
    ⟨.nils, .nils, H, one_bad H c rv w v k.ws k.vs id k.r k.m k.t e hr hk.ws hk.vs (by omega) (fun r h => by have := l2 r h; omega) (by omega) (by omega) he, ((Mem.start H).nil 1 intC).nil 1 intC⟩
  unfold trainR
  cases hok : trainOk c id k with
  | false => exact bad 2100 (.inl ⟨hok, rfl⟩)
  | true =>
    by_cases ht : k.t ≥ c.total
    · simp only [ht, if_true]
      exact bad 2101 (.inr ⟨hok, decide_eq_true ht, rfl⟩)
    · obtain ⟨h1, h2, h3⟩ := trainOk_split hok
      obtain ⟨u1, u2, H', b1, b2, c1, hp, e1, e2, hne, o1, o2⟩ := one_good H c rv w v k.ws k.vs id k.r k.m k.t hr hk.ws hk.vs h1 h2 h3 (by omega)
      simp only [ht, if_true, if_false]
      exact ⟨u1, u2, H', c1, two_mem hp e1 e2 hne o1 o2⟩

theorem refTrain_ (H : Heap) (c : Cfg) (rv w v : V) (id : Int) (k : Chk) (hr : Rows H rv c.rows) (hk : KAt H w v k) (hc : c.Fit) (hf : k.Fit) :
    ∃ a b H', Call Try.prog 12 [.agg (cfgC c rv), .int .i64 id, .agg (kC w v k)] H (.tup [.agg (kC a b (trainR c id k).1), .int .i64 (trainR c id k).2]) H' ∧ Mem H H' [.own 1 intC a (trainR c id k).1.ws, .own 1 intC b (trainR c id k).1.vs] := by
  have l1 := hc.rows
  have l2 := hc.row
  have l3 := hf.ws
  have l4 := hf.vs
  have bad : ∀ e, ((trainOk c id k) = false ∧ e = 2100) ∨ ((trainOk c id k) = true ∧ decide (k.t ≥ c.total) = true ∧ e = 2101) → ∃ a b H', Call Try.prog 12 [.agg (cfgC c rv), .int .i64 id, .agg (kC w v k)] H (.tup [.agg (kC a b noChk), .int .i64 e]) H' ∧ Mem H H' [.own 1 intC a noChk.ws, .own 1 intC b noChk.vs] := fun e he =>
    ⟨.nils, .nils, H, refTrain_bad H c rv w v k.ws k.vs id k.r k.m k.t e hr hk.ws hk.vs (by omega) (fun r h => by have := l2 r h; omega) (by omega) (by omega) he, ((Mem.start H).nil 1 intC).nil 1 intC⟩
  unfold trainR
  cases hok : trainOk c id k with
  | false => exact bad 2100 (.inl ⟨hok, rfl⟩)
  | true =>
    by_cases ht : k.t ≥ c.total
    · simp only [ht, if_true]
      exact bad 2101 (.inr ⟨hok, decide_eq_true ht, rfl⟩)
    · obtain ⟨h1, h2, h3⟩ := trainOk_split hok
      obtain ⟨u1, u2, H', c1, o1, o2, ha⟩ := refTrain_good H c rv w v k.ws k.vs id k.r k.m k.t hr hk.ws hk.vs h1 h2 h3 (by omega)
      simp only [ht, if_true, if_false]
      exact ⟨u1, u2, H', c1, two_mine o1 o2 ha⟩
end Go.Proofs.Ytengdmagaeckoaa.VM

/- The statements' helpers over the memory by parts: checkpoints and configs that are copied, written over. -/
namespace Go.Proofs.Ytengdmagaeckoaa.VM
open Go
set_option linter.unusedVariables false
set_option linter.unusedSimpArgs false
attribute [local irreducible] wq wqL wqD wqE wqO Th Bk EndR
set_option maxHeartbeats 8000000

/-- rows of data that lie there -/
def rowsFact (v : V) (rv : List (V × Int)) (rs : List (List Int × Int)) : Fact where
  S c := v.blk = some c ∨ ∃ q ∈ rv, q.1.blk = some c
  p H := Sl 2 rowC H v rv ∧ RowsAt H rv rs
  st H H' h hf := ⟨h.1.fr fun c _ hc => hf c (.inl hc), h.2.1, fun k q r hq hr => ⟨(h.2.2 k q r hq hr).1.fr fun c _ hc => hf c (.inr ⟨q, List.mem_iff_getElem?.2 ⟨k, hq⟩, hc⟩), (h.2.2 k q r hq hr).2⟩⟩
  lt H c h hc := by
    rcases hc with hc | ⟨q, hq, hc⟩
    · exact h.1.lt hc
    · obtain ⟨k, hk⟩ := List.mem_iff_getElem?.1 hq
      obtain ⟨r, hr⟩ : ∃ r, rs[k]? = some r := ⟨rs[k]'(by have := (List.getElem?_eq_some_iff.1 hk).1; have := h.2.1; omega), by simp⟩
      exact (h.2.2 k q r hk hr).1.lt hc
theorem rows_of {H : Heap} {v : V} {rv : List (V × Int)} {rs : List (List Int × Int)} (h : (rowsFact v rv rs).p H) : Rows H v rs := ⟨rv, h.1, h.2⟩
theorem RowsM.mem {B H : Heap} {v : V} {rs : List (List Int × Int)} (h : RowsM B H v rs) : ∃ rv, Mem B H [.ro (rowsFact v rv rs)] := by
  obtain ⟨rv, h1, h2, h3⟩ := h
  refine ⟨rv, Mem.mkro h1.1 ⟨h1.sl, h2⟩ fun c hc => ?_⟩
  rcases hc with hc | ⟨q, hq, hc⟩
  · exact (h1.blk hc).1
  · exact h3 q hq c hc

end Go.Proofs.Ytengdmagaeckoaa.VM

/- Layer 14: the program's bytes of a number. -/
namespace Go.Proofs.Ytengdmagaeckoaa.VM
open Go
set_option linter.unusedVariables false
set_option linter.unusedSimpArgs false
attribute [local irreducible] wq wqL wqD wqE wqO Th Bk EndR
set_option maxHeartbeats 8000000

theorem fdiv_step (x : Int) (j : Nat) (h : 8 * j + 8 ≤ 64) : (x.fdiv (2 ^ min (8 * j) IntKind.i64.bits)).fdiv (2 ^ (min ((8 : Int).toNat) IntKind.i64.bits)) = x.fdiv (2 ^ min (8 * (j + 1)) IntKind.i64.bits) := by
  have e1 : min (8 * j) IntKind.i64.bits = 8 * j := by simp [IntKind.bits]; omega
  have e2 : min ((8 : Int).toNat) IntKind.i64.bits = 8 := by decide
  have e3 : min (8 * (j + 1)) IntKind.i64.bits = 8 * j + 8 := by simp [IntKind.bits]; omega
  rw [e1, e2, e3]
  have p1 : (0 : Int) ≤ 2 ^ (8 * j) := Int.pow_nonneg (by decide)
  have p2 : (0 : Int) ≤ 2 ^ 8 := by decide
  rw [Int.fdiv_eq_ediv_of_nonneg _ p1, Int.fdiv_eq_ediv_of_nonneg _ p2, Int.fdiv_eq_ediv_of_nonneg _ (Int.pow_nonneg (by decide)), Int.ediv_ediv_of_nonneg p1, Int.pow_add]
theorem lowL_snoc (x : Int) (k : Nat) : lowL x k ++ [lowK x k] = lowL x (k + 1) := by unfold lowL; rw [List.range_succ, List.map_append]; rfl

/-- four bytes behind the others -/
theorem put_ (B H : Heap) (L : List Res) (f : Res → List Res) (v : V) (bs : List Int) (x : Int) (hM : Mem B H L) (hh : Has L (.own 1 byteC v bs) f) (hl : bs.length ≤ 1000) :
    ∃ w H', Call Try.prog 71 [v, .int .i64 x] H w H' ∧ Mem B H' (f (.own 1 byteC w (bs ++ lowL x 4))) := by
  refine call_turn fit mixed hM Try.func71 rfl rfl rfl (by kernel_rfl) fun _ => ?_
  refine goM ?_
  refine wq_loop (fun m ρ hp => ∃ (j : Nat) (u : V) (L' : List Res), j ≤ 4 ∧ m = 4 - j ∧ Mem B hp L' ∧ Has L' (.own 1 byteC u (bs ++ lowL x j)) f ∧ ρ 0 = u ∧ ρ 1 = .int .i64 (x.fdiv (2 ^ min (8 * j) IntKind.i64.bits)) ∧ ρ 5 = .int .i64 (j : Int)) ⟨0, v, L, Nat.zero_le _, rfl, hM, by simpa [lowL] using hh, rfl, ?_, rfl⟩ ?_
  · show V.int .i64 x = _
    congr 1
    simp [Int.fdiv_one]
  clear hM hh
  rintro _ ρ hp ⟨j, u, L', hj, rfl, hM, hh, h0, h1, h5⟩
  refine goM ?_
  refine cond_go (fun hb => ?_) (fun hb => ?_)
  · have h4 : ((j : Int) < 4) := by simpa using hb
    have hj' : j < 4 := by omega
    clear hb h4
    have hst := fdiv_step x j (by omega)
    have hwj := wrap_succ (n := j) (by omega)
    have hbl : (bs ++ lowL x j).length = bs.length + j := by rw [List.length_append, lowL_len]
    have hlk : IntKind.u8.wrap (x.fdiv (2 ^ min (8 * j) IntKind.i64.bits)) = lowK x j := rfl
    obtain ⟨s, hs⟩ : ∃ s, x.fdiv (2 ^ min (8 * j) IntKind.i64.bits) = s := ⟨_, rfl⟩
    rw [hs] at hst h1 hlk
    have hsh : vbin T .shr 3 (.int .i64 s) (.int .u64 8) = some (.int .i64 (x.fdiv (2 ^ min (8 * (j + 1)) IntKind.i64.bits))) := by
      simp only [vbin, shiftBin]
      rw [if_neg (by decide), hst]
    clear hst hs
    refine goM ?_
    refine l_sliceM byteC [lowK x j] [.int .u8 (lowK x j)] T117 rfl T5 rfl (Cells.one (sz := 1) rfl rfl) (by decide) fun e1 H1 hM => ?_
    refine goM ?_
    refine l_appM (hM.sl .here) (xs := bs ++ lowL x j) (hh := .there hh) (hb := by rw [hbl]; simp only [List.length_cons, List.length_nil]; omega) fun u2 H2 hM => ?_
    replace hM := hM.drop
    rw [List.append_assoc, lowL_snoc] at hM
    repeat (first | (refine l_pl ?_; refine l_step (s_bin eLk eLk hsh) ?_) | (refine l_pl ?_; refine l_goM ?_) | (refine d_pl ?_; refine d_goM ?_) | (refine l_gd ?_; first | refine l_onG ?_ | refine l_offG ?_ | refine l_offU ?_) | (refine d_gd ?_; first | refine d_onG ?_ | refine d_offG ?_ | refine d_offU ?_) | (refine cond_pl ?_; first | refine cond_yes ?_ | refine cond_no ?_) | refine wq_seq ?_ | refine wq_line ?_ | refine wq_draw (by decide +kernel) ?_ | refine wq_block ?_ | refine l_nil ?_ | refine d_nil ?_ | refine wq_skip ?_ | refine wq_ret ?_ | refine wq_exit ?_ | refine th_normal ?_ | refine th_ret ?_ | refine th_exit ?_ | refine bk_normal ?_ | refine bk_ret ?_ | refine bk_exit ?_ | refine bk_other rfl ?_)
    exact ⟨4 - (j + 1), by omega, j + 1, u2, _, hj', rfl, hM, hh.again _, by simp [put_app, put_none, *]⟩
  · have h4 : ¬ ((j : Int) < 4) := by simpa using hb
    have hj' : j = 4 := by omega
    subst hj'
    clear hb h4
    refine goM ?_
    refine end_1 (by first | exact .inl rfl | exact .inr rfl) ?_
    rw [hh.same]; exact hM
end Go.Proofs.Ytengdmagaeckoaa.VM

/- Layer 14: the library's Grow and Concat, of a few numbers. -/
namespace Go.Proofs.Ytengdmagaeckoaa.VM
open Go
set_option linter.unusedVariables false
set_option linter.unusedSimpArgs false
attribute [local irreducible] wq wqL wqD wqE wqO Th Bk EndR
set_option maxHeartbeats 8000000

theorem zeros_len (n : Nat) : (zeros [V.int .i64 0] n).length = n := by
  unfold zeros
  induction n with
  | zero => rfl
  | succ n ih => rw [List.replicate_succ, List.flatten_cons, List.length_append, ih]; simp; omega

theorem news_int (o : Option TI) (ho : o = some { k := .int .i64, size := 1, bytes := 8, zero := [.int .i64 0] }) (H : Heap) (n : Nat) (h2 : n ≤ 1000) : newsOf T o.get! 3 (.int .i64 (n : Int)) H = some (n, zeros [V.int .i64 0] n) := by
  subst ho
  unfold newsOf
  simp only [T3]
  split
  · simp
  · rename_i h
    exact absurd ⟨by omega, by show (n : Int) * (8 : Nat) ≤ _; omega, by simp only [IntKind.max, IntKind.signed, IntKind.bits]; simp; omega⟩ h
theorem append_int (o : Option TI) (ho : o = some { k := .int .i64, size := 1, bytes := 8, zero := [.int .i64 0] }) (H : Heap) (n : Nat) (h1 : 1 ≤ n) (h2 : n ≤ 1000) : appendV o.get! .nils n (zeros [V.int .i64 0] n) H = some (.slc H.length 0 n n false 1, H ++ [.row (zeros [V.int .i64 0] n) true]) := by
  subst ho
  show appendV { k := .int .i64, size := 1, bytes := 8, zero := [.int .i64 0] } .nils n (zeros [V.int .i64 0] n) H = _
  unfold appendV
  rw [if_neg (by rw [zeros_len]; simp)]
  simp only
  rw [if_neg (by omega), if_pos ⟨by omega, by omega⟩]

theorem grow_ (H : Heap) (n : Nat) (h1 : 1 ≤ n) (h2 : n ≤ 1000) : ∃ w H', Call Try.prog 87 [.nils, .int .i64 (n : Int)] H w H' ∧ Mem H H' [.own 1 intC w []] := by
  refine call_mem fit mixed Try.func87 rfl rfl rfl (by kernel_rfl) fun hM => ?_
  have d1 : decide ((n : Int) < 0) = false := decide_eq_false (by omega)
  have d2 : decide ((n : Int) > 0) = true := decide_eq_true (by omega)
  have w0 : IntKind.i64.wrap ((0 : Int) - 0) = 0 := rfl
  have w1 : IntKind.i64.wrap ((n : Int) - 0) = (n : Int) := by rw [Int.sub_zero]; exact wrap_nat (by omega)
  have hn := news_int (T 3) T3 H n h2
  have ha := append_int (T 3) T3 H n h1 h2
  have hM2 : Mem H (H ++ [.row (zeros [V.int .i64 0] n) true]) [.own 1 intC (.slc H.length 0 0 n false 1) ([] : List Int)] := by
    refine Mine.mem ⟨List.prefix_append _ _, .inr ⟨H.length, Nat.le_refl _, n, false, _, rfl, Nat.zero_le _, by simp; rfl, by rw [zeros_len]; omega, by simp, ?_⟩⟩
    simpa using Cells.nil (R := intC) (sz := 1)
  have hsl : sliceV 1 (.slc H.length 0 n n false 1) none (some (.int .i64 0)) none = some (.slc H.length 0 0 n false 1) := by
    simp [sliceV, boundV, V.asIdx]
  clear hM
  refine goM ?_
  refine l_appendG hn ha ?_
  refine goM ?_
  exact end_1 (by first | exact .inl rfl | exact .inr rfl) hM2

def oneVC (cs : List V) (v : V) : Prop := cs = [v]
theorem flat_next {xss : List (List Int)} {k : Nat} {xs : List Int} (h : xss[k]? = some xs) : (xss.take (k + 1)).flatten = (xss.take k).flatten ++ xs := by
  rw [List.take_add_one, h]; simp
theorem flat_le (xss : List (List Int)) : ∀ k, (xss.take k).flatten.length ≤ xss.flatten.length := fun k => by
  have h : xss.flatten = (xss.take k).flatten ++ (xss.drop k).flatten := by rw [← List.flatten_append, List.take_append_drop]
  rw [h, List.length_append]; omega

theorem concat_ (H : Heap) (v : V) (us : List V) (xss : List (List Int)) (n : Nat) (hv : Sl 1 oneVC H v us) (hl : us.length = xss.length) (hl2 : us.length ≤ 100) (hall : ∀ (k : Nat) u xs, us[k]? = some u → xss[k]? = some xs → Sl 1 intC H u xs) (hn : xss.flatten.length = n) (h1 : 1 ≤ n) (h2 : n ≤ 1000) :
    ∃ w H', Call Try.prog 70 [v] H w H' ∧ Mem H H' [.own 1 intC w xss.flatten] := by
  have s0 := hv.cells
  have hlen := hv.len T131 rfl
  obtain ⟨q, hq⟩ : ∃ q, us.length = q := ⟨_, rfl⟩
  rw [hq] at hlen hl hl2
  have hl3 := hl.symm
  clear hl
  have hfl := flat_le xss
  rw [hn] at hfl
  refine call_mem fit mixed Try.func70 rfl rfl rfl (by kernel_rfl) fun hM => ?_
  refine goM ?_
  refine wq_loop (fun m ρ hp => ∃ k : Nat, k ≤ q ∧ m = q - k ∧ hp = H ∧ ρ 0 = v ∧ ρ 3 = .int .i64 ((xss.take k).flatten.length : Nat) ∧ ρ 9 = v ∧ ρ 10 = .int .i64 (q : Int) ∧ ρ 11 = .int .i64 (k : Int)) ⟨0, Nat.zero_le _, by omega, rfl, rfl, by simp [put_app, put_none, *], by simp [put_app, put_none, *], by simp [put_app, put_none, *], by simp [put_app, put_none, *]⟩ ?_
  rintro _ ρ hp ⟨k, hk, rfl, hpe, g0, g3, g9, g10, g11⟩
  subst hpe
  refine goM ?_
  refine cond_go (fun hb => ?_) (fun hb => ?_)
  · have hk' : k < q := by simpa using hb
    clear hb
    obtain ⟨u, hu⟩ : ∃ u, us[k]? = some u := ⟨us[k]'(by omega), by simp⟩
    obtain ⟨xs, hxs⟩ : ∃ xs, xss[k]? = some xs := ⟨xss[k]'(by omega), by simp⟩
    have hxl := (hall k u xs hu hxs).len T35 rfl
    obtain ⟨b1, o1, _, hi1, rfl, _, hlo1, _⟩ := hv.get T131 rfl T35 rfl hu
    have ho1 := loadV_one T35 rfl hlo1
    have hnx := flat_next hxs
    have hle := hfl (k + 1)
    have hsum : IntKind.i64.wrap (((xss.take k).flatten.length : Int) + (xs.length : Int)) = ((xss.take (k + 1)).flatten.length : Int) := by
      rw [hnx, List.length_append] at hle ⊢
      rw [wrap_i64 (by omega) (by omega)]; omega
    have d1 : decide (((xss.take (k + 1)).flatten.length : Int) < 0) = false := decide_eq_false (by omega)
    have hw := wrap_succ (n := k) (by omega)
    clear hlo1 hnx hle hxs hu
    refine goM ?_
    exact ⟨q - (k + 1), by omega, k + 1, hk', rfl, rfl, by simp [put_app, put_none, *]⟩
  · have hk' : k = q := by have : ¬ k < q := by simpa using hb
                           omega
    subst hk'
    clear hb
    rw [List.take_of_length_le (by omega), hn] at g3
    obtain ⟨u0, H1, c1, m1⟩ := grow_ hp n h1 h2
    refine goM ?_
    refine l_callG c1 ?_
    clear c1 hM
    refine goM ?_
    refine wq_loop (fun m ρ hp' => ∃ (j : Nat) (u : V), j ≤ k ∧ m = k - j ∧ Mem hp hp' [.own 1 intC u (xss.take j).flatten] ∧ ρ 6 = u ∧ ρ 25 = v ∧ ρ 26 = .int .i64 (k : Int) ∧ ρ 27 = .int .i64 (j : Int)) ⟨0, u0, Nat.zero_le _, rfl, m1, by simp [put_app, put_none], by simp [put_app, put_none, *], by simp [put_app, put_none, *], by simp [put_app, put_none]⟩ ?_
    clear g0 g3 g9 g10 g11 m1
    clear ρ
    rintro _ ρ hp' ⟨j, u, hj, rfl, hM, g6, g25, g26, g27⟩
    refine goM ?_
    refine cond_go (fun hb => ?_) (fun hb => ?_)
    · have hj' : j < k := by simpa using hb
      clear hb
      obtain ⟨w, hw'⟩ : ∃ u, us[j]? = some u := ⟨us[j]'(by omega), by simp⟩
      obtain ⟨xs, hxs⟩ : ∃ xs, xss[j]? = some xs := ⟨xss[j]'(by omega), by simp⟩
      have hws := (hall j w xs hw' hxs).mono hM.pre
      obtain ⟨b1, o1, _, hi1, rfl, _, hlo1, _⟩ := (hv.mono hM.pre).get T131 rfl T35 rfl hw'
      have ho1 := loadV_one T35 rfl hlo1
      have hnx := flat_next hxs
      have hle := hfl (j + 1)
      rw [hnx, List.length_append] at hle
      have hwj := wrap_succ (n := j) (by omega)
      clear hlo1 hxs hw'
      refine goM ?_
      refine l_appM hws (xs := (xss.take j).flatten) (hb := ⟨by show _ * 8 ≤ _; omega, by omega⟩) fun u2 H2 hM => ?_
      rw [← hnx] at hM
      refine goM ?_
      exact ⟨k - (j + 1), by omega, j + 1, u2, hj', rfl, hM, by simp [put_app, put_none, *]⟩
    · have hj' : j = k := by have : ¬ j < k := by simpa using hb
                             omega
      subst hj'
      clear hb
      rw [List.take_of_length_le (by omega)] at hM
      refine goM ?_
      exact end_1 (by first | exact .inl rfl | exact .inr rfl) hM
end Go.Proofs.Ytengdmagaeckoaa.VM

/- Layers 5, 11: the program's first weights and hypers. -/
namespace Go.Proofs.Ytengdmagaeckoaa.VM
open Go
set_option linter.unusedVariables false
set_option linter.unusedSimpArgs false
attribute [local irreducible] wq wqL wqD wqE wqO Th Bk EndR
set_option maxHeartbeats 8000000

theorem resample_ (H : Heap) (s k : Nat) (hs : s ≤ 65535) (hk : k ≤ 1048575) : Call Try.prog 68 [.int .i64 s, .int .i64 k] H (.tup [.agg [.int .i64 (rateN s k : Nat), .int .i64 (momN s k : Nat)], .int .i64 0]) H := by
  refine call_pure fit mixed Try.func68 rfl rfl rfl (by kernel_rfl) rfl fun hM => ?_
  have w0 := wrap_succ (n := k) (by omega)
  have w1 : IntKind.i64.wrap (64 + ((pickN s k 16321 : Nat) : Int)) = ((rateN s k : Nat) : Int) := by
    have h1 := pickN_lt (s := s) (k := k) (b := 16321) (by decide)
    unfold rateN
    rw [wrap_i64 (by omega) (by omega)]; omega
  have hd1 : drawMay s k = true := by simp only [drawMay, Bool.and_eq_true, within_iff]; omega
  have hd2 : drawMay s (k + 1 : Nat) = true := by simp only [drawMay, Bool.and_eq_true, within_iff]; omega
  have d1 : ((k : Int) == 1048576) = false := by simp; omega
  refine wq_seq (wq_line ?_)
  refine l_newM (cs := [.int .i64 0, .int .i64 0]) T30 rfl fun b1 H1 hM => ?_
  have c1 := drawMay_ H1 s k
  rw [hd1] at c1
  have c2 := drawPick_ H1 s k 16321 hd1 (by decide) (by decide)
  have c3 : Call Try.prog 85 [.int .i64 s, .int .i64 ((k : Int) + 1), .int .i64 58983] H1 (.tup [.int .i64 (momN s k : Nat), .int .i64 0]) H1 := drawPick_ H1 s (k + 1) 58983 hd2 (by decide) (by decide)
  clear hs hk hd1 hd2
  refine goM ?_
  refine l_callG c1 ?_
  refine goM ?_
  refine l_callG c2 ?_
  refine goM ?_
  refine l_callG c3 ?_
  refine goM ?_
  refine l_putM T30 fun H2 hM => ?_
  refine goM ?_
  exact end_2 (by first | exact .inl rfl | exact .inr rfl) ⟨rfl, hM.pre⟩

theorem hyperFirst_ (H : Heap) (s k : Nat) (hs : s ≤ 65535) (hk : k ≤ 7) : Call Try.prog 37 [.int .i64 s, .int .i64 k] H (.tup [.agg [.int .i64 (rateN s (40000 + 2 * k) : Nat), .int .i64 (momN s (40000 + 2 * k) : Nat)], .int .i64 0]) H := by
  refine call_pure fit mixed Try.func37 rfl rfl rfl (by kernel_rfl) rfl fun hM => ?_
  obtain ⟨q, hq⟩ : ∃ q, 40000 + 2 * k = q := ⟨_, rfl⟩
  have w0 : IntKind.i64.wrap (2 * (k : Int)) = ((2 * k : Nat) : Int) := by rw [show 2 * (k : Int) = ((2 * k : Nat) : Int) by omega]; exact wrap_nat (by omega)
  have w1 : IntKind.i64.wrap (40000 + ((2 * k : Nat) : Int)) = (q : Int) := by rw [wrap_i64 (by omega) (by omega)]; omega
  rw [hq]
  refine wq_seq (wq_line ?_)
  refine l_newM (cs := [.int .i64 0, .int .i64 0]) T30 rfl fun b1 H1 hM => ?_
  have c1 := sampleMember_ H1 k
  rw [within_iff.2 ⟨by omega, by omega⟩] at c1
  have c3 := resample_ H1 s q hs (by omega)
  clear hs hk hq
  refine goM ?_
  refine l_callG c1 ?_
  refine goM ?_
  refine l_callG c3 ?_
  refine goM ?_
  refine l_putM T30 fun H2 hM => ?_
  refine goM ?_
  exact end_2 (by first | exact .inl rfl | exact .inr rfl) ⟨rfl, hM.pre⟩

theorem initL_fill {s f k n : Nat} (h : k < n) : ((List.range k).map (initK s f) ++ List.replicate (n - k) 0).set k (initK s f k) = (List.range (k + 1)).map (initK s f) ++ List.replicate (n - (k + 1)) 0 := by
  rw [List.set_append_right _ _ (by simp)]
  have h1 : n - k = (n - (k + 1)) + 1 := by omega
  rw [h1, List.replicate_succ]
  simp [List.range_succ]

theorem init_ (H : Heap) (i h s f : Nat) (hi : 1 ≤ i ∧ i ≤ 3) (hh : 1 ≤ h ∧ h ≤ 3) (hs : s ≤ 65535) (hf : f ≤ 1048560) :
    ∃ w H', Call Try.prog 36 [.agg [.int .i64 i, .int .i64 h], .int .i64 s, .int .i64 f] H w H' ∧ ∃ u, w = .tup [u, .int .i64 0] ∧ Mem H H' [.own 1 intC u (initL i h s f)] := by
  have hsm : shapeMay (i : Int) (h : Int) = true := by simp only [shapeMay, Bool.and_eq_true, within_iff]; omega
  have hsmall : netSize i h ≤ 16 := by have := small_size hi.2 hh.2; unfold netSize; omega
  obtain ⟨n, hn⟩ : ∃ n, netSize i h = n := ⟨_, rfl⟩
  unfold initL
  rw [hn] at hsmall ⊢
  have hdm : ∀ k : Nat, k ≤ 16 → drawMay (s : Int) ((f + k : Nat) : Int) = true := fun k hk => by simp only [drawMay, Bool.and_eq_true, within_iff]; omega
  have hd0 : drawMay (s : Int) (f : Int) = true := hdm 0 (by omega)
  have d1 : decide ((f : Int) > 1048560) = false := decide_eq_false (by omega)
  refine call_mem fit mixed Try.func36 rfl rfl rfl (by kernel_rfl) fun hM => ?_
  refine wq_seq (wq_line ?_)
  refine l_boxM T24 fun b1 H1 hM => ?_
  have c0 := shapeMay_ H1 i h
  rw [hsm] at c0
  have c1 := drawMay_ H1 s f
  rw [hd0] at c1
  have c2 := shapeMany_ H1 i h hi.2 hh.2
  rw [hn] at c2
  clear hsm hi hh hd0
  refine goM ?_
  refine l_callG c0 ?_
  refine goM ?_
  refine l_callG c1 ?_
  refine goM ?_
  refine l_callG c2 ?_
  clear c0 c1 c2 d1
  refine goM ?_
  refine l_makeM 1 intC T35 rfl T3 (n := n) (z := 0) rfl rfl rfl rfl rfl ⟨by show (8 : Int) * _ ≤ _; omega, by omega⟩ fun v H2 hM => ?_
  have hvl := (hM.sl .here).len T35 rfl
  rw [List.length_replicate] at hvl
  refine goM ?_
  refine wq_loop (fun m ρ hp => ∃ k : Nat, k ≤ n ∧ m = n - k ∧ Mem H hp [.own 1 intC v ((List.range k).map (initK s f) ++ List.replicate (n - k) 0), .box b1 [.int .i64 i, .int .i64 h]] ∧ ρ 1 = .int .i64 s ∧ ρ 2 = .int .i64 f ∧ ρ 8 = v ∧ ρ 29 = .int .i64 (n : Int) ∧ ρ 30 = .int .i64 (k : Nat)) ⟨0, Nat.zero_le _, rfl, hM, rfl, rfl, rfl, rfl, rfl⟩ ?_
  clear hM
  rintro _ ρ hp ⟨k, hk, rfl, hM, h1, h2, h8, h29, h30⟩
  refine goM ?_
  refine cond_go (fun hb => ?_) (fun hb => ?_)
  · have hk' : k < n := by simpa using hb
    clear hb
    obtain ⟨b3, hi3, put1⟩ := hM.elem .here T35 rfl T3 rfl (k := k) (by simp; omega)
    obtain ⟨H3, st1, hM1⟩ := put1 (.int .i64 (initK s f k)) _ rfl rfl rfl
    rw [initL_fill hk'] at hM1
    have hw := wrap_succ (n := k) (by omega)
    have w1 : IntKind.i64.wrap ((f : Int) + (k : Int)) = ((f + k : Nat) : Int) := by rw [← Int.natCast_add]; exact wrap_nat (by omega)
    have c4 := drawOf_good hp s (f + k) (hdm k (by omega))
    have w2 : IntKind.i64.wrap (((drawN s (f + k) : Nat) : Int) - 32768) = initK s f k := by
      have := drawN_lt s (f + k)
      unfold initK
      exact wrap_i64 (by omega) (by omega)
    clear put1 hM hdm hs hf
    refine goM ?_
    refine l_callG c4 ?_
    refine goM ?_
    refine l_stM st1 ?_
    refine goM ?_
    exact ⟨n - (k + 1), by omega, k + 1, hk', rfl, hM1, by simp [put_app, put_none, *]⟩
  · have hk' : k = n := by have : ¬ k < n := by simpa using hb
                           omega
    subst hk'
    clear hb hdm
    rw [Nat.sub_self, List.replicate_zero, List.append_nil] at hM
    refine goM ?_
    exact end_2 (by first | exact .inl rfl | exact .inr rfl) ⟨v, rfl, hM.subG⟩
end Go.Proofs.Ytengdmagaeckoaa.VM

/- Layer 14, the plain law: a number of its bytes; where a checkpoint's numbers lie. -/
namespace Go.Proofs.Ytengdmagaeckoaa.VM
open Go
set_option linter.unusedVariables false
set_option linter.unusedSimpArgs false
attribute [local irreducible] wq wqL wqD wqE wqO Th Bk EndR
set_option maxHeartbeats 8000000

theorem wrap_u8 (n : Int) : IntKind.u8.wrap n = n % 256 := by
  unfold IntKind.wrap
  simp only [IntKind.bits, IntKind.signed, Bool.false_and, Bool.false_eq_true, if_false, Int.reducePow]
theorem wrap_u32 (n : Int) : IntKind.u32.wrap n = n % 4294967296 := by
  unfold IntKind.wrap
  simp only [IntKind.bits, IntKind.signed, Bool.false_and, Bool.false_eq_true, if_false, Int.reducePow]
theorem wrap_i32 (n : Int) : IntKind.i32.wrap n = if 2147483648 ≤ n % 4294967296 then n % 4294967296 - 4294967296 else n % 4294967296 := by
  unfold IntKind.wrap
  simp only [IntKind.bits, IntKind.signed, Bool.true_and, decide_eq_true_eq, Nat.reduceSub, Int.reducePow, ge_iff_le]
theorem lowK_in (x : Int) (j : Nat) : 0 ≤ lowK x j ∧ lowK x j < 256 := by unfold lowK; rw [wrap_u8]; omega
theorem lowK_0 (x : Int) : lowK x 0 = x % 256 := by
  unfold lowK; rw [wrap_u8, Int.fdiv_eq_ediv_of_nonneg _ (Int.pow_nonneg (by decide))]
  rw [show (2 : Int) ^ min (8 * 0) IntKind.i64.bits = 1 by decide, Int.ediv_one]
theorem lowK_1 (x : Int) : lowK x 1 = x / 256 % 256 := by
  unfold lowK; rw [wrap_u8, Int.fdiv_eq_ediv_of_nonneg _ (Int.pow_nonneg (by decide))]
  rw [show (2 : Int) ^ min (8 * 1) IntKind.i64.bits = 256 by decide]
theorem lowK_2 (x : Int) : lowK x 2 = x / 65536 % 256 := by
  unfold lowK; rw [wrap_u8, Int.fdiv_eq_ediv_of_nonneg _ (Int.pow_nonneg (by decide))]
  rw [show (2 : Int) ^ min (8 * 2) IntKind.i64.bits = 65536 by decide]
theorem lowK_3 (x : Int) : lowK x 3 = x / 16777216 % 256 := by
  unfold lowK; rw [wrap_u8, Int.fdiv_eq_ediv_of_nonneg _ (Int.pow_nonneg (by decide))]
  rw [show (2 : Int) ^ min (8 * 3) IntKind.i64.bits = 16777216 by decide]

/-- bytes? -/
def okB (bs : List Int) : Prop := ∀ b ∈ bs, 0 ≤ b ∧ b < 256
theorem okB_low (x : Int) (k : Nat) : okB (lowL x k) := fun b hb => by
  obtain ⟨j, _, rfl⟩ := List.mem_map.1 hb
  exact lowK_in x j
theorem okB_app {a b : List Int} (h : okB a) (k : okB b) : okB (a ++ b) := fun x hx => (List.mem_append.1 hx).elim (h x) (k x)
theorem okB_lows (xs : List Int) : okB (lowsL xs) := fun b hb => by
  obtain ⟨x, _, h⟩ := List.mem_flatMap.1 hb
  exact okB_low x 4 b h

/-- the number that bytes tell, the lowest first -/
def numN : List Int → Int
  | [] => 0
  | b :: bs => numN bs * 256 + b
theorem numN_low4 (x : Int) : numN (lowL x 4) = x % 4294967296 := by
  have e : lowL x 4 = [lowK x 0, lowK x 1, lowK x 2, lowK x 3] := rfl
  rw [e]
  simp only [numN, lowK_0, lowK_1, lowK_2, lowK_3]
  omega
theorem num_signed {x : Int} (h : fixMay x = true) : IntKind.i64.wrap (IntKind.i32.wrap (IntKind.u32.wrap (numN (lowL x 4)))) = x := by
  unfold fixMay at h
  rw [within_iff] at h
  rw [numN_low4, wrap_u32, wrap_i32, wrap_i64] <;> split <;> omega
theorem num_plain {x : Int} (h0 : 0 ≤ x) (h : x < 4294967296) : numN (lowL x 4) = x := by rw [numN_low4]; omega
theorem lowK_plain {x : Int} (h0 : 0 ≤ x) (h : x < 256) : lowK x 0 = x := by
  rw [lowK_0]; omega

theorem lowsL_app (a b : List Int) : lowsL (a ++ b) = lowsL a ++ lowsL b := by simp [lowsL]
theorem putL_eq (ws vs : List Int) (r m t : Int) : putL ws vs r m t = (lowL ws.length 1 ++ lowsL (ws ++ (vs ++ [r, m]))) ++ [lowK t 0] := by
  unfold putL
  rw [lowsL_app, lowsL_app]
  have h1 : lowsL [r, m] = lowL r 4 ++ lowL m 4 := by simp [lowsL]
  have h2 : lowL t 1 = [lowK t 0] := rfl
  rw [h1, h2]
  simp only [List.append_assoc]
theorem okB_put (ws vs : List Int) (r m t : Int) : okB (putL ws vs r m t) := by
  rw [putL_eq]
  exact okB_app (okB_app (okB_low _ _) (okB_lows _)) (okB_low t 1)
theorem lowsL_at : ∀ {xs : List Int} {k : Nat} {x : Int}, xs[k]? = some x → ((lowsL xs).drop (4 * k)).take 4 = lowL x 4
  | [], k, x, h => by simp at h
  | y :: ys, 0, x, h => by
    simp at h; subst h
    have e : lowsL (y :: ys) = lowL y 4 ++ lowsL ys := rfl
    rw [e, Nat.mul_zero, List.drop_zero, List.take_append_of_le_length (by rw [lowL_len]; omega), List.take_of_length_le (by rw [lowL_len]; omega)]
  | y :: ys, k + 1, x, h => by
    have e : lowsL (y :: ys) = lowL y 4 ++ lowsL ys := rfl
    rw [e, show 4 * (k + 1) = (lowL y 4).length + 4 * k by rw [lowL_len]; omega, ← List.drop_drop, List.drop_left]
    exact lowsL_at (by simpa using h)

/-- a number in a checkpoint's bytes -/
theorem putL_at {ws vs : List Int} {r m t : Int} {k : Nat} {x : Int} (h : (ws ++ (vs ++ [r, m]))[k]? = some x) : ((putL ws vs r m t).drop (1 + 4 * k)).take 4 = lowL x 4 := by
  have hk := (List.getElem?_eq_some_iff.1 h).1
  have hl : (lowsL (ws ++ (vs ++ [r, m]))).length = 4 * (ws ++ (vs ++ [r, m])).length := lowsL_len _
  rw [putL_eq, List.append_assoc, show 1 + 4 * k = (lowL (ws.length : Int) 1).length + 4 * k by rw [lowL_len], ← List.drop_drop, List.drop_left,
    List.drop_append_of_le_length (by omega), List.take_append_of_le_length (by rw [List.length_drop]; omega)]
  exact lowsL_at h
theorem putL_len {ws vs : List Int} {r m t : Int} (h : vs.length = ws.length) : (putL ws vs r m t).length = 10 + 8 * ws.length := by
  rw [putL_eq]
  simp only [List.length_append, lowL_len, lowsL_len, List.length_cons, List.length_nil]
  omega
theorem vecMay_at {ws : List Int} (h : vecMay ws = true) {k : Nat} {x : Int} (hk : ws[k]? = some x) : fixMay x = true := by
  simp only [vecMay, Bool.and_eq_true, List.all_eq_true] at h
  exact h.2 x (List.mem_of_getElem? hk)
theorem putL_first (ws vs : List Int) (r m t : Int) : (putL ws vs r m t)[0]? = some (lowK ws.length 0) := by
  rw [putL_eq]; rfl
theorem putL_last {ws vs : List Int} {r m t : Int} (h : vs.length = ws.length) : (putL ws vs r m t)[9 + 8 * ws.length]? = some (lowK t 0) := by
  rw [putL_eq, List.getElem?_append_right (show (lowL (ws.length : Int) 1 ++ lowsL (ws ++ (vs ++ [r, m]))).length ≤ 9 + 8 * ws.length by simp only [List.length_append, lowL_len, lowsL_len, List.length_cons, List.length_nil]; omega)]
  have : 9 + 8 * ws.length - (lowL (ws.length : Int) 1 ++ lowsL (ws ++ (vs ++ [r, m]))).length = 0 := by
    simp only [List.length_append, lowL_len, lowsL_len, List.length_cons, List.length_nil]; omega
  rw [this]; rfl

/-- strings of bytes: one of them, a part of them -/
theorem strOf_get {bs : List Int} (ho : okB bs) {i : Nat} {b : Int} (h : bs[i]? = some b) : ((strOf bs)[i]?).map (fun c => V.int .u8 c.toNat) = some (.int .u8 b) := by
  have hi := (List.getElem?_eq_some_iff.1 h).1
  have hb := ho b (List.mem_of_getElem? h)
  have e : (strOf bs)[i]? = some (UInt8.ofNat b.toNat) := by
    have hs : i < (strOf bs).size := by rw [strOf_size]; exact hi
    rw [getElem?_pos (strOf bs) i hs]
    have : (strOf bs)[i] = (bs.map fun n => UInt8.ofNat n.toNat)[i]'(by simpa using hi) := by
      show (strOf bs).data[i] = _
      simp [strOf]
    rw [this, List.getElem_map]
    rw [(List.getElem?_eq_some_iff.1 h).2]
  rw [e]
  simp only [Option.map_some, Option.some.injEq, V.int.injEq, true_and]
  have : (UInt8.ofNat b.toNat).toNat = b.toNat := by
    rw [UInt8.toNat_ofNat']; omega
  rw [this]; omega
theorem strOf_extract (bs : List Int) (l h : Nat) : (strOf bs).extract l h = strOf ((bs.drop l).take (h - l)) := by
  apply ByteArray.ext
  rw [ByteArray.data_extract]
  simp only [strOf]
  apply Array.ext'
  simp [List.map_take, List.map_drop, List.extract_eq_take_drop]
theorem s_strIdx {ρ : Rho} {H : Heap} {x y : Operand} {bs : List Int} {k : IntKind} {n : Int} (i : Nat) {b : Int} (hx : ρ.ev x = some (.str (strOf bs))) (hy : ρ.ev y = some (.int k n)) (hn : n = i) (ho : okB bs) (h : bs[i]? = some b) : Does T ρ H (.index 9 x y) (.int .u8 b) H := by
  subst hn
  refine does_pure rfl ?_
  simp only [pureOp, T9, hx, hy]
  rw [if_pos (by omega), Int.toNat_natCast]
  exact strOf_get ho h
theorem s_strCut {ρ : Rho} {H : Heap} {x : Operand} {lo hi : Option Operand} {bs : List Int} {vl vh : Option V} (l h : Nat) (hx : ρ.ev x = some (.str (strOf bs))) (h1 : optEv ρ.ev lo = some vl) (h2 : optEv ρ.ev hi = some vh) (hl : boundV vl 0 h = some l) (hh : boundV vh bs.length bs.length = some h) : Does T ρ H (.slice 9 x lo hi none) (.str (strOf ((bs.drop l).take (h - l)))) H := by
  refine does_pure rfl ?_
  have h3 : optEv ρ.ev none = some none := rfl
  simp only [pureOp, T9, hx, h1, h2, h3, sliceS, strOf_size, hh, hl, strOf_extract]
theorem bound_at {k : IntKind} {n : Int} {m d : Nat} (i : Nat) (h : n = i) (hi : i ≤ m) : boundV (some (.int k n)) d m = some i := by
  subst h
  simp only [boundV]
  rw [if_pos ⟨by omega, by omega⟩, Int.toNat_natCast]
theorem str_same (a : ByteArray) : vbin T .neq 9 (.str a) (.str a) = some (.bool false) := by simp [vbin, strBin]
theorem str_len (bs : List Int) : builtinP T .len [9] [.str (strOf bs)] = some (.int .i64 (bs.length : Int)) := by
  simp only [builtinP, T9, strOf_size]
end Go.Proofs.Ytengdmagaeckoaa.VM

/- Layer 14: the program's Put of a checkpoint. -/
namespace Go.Proofs.Ytengdmagaeckoaa.VM
open Go
set_option linter.unusedVariables false
set_option linter.unusedSimpArgs false
attribute [local irreducible] wq wqL wqD wqE wqO Th Bk EndR
set_option maxHeartbeats 8000000

theorem byte_low (x : Int) : IntKind.u8.wrap x = lowK x 0 := by unfold lowK; simp [Int.fdiv_one]

theorem checkPut_ (H : Heap) (w v : V) (ws vs : List Int) (r m t : Int) (hw : Sl 1 intC H w ws) (hv : Sl 1 intC H v vs) (hm : chkMay ws vs r m t = true) : Call Try.prog 38 [.agg (chkC w v r m t)] H (.tup [.str (strOf (putL ws vs r m t)), .int .i64 0]) H := by
  obtain ⟨hvw, hvv, hlv, hlw1, _, _, _⟩ := chkMay_split hm
  have hlw := vecMay_len hvw
  obtain ⟨n, hn⟩ : ∃ n, ws.length = n := ⟨_, rfl⟩
  rw [putL_eq, hn]
  rw [hn] at hlv hlw hlw1
  obtain ⟨xs, hxs⟩ : ∃ xs, ws ++ (vs ++ [r, m]) = xs := ⟨_, rfl⟩
  have hxl : xs.length = 2 * n + 2 := by rw [← hxs]; simp only [List.length_append, List.length_cons, List.length_nil]; omega
  rw [hxs]
  have hfl : [ws, vs, [r, m]].flatten = xs := by rw [← hxs]; simp
  have s1 := hw.cells
  have s2 := hv.cells
  have bn := byte_low (n : Int)
  have bt := byte_low t
  refine call_pure fit mixed Try.func38 rfl rfl rfl (by kernel_rfl) rfl fun hM => ?_
  refine wq_seq (wq_line ?_)
  refine l_boxM T37 fun b1 H1 hM => ?_
  have c0 := chkMay_ H1 w v ws vs r m t (hw.mono hM.pre) (hv.mono hM.pre) (by omega) (by omega)
  rw [hm] at c0
  have hlen := (hw.mono hM.pre).len T35 rfl
  rw [hn] at hlen
  clear hm hvw hvv
  refine goM ?_
  refine l_callG c0 ?_
  refine goM ?_
  refine l_sliceM byteC [lowK n 0] [.int .u8 (lowK n 0)] T117 rfl T5 rfl (Cells.one (sz := 1) rfl rfl) (by decide) fun e1 H2 hM => ?_
  refine goM ?_
  refine l_sliceM intC [r, m] [.int .i64 r, .int .i64 m] T35 rfl T3 rfl (cells_of (R := intC) (fun x => [V.int .i64 x]) (fun x => ⟨rfl, rfl⟩) [r, m]) (by decide) fun e2 H3 hM => ?_
  have s3 := (hM.sl .here).cells
  refine l_sliceM oneVC [w, v, e2] [w, v, e2] T131 rfl T35 rfl (cells_of (R := oneVC) (fun x => [x]) (fun x => ⟨rfl, rfl⟩) [w, v, e2]) (by decide) fun e3 H4 hM => ?_
  have hw4 := hw.mono hM.pre
  have hv4 := hv.mono hM.pre
  have he4 := hM.sl (.there .here)
  obtain ⟨e4, H5, c1, m1⟩ := concat_ H4 e3 [w, v, e2] [ws, vs, [r, m]] (2 * n + 2) (hM.sl .here) rfl (by simp) (fun k u x hu hx => by
    match k, hu, hx with
    | 0, hu, hx => cases hu; cases hx; exact hw4
    | 1, hu, hx => cases hu; cases hx; exact hv4
    | 2, hu, hx => cases hu; cases hx; exact he4) (by rw [hfl, hxl]) (by omega) (by omega)
  rw [hfl] at m1
  clear hw4 hv4 he4 hw hv
  refine goM ?_
  refine l_callG c1 ?_
  replace hM := hM.call1 m1
  clear c1 m1
  have hlx := (hM.sl .here).len T35 rfl
  rw [hxl] at hlx
  replace hM : Mem H H5 [.own 1 intC e4 xs, .own 1 byteC e1 (lowL n 1 ++ lowsL (xs.take 0)), .box b1 (chkC w v r m t)] := hM.subG
  refine goM ?_
  refine wq_loop (fun c ρ hp => ∃ (k : Nat) (u : V), k ≤ 2 * n + 2 ∧ c = 2 * n + 2 - k ∧ Mem H hp [.own 1 intC e4 xs, .own 1 byteC u (lowL n 1 ++ lowsL (xs.take k)), .box b1 (chkC w v r m t)] ∧ ρ 1 = .ptr b1 0 ∧ ρ 4 = u ∧ ρ 27 = e4 ∧ ρ 28 = .int .i64 ((2 * n + 2 : Nat) : Int) ∧ ρ 29 = .int .i64 (k : Int)) ⟨0, e1, Nat.zero_le _, rfl, hM, rfl, rfl, rfl, rfl, rfl⟩ ?_
  clear hM
  rintro _ ρ hp ⟨k, u, hk, rfl, hM, g1, g4, g27, g28, g29⟩
  refine goM ?_
  refine cond_go (fun hb => ?_) (fun hb => ?_)
  · have hk' : k < 2 * n + 2 := by simp at hb; omega
    clear hb
    obtain ⟨x, hx⟩ : ∃ x, xs[k]? = some x := ⟨xs[k]'(by omega), by simp⟩
    obtain ⟨b2, o2, _, hi2, rfl, _, hlo2, _⟩ := (hM.sl .here).get T35 rfl T3 rfl hx
    have ho2 := loadV_one T3 rfl hlo2
    have hsn := lowsL_snoc hx
    obtain ⟨u', H6, c2, m2⟩ := put_ H hp _ _ u (lowL n 1 ++ lowsL (xs.take k)) x hM (.there .here) (by simp only [List.length_append, lowL_len, lowsL_len, List.length_take]; omega)
    rw [List.append_assoc, ← hsn] at m2
    have hw2 := wrap_succ (n := k) (by omega)
    clear hlo2 hsn hx
    refine goM ?_
    refine l_callG c2 ?_
    clear hM c2
    refine goM ?_
    exact ⟨2 * n + 2 - (k + 1), by omega, k + 1, u', hk', rfl, m2, by simp [put_app, put_none, *]⟩
  · have hk' : k = 2 * n + 2 := by simp at hb; omega
    subst hk'
    clear hb
    rw [List.take_of_length_le (by omega)] at hM
    obtain ⟨bs, hbs⟩ : ∃ bs, lowL n 1 ++ lowsL xs = bs := ⟨_, rfl⟩
    have hbl : bs.length = 1 + 4 * (2 * n + 2) := by rw [← hbs]; simp only [List.length_append, lowL_len, lowsL_len]; omega
    rw [hbs] at hM ⊢
    clear hbs
    refine goM ?_
    refine l_sliceM byteC [lowK t 0] [.int .u8 (lowK t 0)] T117 rfl T5 rfl (Cells.one (sz := 1) rfl rfl) (by decide) fun e5 H6 hM => ?_
    refine goM ?_
    refine l_appM (hM.sl .here) (xs := bs) (hh := .there (.there .here)) (hb := by rw [hbl]; simp only [List.length_cons, List.length_nil]; omega) fun u2 H7 hM => ?_
    refine l_step (s_toStr eLk (hM.sl (.there (.there .here)))) ?_
    refine goM ?_
    exact end_2 (by first | exact .inl rfl | exact .inr rfl) ⟨rfl, hM.pre⟩
end Go.Proofs.Ytengdmagaeckoaa.VM

/- Layer 20: the program's First. -/
namespace Go.Proofs.Ytengdmagaeckoaa.VM
open Go
set_option linter.unusedVariables false
set_option linter.unusedSimpArgs false
attribute [local irreducible] wq wqL wqD wqE wqO Th Bk EndR
set_option maxHeartbeats 8000000

theorem memberFirst_ (H : Heap) (c : Cfg) (rv : V) (id : Int) (hr : Rows H rv c.rows) (hc : cfgMay c = true) (hid : 0 ≤ id ∧ id < c.m) :
    ∃ w H', Call Try.prog 19 [.agg (cfgC c rv), .int .i64 id] H w H' ∧ ∃ u1 u2, w = .tup [.agg (memC u1 u2 (firstR c id) (firstM c id) 0 0), .str (strOf (firstS c id)), .int .i64 0] ∧ Mem H H' [.own 1 intC u2 (firstV c), .own 1 intC u1 (firstW c id)] := by
  have hfit := first_fits hc id
  simp only [memFits, Bool.and_eq_true] at hfit
  obtain ⟨hchk, _⟩ := hfit
  obtain ⟨hm2, hloss, hseed, _⟩ := cfgMay_split hc
  obtain ⟨hs, hr1, hr8, hrok⟩ := lossMay_split hloss
  obtain ⟨a, b, ha, hb, ha1, ha3, hb1, hb3⟩ := shape_ab hs
  have h16 := size16 ha3 hb3
  obtain ⟨s, hse⟩ : ∃ s : Nat, c.seed = s := ⟨c.seed.toNat, by omega⟩
  obtain ⟨d, hd⟩ : ∃ d : Nat, id = d := ⟨id.toNat, by omega⟩
  have hWl : (firstW c id).length = netSize a b := by unfold firstW; rw [ha, hb]; simp only [Int.toNat_natCast]; exact initL_len _ _ _ _
  have hZr : firstV c = List.replicate (netSize a b) 0 := by unfold firstV; rw [ha, hb]; simp only [Int.toNat_natCast]
  have hW' : initL a b s (50000 + 16 * d) = firstW c id := by unfold firstW; rw [ha, hb, hse, hd]; simp only [Int.toNat_natCast]
  have hR' : ((rateN s (40000 + 2 * d) : Nat) : Int) = firstR c id := by unfold firstR; rw [hse, hd]; simp only [Int.toNat_natCast]
  have hM' : ((momN s (40000 + 2 * d) : Nat) : Int) = firstM c id := by unfold firstM; rw [hse, hd]; simp only [Int.toNat_natCast]
  have hS' : putL (firstW c id) (firstV c) (firstR c id) (firstM c id) 0 = firstS c id := rfl
  have w0 : IntKind.i64.wrap (c.m - 1) = c.m - 1 := wrap_i64 (by omega) (by omega)
  have w1 : IntKind.i64.wrap (16 * id) = 16 * id := wrap_i64 (by omega) (by omega)
  have w2 : IntKind.i64.wrap (50000 + 16 * id) = ((50000 + 16 * d : Nat) : Int) := by rw [wrap_i64 (by omega) (by omega)]; omega
  have lrow : ∀ r ∈ c.rows, r.1.length ≤ 2 ^ 47 := fun rr hrr => by
    have := hrok rr hrr
    simp only [rowOk, Bool.and_eq_true] at this
    have := vecMay_len (feeds_split this.1).2
    omega
  generalize firstW c id = W at *
  generalize firstV c = Z at *
  generalize firstR c id = r at *
  generalize firstM c id = m at *
  generalize firstS c id = S at *
  refine call_mem fit mixed Try.func19 rfl rfl rfl (by kernel_rfl) fun hM => ?_
  refine wq_seq (wq_line ?_)
  refine l_boxM T27 fun b1 H1 hM => ?_
  refine l_newM (cs := zeroMem) T51 rfl fun b2 H2 hM => ?_
  have c1 := confMay_ H2 c rv (hr.mono hM.pre) (by omega) lrow
  rw [hc] at c1
  have c2 := confId_ H2 b1 c.m id (by have hrow := hM.row (.there .here); unfold Heap.loadN; rw [hrow]; rfl)
  rw [w0, within_iff.2 ⟨hid.1, by omega⟩] at c2
  obtain ⟨_, H3, c3, u1, rfl, m3⟩ := init_ H2 a b s (50000 + 16 * d) ⟨ha1, ha3⟩ ⟨hb1, hb3⟩ (by omega) (by omega)
  rw [hW'] at m3
  rw [← ha, ← hb, ← hse] at c3
  have c4 := hyperFirst_ H3 s d (by omega) (by omega)
  rw [hR', hM', ← hse, ← hd] at c4
  have s3 := m3.sl .here
  have hlen := s3.len T35 rfl
  rw [hWl] at hlen
  have t1 := s3.cells
  have t2 := s3.two
  clear hid hm2 hloss hseed hs hr1 hr8 hrok ha hb ha1 ha3 hb1 hb3 hse hd hW' hR' hM' hWl lrow
  refine goM ?_
  refine l_callG c1 ?_
  refine goM ?_
  refine l_callG c2 ?_
  refine goM ?_
  refine l_callG c3 ?_
  replace hM := hM.call1 m3
  refine goM ?_
  refine l_callG c4 ?_
  refine goM ?_
  refine l_newM (cs := [.int .i64 0, .int .i64 0]) T30 rfl fun b3 H4 hM => ?_
  refine l_putM T30 fun H5 hM => ?_
  refine goM ?_
  refine d_makeM 1 intC T35 rfl T3 (n := netSize a b) (z := 0) rfl rfl rfl rfl rfl ⟨by show (8 : Int) * _ ≤ _; omega, by omega⟩ fun u2 H6 hM => ?_
  rw [← hZr] at hM
  have t3 := (hM.sl .here).cells
  refine goM ?_
  refine d_newM (cs := zeroChk) T37 rfl fun b4 H7 hM => ?_
  refine d_putM T37 fun H8 hM => ?_
  have c5 := checkPut_ H8 u1 u2 W Z r m 0 (hM.slG) (hM.slG) hchk
  rw [hS'] at c5
  refine goM ?_
  refine l_callG c5 ?_
  refine goM ?_
  refine l_putM T51 fun H9 hM => ?_
  refine goM ?_
  exact end_3 (by first | exact .inl rfl | exact .inr rfl) ⟨_, _, rfl, hM.subG⟩

theorem memberFirst_bad (H : Heap) (c : Cfg) (rv : V) (id : Int) (hr : Rows H rv c.rows) (hl : c.rows.length ≤ 2 ^ 47) (hxl : ∀ r ∈ c.rows, r.1.length ≤ 2 ^ 47) (hb : (cfgMay c && within id 0 (IntKind.i64.wrap (c.m - 1))) = false) :
    Call Try.prog 19 [.agg (cfgC c rv), .int .i64 id] H (.tup [.agg zeroMem, .str (strOf []), .int .i64 2000]) H := by
  refine call_pure fit mixed Try.func19 rfl rfl rfl (by kernel_rfl) rfl fun hM => ?_
  refine wq_seq (wq_line ?_)
  refine l_boxM T27 fun b1 H1 hM => ?_
  refine l_newM (cs := zeroMem) T51 rfl fun b2 H2 hM => ?_
  have c1 := confMay_ H2 c rv (hr.mono hM.pre) hl hxl
  have c2 := confId_ H2 b1 c.m id (by have hrow := hM.row (.there .here); unfold Heap.loadN; rw [hrow]; rfl)
  obtain ⟨q, hq⟩ : ∃ q, cfgMay c = q := ⟨_, rfl⟩
  rw [hq] at c1 hb
  cases q with
  | false =>
    clear hb hq c2
    refine goM ?_
    refine l_callG c1 ?_
    refine goM ?_
    refine l_putM T51 fun H3 hM => ?_
    refine goM ?_
    exact end_3 (by first | exact .inl rfl | exact .inr rfl) ⟨rfl, hM.pre⟩
  | true =>
    rw [Bool.true_and] at hb
    rw [hb] at c2
    clear hb hq
    refine goM ?_
    refine l_callG c1 ?_
    refine goM ?_
    refine l_callG c2 ?_
    refine goM ?_
    refine l_putM T51 fun H3 hM => ?_
    refine goM ?_
    exact end_3 (by first | exact .inl rfl | exact .inr rfl) ⟨rfl, hM.pre⟩
end Go.Proofs.Ytengdmagaeckoaa.VM

/- Layer 10: the program's loss. -/
namespace Go.Proofs.Ytengdmagaeckoaa.VM
open Go
set_option linter.unusedVariables false
set_option linter.unusedSimpArgs false
attribute [local irreducible] wq wqL wqD wqE wqO Th Bk EndR
set_option maxHeartbeats 8000000

def errN (i h : Nat) (ws : List Int) (r : List Int × Int) : Int := plus (tells i h ws (units i h ws r.1)) (IntKind.i64.wrap (0 - r.2))
def lossN (i h : Nat) (ws : List Int) (rs : List (List Int × Int)) : Int := rs.foldl (fun a r => plus a (times (errN i h ws r) (errN i h ws r))) 0
theorem lossN_snoc {i h : Nat} {ws : List Int} {rs : List (List Int × Int)} {k : Nat} {r : List Int × Int} (hk : rs[k]? = some r) : lossN i h ws (rs.take (k + 1)) = plus (lossN i h ws (rs.take k)) (times (errN i h ws r) (errN i h ws r)) := by
  unfold lossN
  rw [List.take_add_one, hk, List.foldl_append]; rfl
theorem loadV_pre {H H' : Heap} (hp : H <+: H') {t b o : Nat} {v : V} (h : loadV T t H b o = some v) : loadV T t H' b o = some v := by
  unfold loadV at h ⊢
  split at h
  · split at h
    · rename_i h1
      rw [if_pos h1]
      cases hl : H.loadN b o _ with
      | none => rw [hl] at h; cases h
      | some cs => rw [hl] at h; rw [loadN_pre hp hl]; exact h
    · rename_i h1
      rw [if_neg h1]
      cases hl : H.loadN b o _ with
      | none => rw [hl] at h; cases h
      | some cs => rw [hl] at h; rw [loadN_pre hp hl]; exact h
  · cases h
theorem netAt_of {H : Heap} {b : Nat} {i h : Int} {w : V} (hr : H[b]? = some (.row [.int .i64 i, .int .i64 h, w] true)) : NetAt H b i h w := by
  refine ⟨?_, ?_, ?_⟩ <;> (unfold Heap.loadN; rw [hr]; rfl)

end Go.Proofs.Ytengdmagaeckoaa.VM

/- Rows of data that are one's own: many parts as one. -/
namespace Go.Proofs.Ytengdmagaeckoaa.VM
open Go
set_option linter.unusedVariables false
set_option linter.unusedSimpArgs false
attribute [local irreducible] wq wqL wqD wqE wqO Th Bk EndR
set_option maxHeartbeats 8000000

/-- many parts as one -/
def pack (L : List Res) : Fact where
  S c := ∃ r ∈ L, r.lies c
  p H := (∀ r ∈ L, r.ok H) ∧ L.Pairwise fun (r s : Res) => ∀ c : Nat, r.lies c → ¬ s.lies c
  st H H' h hf := ⟨fun r hr => Res.ok_fr (h.1 r hr) fun c hc => hf c ⟨r, hr, hc⟩, h.2⟩
  lt H c h hc := by
    obtain ⟨r, hr, hc⟩ := hc
    exact Res.ok_lt (h.1 r hr) hc
theorem Mem.packed {B H : Heap} {L M : List Res} (h : Mem B H (L ++ M)) : Mem B H (.ro (pack L) :: M) := by
  obtain ⟨s1, s2, s3⟩ := List.pairwise_append.1 h.sep
  refine ⟨h.pre, fun r hr => ?_, fun r hr c hc => ?_, List.pairwise_cons.2 ⟨fun s hs c hc hc2 => ?_, s2⟩⟩
  · rcases List.mem_cons.1 hr with rfl | hr
    · exact ⟨fun r hr => h.ok r (List.mem_append_left _ hr), s1⟩
    · exact h.ok r (List.mem_append_right _ hr)
  · rcases List.mem_cons.1 hr with rfl | hr
    · obtain ⟨r, hr, hc⟩ := hc
      exact h.low r (List.mem_append_left _ hr) c hc
    · exact h.low r (List.mem_append_right _ hr) c hc
  · obtain ⟨r, hr, hc⟩ := hc
    exact s3 r hr s hs c hc hc2
theorem Mem.unpacked {B H : Heap} {L M : List Res} (h : Mem B H (.ro (pack L) :: M)) : Mem B H (L ++ M) := by
  have h0 : (pack L).p H := h.ok _ List.mem_cons_self
  obtain ⟨s1, s2⟩ := List.pairwise_cons.1 h.sep
  refine ⟨h.pre, fun r hr => ?_, fun r hr c hc => ?_, List.pairwise_append.2 ⟨h0.2, s2, fun r hr s hs c hc hc2 => s1 s hs c ⟨r, hr, hc⟩ hc2⟩⟩
  · rcases List.mem_append.1 hr with hr | hr
    · exact h0.1 r hr
    · exact h.ok r (List.mem_cons_of_mem _ hr)
  · rcases List.mem_append.1 hr with hr | hr
    · exact h.low (.ro (pack L)) List.mem_cons_self c ⟨r, hr, hc⟩
    · exact h.low r (List.mem_cons_of_mem _ hr) c hc
theorem pack_mem {H : Heap} {L : List Res} (h : (pack L).p H) : Mem [] H L := ⟨List.nil_prefix, h.1, fun _ _ _ _ => Nat.zero_le _, h.2⟩
theorem Has.nth : ∀ {L : List Res} {k : Nat} {r : Res}, L[k]? = some r → Has L r (fun x => L.set k x)
  | [], k, r, h => by simp at h
  | s :: L, 0, r, h => by simp at h; subst h; exact .here
  | s :: L, k + 1, r, h => .there (Has.nth (by simpa using h))
theorem Has.app {L M : List Res} {r : Res} {f : Res → List Res} (h : Has L r f) : Has (L ++ M) r (fun x => f x ++ M) := by
  induction h with
  | here => exact .here
  | there h ih => exact .there ih

/-- the parts of rows: the rows themselves, each one's inputs -/
def rowsP (rv : List (V × Int)) (rs : List (List Int × Int)) : List Res := List.zipWith (fun p r => Res.own 1 intC p.1 r.1) rv rs
def rowsR (u : V) (rv : List (V × Int)) (rs : List (List Int × Int)) : List Res := .own 2 rowC u rv :: rowsP rv rs
def Like (rv : List (V × Int)) (rs : List (List Int × Int)) : Prop := rv.length = rs.length ∧ ∀ (k : Nat) p r, rv[k]? = some p → rs[k]? = some r → p.2 = r.2
theorem rowsP_get {rv : List (V × Int)} {rs : List (List Int × Int)} {k : Nat} {p : V × Int} {r : List Int × Int} (hp : rv[k]? = some p) (hr : rs[k]? = some r) : (rowsP rv rs)[k]? = some (.own 1 intC p.1 r.1) := by
  unfold rowsP
  rw [List.getElem?_zipWith, hp, hr]
theorem rows_pack {H : Heap} {u : V} {rv : List (V × Int)} {rs : List (List Int × Int)} (h : (pack (rowsR u rv rs)).p H) (hl : Like rv rs) : Rows H u rs := by
  have hm := pack_mem h
  refine ⟨rv, hm.sl .here, hl.1, fun k p r hp hr => ⟨hm.sl (.there (Has.nth (rowsP_get hp hr))), hl.2 k p r hp hr⟩⟩

end Go.Proofs.Ytengdmagaeckoaa.VM

/- Layer 18, the plain law: events, how many are a member's, which may be (split out of LinA, LinB, LinD; for seats that also have configs). -/
namespace Go.Proofs.Ytengdmagaeckoaa.VM
open Go
set_option linter.unusedVariables false
set_option linter.unusedSimpArgs false
attribute [local irreducible] wq wqL wqD wqE wqO Th Bk EndR
set_option maxHeartbeats 8000000

structure Ev where
  kind : Int
  member : Int
  donor : Int
  at_ : Int
  rate : Int
  mom : Int
  deriving DecidableEq, Inhabited
def Ev.cells (e : Ev) : List V := [.int .i64 e.kind, .int .i64 e.member, .int .i64 e.donor, .int .i64 e.at_, .int .i64 e.rate, .int .i64 e.mom]
def evC (cs : List V) (e : Ev) : Prop := cs = [.int .i64 e.kind, .int .i64 e.member, .int .i64 e.donor, .int .i64 e.at_, .int .i64 e.rate, .int .i64 e.mom]
def manyOf (es : List Ev) (m : Int) : Nat := (es.filter fun e => e.member == m).length
theorem manyOf_succ {es : List Ev} {m : Int} {k : Nat} {e : Ev} (he : es[k]? = some e) : manyOf (es.take (k + 1)) m = manyOf (es.take k) m + if e.member = m then 1 else 0 := by
  unfold manyOf
  rw [List.take_add_one, he, List.filter_append, List.length_append]
  simp only [Option.toList_some, List.filter_cons, List.filter_nil]
  by_cases h : e.member = m <;> simp [h]
theorem manyOf_le (es : List Ev) (m : Int) : manyOf es m ≤ es.length := List.length_filter_le ..
theorem ev_eq (a b : Ev) : (a.kind == b.kind && (a.member == b.member && (a.donor == b.donor && (a.at_ == b.at_ && (a.rate == b.rate && (a.mom == b.mom && true)))))) = decide (a = b) := by
  obtain ⟨_, _, _, _, _, _⟩ := a
  obtain ⟨_, _, _, _, _, _⟩ := b
  apply Bool.eq_iff_iff.2
  simp [Ev.mk.injEq]
theorem take_succ_eq {α : Type} {xs ys : List α} {k : Nat} {x y : α} (h : xs.take k = ys.take k) (hx : xs[k]? = some x) (hy : ys[k]? = some y) (e : x = y) : xs.take (k + 1) = ys.take (k + 1) := by
  rw [List.take_add_one, List.take_add_one, h, hx, hy, e]
def explored (es : List Ev) (m : Int) : Bool :=
  match es.reverse.find? fun e => e.member == m with
  | some e => e.kind == 1
  | none => false
theorem explored_succ {es : List Ev} {m : Int} {k : Nat} {e : Ev} (he : es[k]? = some e) : explored (es.take (k + 1)) m = if e.member = m then e.kind == 1 else explored (es.take k) m := by
  unfold explored
  rw [List.take_add_one, he]
  simp only [Option.toList_some, List.reverse_append, List.reverse_cons, List.reverse_nil, List.nil_append, List.cons_append, List.find?_cons]
  by_cases h : e.member = m
  · simp [h]
  · rw [if_neg h]
    have : (e.member == m) = false := by simpa using h
    rw [this]
def evMay (es : List Ev) (n : Int) (e : Ev) : Bool :=
  within e.member 0 (n - 1) &&
  (if e.kind = 0 then e.donor == 0 && e.at_ == 0 && (e.rate == 0 && e.mom == 0)
   else if e.kind = 1 then within e.donor 0 (n - 1) && e.donor != e.member && e.at_ == (manyOf es e.donor : Int) && (e.rate == 0 && e.mom == 0)
   else if e.kind = 2 then e.donor == 0 && e.at_ == 0 && hyperMay e.rate e.mom && explored es e.member
   else false)
def eventsMay (es : List Ev) (n : Int) : Bool :=
  within n 1 8 && decide (es.length ≤ 1024) && (List.range es.length).all fun k => match es[k]? with | some e => evMay (es.take k) n e | none => true
theorem eventsMay_no {es : List Ev} {n : Int} {k : Nat} {e : Ev} (he : es[k]? = some e) (h : evMay (es.take k) n e = false) : eventsMay es n = false := by
  have hk : k < es.length := (List.getElem?_eq_some_iff.1 he).1
  unfold eventsMay
  rw [Bool.and_eq_false_iff]
  right
  rw [List.all_eq_false]
  exact ⟨k, by simp [hk], by simp [he, h]⟩
theorem eventsMay_yes {es : List Ev} {n : Int} (hn : within n 1 8 = true) (hl : es.length ≤ 1024) (h : ∀ (k : Nat) e, es[k]? = some e → evMay (es.take k) n e = true) : eventsMay es n = true := by
  unfold eventsMay
  simp only [hn, hl, decide_true, Bool.true_and, List.all_eq_true, List.mem_range]
  intro k hk
  have : es[k]? = some es[k] := by simp [hk]
  rw [this]
  exact h k _ this
theorem all_succ {es : List Ev} {p : Nat → Ev → Prop} {k : Nat} {e0 : Ev} (hall : ∀ (j : Nat) e, j < k → es[j]? = some e → p j e) (he : es[k]? = some e0) (h : p k e0) : ∀ (j : Nat) e, j < k + 1 → es[j]? = some e → p j e := fun j e hj hje => by
  by_cases hjk : j = k
  · subst hjk; rw [he] at hje; cases hje; exact h
  · exact hall j e (by omega) hje
theorem no_more {es : List Ev} {n : Int} {k : Nat} {e : Ev} {H h' : Heap} {v' : V} (he : es[k]? = some e) (e1 : v' = .bool false) (e2 : evMay (es.take k) n e = false) (e3 : H <+: h') : v' = .bool (eventsMay es n) ∧ H <+: h' := ⟨by rw [e1, eventsMay_no he e2], e3⟩
theorem evMay_0 {es : List Ev} {n : Int} {e : Ev} (h : e.kind = 0) : evMay es n e = (within e.member 0 (n - 1) && (e.donor == 0 && e.at_ == 0 && (e.rate == 0 && e.mom == 0))) := by simp [evMay, h]
theorem evMay_1 {es : List Ev} {n : Int} {e : Ev} (h : e.kind = 1) : evMay es n e = (within e.member 0 (n - 1) && (within e.donor 0 (n - 1) && e.donor != e.member && e.at_ == (manyOf es e.donor : Int) && (e.rate == 0 && e.mom == 0))) := by simp [evMay, h]
theorem evMay_2 {es : List Ev} {n : Int} {e : Ev} (h : e.kind = 2) : evMay es n e = (within e.member 0 (n - 1) && (e.donor == 0 && e.at_ == 0 && hyperMay e.rate e.mom && explored es e.member)) := by simp [evMay, h]
theorem evMay_3 {es : List Ev} {n : Int} {e : Ev} (h0 : e.kind ≠ 0) (h1 : e.kind ≠ 1) (h2 : e.kind ≠ 2) : evMay es n e = false := by simp [evMay, h0, h1, h2]
def lastKind (es : List Ev) (m : Int) : Int :=
  match es.reverse.find? fun e => e.member == m with
  | some e => e.kind
  | none => 0
theorem lastKind_snoc (es : List Ev) (e : Ev) (m : Int) : lastKind (es ++ [e]) m = if e.member = m then e.kind else lastKind es m := by
  unfold lastKind
  simp only [List.reverse_append, List.reverse_cons, List.reverse_nil, List.nil_append, List.cons_append, List.find?_cons]
  by_cases h : e.member = m
  · simp [h]
  · rw [if_neg h]
    have : (e.member == m) = false := by simpa using h
    rw [this]
theorem manyOf_snoc (es : List Ev) (e : Ev) (m : Int) : manyOf (es ++ [e]) m = manyOf es m + if e.member = m then 1 else 0 := by
  unfold manyOf
  rw [List.filter_append, List.length_append]
  by_cases h : e.member = m <;> simp [h]
theorem explored_last (es : List Ev) (m : Int) : explored es m = (decide ((manyOf es m : Int) > 0) && lastKind es m == 1) := by
  unfold explored lastKind manyOf
  cases h : es.reverse.find? fun e => e.member == m with
  | none => simp
  | some e =>
    have h1 := List.find?_some h
    have h2 := List.mem_of_find?_eq_some h
    have : 0 < (es.filter fun e => e.member == m).length := by
      apply List.length_pos_iff_exists_mem.2
      exact ⟨e, by simp [List.mem_filter]; exact ⟨by simpa using h2, by simpa using h1⟩⟩
    simp only [this, decide_true, Bool.true_and, Int.natCast_pos, gt_iff_lt]
end Go.Proofs.Ytengdmagaeckoaa.VM
