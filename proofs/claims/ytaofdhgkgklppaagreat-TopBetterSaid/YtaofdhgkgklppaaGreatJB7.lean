/- Joined texts: InitB, TrainE, HelpC, TrainF, PutA, PutB, MembA, GetP, MembB, LossA, StoreA, StoreB. -/
import Derived.Test.YtaofdhgkgklppaaGreatJB3
import Derived.Test.YtaofdhgkgklppaaGreatJB4
import Derived.Test.YtaofdhgkgklppaaGreatJB5
import Derived.Test.YtaofdhgkgklppaaGreatJB6
namespace Go.Proofs.YtaofdhgkgklppaaGreat.VM
open Go
set_option linter.unusedVariables false
set_option linter.unusedSimpArgs false
attribute [local irreducible] wq wqL wqD wqE wqO Th Bk EndR
set_option maxHeartbeats 8000000
theorem refFirst_good (H : Heap) (c : Cfg) (rv : V) (id : Int) (hr : Rows H rv c.rows) (hc : cfgMay c = true) (hid : 0 ≤ id ∧ id < c.m) :
  ∃ w H', Call Tryz.prog 58 [.agg (cfgC c rv), .int .i64 id] H w H' ∧ ∃ u1 u2, w = .tup [.agg (memC u1 u2 (firstR c id) (firstM c id) 0 0), .str (strOf (firstS c id)), .int .i64 0] ∧ Mem H H' [.own 1 intC u2 (firstV c), .own 1 intC u1 (firstW c id)] := by
 have hfit := first_fits hc id
 simp only [memFits, Bool.and_eq_true] at hfit
 obtain ⟨hchk, _⟩ := hfit
 obtain ⟨hm2, hloss, hseed, _⟩ := cfgMay_split hc
 obtain ⟨hs, hr1, hr8, hrok⟩ := lossMay_split hloss
 obtain ⟨a, b, ha, hb, ha1, ha3, hb1, hb3⟩ := shape_ab hs
 have h16 := size16 ha3 hb3
 obtain ⟨s, hse⟩ : ∃ s : Nat, c.seed = s := ⟨c.seed.toNat, by omega⟩
 obtain ⟨d, hd⟩ : ∃ d : Nat, id = d := ⟨id.toNat, by omega⟩
 have hWl : (firstW c id).length = netSize a b := by unfold firstW; rw [ha, hb]; simp only [Int.toNat_natCast]; exact initL_len _ _ _ _
 have hZr : firstV c = List.replicate (netSize a b) 0 := by unfold firstV; rw [ha, hb]; simp only [Int.toNat_natCast]
 have hW' : initL a b s (50000 + 16 * d) = firstW c id := by unfold firstW; rw [ha, hb, hse, hd]; simp only [Int.toNat_natCast]
 have hR' : ((rateN s (40000 + 2 * d) : Nat) : Int) = firstR c id := by unfold firstR; rw [hse, hd]; simp only [Int.toNat_natCast]
 have hM' : ((momN s (40000 + 2 * d) : Nat) : Int) = firstM c id := by unfold firstM; rw [hse, hd]; simp only [Int.toNat_natCast]
 have hS' : putL (firstW c id) (firstV c) (firstR c id) (firstM c id) 0 = firstS c id := rfl
 have w0 : IntKind.i64.wrap (c.m - 1) = c.m - 1 := wrap_i64 (by omega) (by omega)
 have w1 : IntKind.i64.wrap (16 * id) = 16 * id := wrap_i64 (by omega) (by omega)
 have w2 : IntKind.i64.wrap (50000 + 16 * id) = ((50000 + 16 * d : Nat) : Int) := by rw [wrap_i64 (by omega) (by omega)]; omega
 have lrow : ∀ r ∈ c.rows, r.1.length ≤ 2 ^ 47 := fun rr hrr => by
  have := hrok rr hrr
  simp only [rowOk, Bool.and_eq_true] at this
  have := vecMay_len (feeds_split this.1).2
  omega
 generalize firstW c id = W at *
 generalize firstV c = Z at *
 generalize firstR c id = r at *
 generalize firstM c id = m at *
 generalize firstS c id = S at *
 refine call_mem fit mixed Tryz.func58 rfl rfl rfl (by kernel_rfl) fun hM => ?_
 refine wq_seq (wq_line ?_)
 refine l_boxM T26 fun b1 H1 hM => ?_
 refine l_newM (cs := zeroMem) T51 rfl fun b2 H2 hM => ?_
 have c1 := refConfMay_ H2 c rv (hr.mono hM.pre) (by omega) lrow
 rw [hc] at c1
 have c2 := upTo12_ H2 id 0 (c.m - 1)
 rw [within_iff.2 ⟨hid.1, by omega⟩] at c2
 obtain ⟨u1, H3, c3, m3⟩ := refInit_ H2 a b s (50000 + 16 * d) ⟨ha1, ha3⟩ ⟨hb1, hb3⟩ (by omega) (by omega)
 rw [hW'] at m3
 rw [← ha, ← hb, ← hse] at c3
 have c4 := refFirstHyper_ H3 s d (by omega) (by omega)
 rw [hR', hM', ← hse, ← hd] at c4
 have hlen := m3.sl.len T27 rfl
 rw [hWl] at hlen
 have t1 := m3.sl.cells
 have t2 := m3.sl.two
 clear hid hm2 hloss hseed hs hr1 hr8 hrok ha hb ha1 ha3 hb1 hb3 hse hd hW' hR' hM' hWl lrow
 refine goM ?_
 refine l_callG c1 ?_
 refine goM ?_
 refine l_callG c2 ?_
 refine goM ?_
 refine l_callG c3 ?_
 replace hM := hM.call1 m3.mem
 refine goM ?_
 refine l_callG c4 ?_
 refine goM ?_
 refine l_newM (cs := [.int .i64 0, .int .i64 0]) T43 rfl fun b3 H4 hM => ?_
 refine l_putM T43 fun H5 hM => ?_
 refine goM ?_
 refine d_makeM 1 intC T27 rfl T3 (n := netSize a b) (z := 0) rfl rfl rfl rfl rfl ⟨by show (8 : Int) * _ ≤ _; omega, by omega⟩ fun u2 H6 hM => ?_
 rw [← hZr] at hM
 have t3 := (hM.sl .here).cells
 refine goM ?_
 refine d_newM (cs := zeroChk) T45 rfl fun b4 H7 hM => ?_
 refine d_putM T45 fun H8 hM => ?_
 have c5 := refPut_good H8 u1 u2 W Z r m 0 (hM.slG) (hM.slG) hchk
 rw [hS'] at c5
 refine goM ?_
 refine l_callG c5 ?_
 refine goM ?_
 refine l_putM T51 fun H9 hM => ?_
 refine goM ?_
 exact end_3 (by first | exact .inl rfl | exact .inr rfl) ⟨_, _, rfl, hM.subG⟩
structure Chk where
 ws : List Int
 vs : List Int
 r : Int
 m : Int
 t : Int
abbrev kC (w v : V) (k : Chk) : List V := [w, v, .int .i64 k.r, .int .i64 k.m, .int .i64 k.t]
abbrev noChk : Chk := ⟨[], [], 0, 0, 0⟩
def kMay (k : Chk) : Bool := chkMay k.ws k.vs k.r k.m k.t
def kFits (c : Cfg) (k : Chk) : Bool := memFits c.i c.h k.ws k.vs k.r k.m k.t
def kEq (a b : Chk) : Bool := eqChk a.ws a.vs a.r a.m a.t b.ws b.vs b.r b.m b.t
theorem kEq_self (a : Chk) : kEq a a = true := by simp [kEq, eqChk, eqHyper]
structure KAt (H : Heap) (w v : V) (k : Chk) : Prop where
 ws : Sl 1 intC H w k.ws
 vs : Sl 1 intC H v k.vs
theorem KAt.mono {H H' : Heap} {w v : V} {k : Chk} (hp : H <+: H') (h : KAt H w v k) : KAt H' w v k := ⟨h.ws.mono hp, h.vs.mono hp⟩
theorem Mem.k {B H : Heap} {L : List Res} {w v : V} {k : Chk} {f g : Res → List Res} (h : Mem B H L) (h1 : Has L (.own 1 intC w k.ws) f) (h2 : Has L (.own 1 intC v k.vs) g) : KAt H w v k := ⟨h.sl h1, h.sl h2⟩
structure Chk.Fit (k : Chk) : Prop where
 ws : k.ws.length * 8 ≤ 140737488351232
 vs : k.vs.length * 8 ≤ 140737488351232
structure Cfg.Fit (c : Cfg) : Prop where
 rows : c.rows.length * 32 ≤ 140737488351232
 row : ∀ r ∈ c.rows, r.1.length * 8 ≤ 140737488351232
def trainOk (c : Cfg) (id : Int) (k : Chk) : Bool := cfgMay c && within id 0 (IntKind.i64.wrap (c.m - 1)) && kFits c k
def trainK (c : Cfg) (id : Int) (k : Chk) : Chk := ⟨nextL k.r k.m k.ws k.vs (trainG c id k.ws k.t), speedL k.m k.ws k.vs (trainG c id k.ws k.t), k.r, k.m, k.t + 1⟩
def trainR (c : Cfg) (id : Int) (k : Chk) : Chk × Int :=
 if trainOk c id k then if k.t ≥ c.total then (noChk, 2101) else (trainK c id k, 0) else (noChk, 2100)
theorem cells_ints (xs : List Int) : Cells 1 intC (xs.flatMap fun x => [V.int .i64 x]) xs := cells_of (R := intC) (fun x => [V.int .i64 x]) (fun x => ⟨rfl, rfl⟩) xs
theorem cells_rows (xs : List (V × Int)) : Cells 2 rowC (xs.flatMap fun p => [p.1, V.int .i64 p.2]) xs := cells_of (R := rowC) (fun p => [p.1, V.int .i64 p.2]) (fun x => ⟨rfl, rfl⟩) xs
theorem two_mem {H H' : Heap} {b1 b2 : Nat} {u1 u2 : V} {xs ys : List Int} (hp : H <+: H') (h1 : H.length ≤ b1) (h2 : H.length ≤ b2) (hne : b1 ≠ b2) (o1 : Own 1 intC H' b1 u1 xs) (o2 : Own 1 intC H' b2 u2 ys) : Mem H H' [.own 1 intC u1 xs, .own 1 intC u2 ys] := by
 have e1 := o1.blk
 have e2 := o2.blk
 refine ⟨hp, fun r hr => ?_, fun r hr c hc => ?_, ?_⟩
 ·simp at hr
  rcases hr with rfl | rfl
  ·exact .inr ⟨_, o1⟩
  ·exact .inr ⟨_, o2⟩
 ·simp at hr
  rcases hr with rfl | rfl
  ·have := e1.symm.trans hc; cases this; exact h1
  ·have := e2.symm.trans hc; cases this; exact h2
 ·simp only [List.pairwise_cons, List.mem_singleton, forall_eq, List.not_mem_nil, false_implies, implies_true, List.Pairwise.nil, and_true]
  intro c hc hc2
  have a := e1.symm.trans hc
  have b := e2.symm.trans hc2
  cases a; cases b; exact hne rfl
theorem two_mine {H H' : Heap} {u1 u2 : V} {xs ys : List Int} (h1 : Mine 1 intC H H' u1 xs) (h2 : Mine 1 intC H H' u2 ys) (ha : Apart u1 u2) : Mem H H' [.own 1 intC u1 xs, .own 1 intC u2 ys] := by
 have m1 := h1.mem
 have m2 := h2.mem
 refine ⟨h1.1, fun r hr => ?_, fun r hr => ?_, ?_⟩
 ·simp at hr
  rcases hr with rfl | rfl
  ·exact m1.ok _ (by simp)
  ·exact m2.ok _ (by simp)
 ·simp at hr
  rcases hr with rfl | rfl
  ·exact m1.low _ (by simp)
  ·exact m2.low _ (by simp)
 ·simp only [List.pairwise_cons, List.mem_singleton, forall_eq, List.not_mem_nil, false_implies, implies_true, List.Pairwise.nil, and_true]
  intro c hc hc2
  exact ha c c hc hc2 rfl
theorem wrap_m {m : Int} (h : 2 ≤ m ∧ m ≤ 8) : IntKind.i64.wrap (m - 1) = m - 1 := wrap_i64 (by omega) (by omega)
theorem trainOk_split {c : Cfg} {id : Int} {k : Chk} (h : trainOk c id k = true) : cfgMay c = true ∧ (0 ≤ id ∧ id < c.m) ∧ kFits c k = true := by
 unfold trainOk at h
 rw [Bool.and_eq_true, Bool.and_eq_true] at h
 obtain ⟨⟨h1, h2⟩, h3⟩ := h
 obtain ⟨hm, _⟩ := cfgMay_split h1
 rw [wrap_m hm, within_iff] at h2
 exact ⟨h1, by omega, h3⟩
theorem one_ (H : Heap) (c : Cfg) (rv w v : V) (id : Int) (k : Chk) (hr : Rows H rv c.rows) (hk : KAt H w v k) (hc : c.Fit) (hf : k.Fit) :
  ∃ a b H', Call Tryz.prog 62 [.agg (cfgC c rv), .int .i64 id, .agg (kC w v k)] H (.tup [.agg (kC a b (trainR c id k).1), .int .i64 (trainR c id k).2]) H' ∧ Mem H H' [.own 1 intC a (trainR c id k).1.ws, .own 1 intC b (trainR c id k).1.vs] := by
 have l1 := hc.rows
 have l2 := hc.row
 have l3 := hf.ws
 have l4 := hf.vs
 have bad : ∀ e, ((trainOk c id k) = false ∧ e = 2100) ∨ ((trainOk c id k) = true ∧ decide (k.t ≥ c.total) = true ∧ e = 2101) → ∃ a b H', Call Tryz.prog 62 [.agg (cfgC c rv), .int .i64 id, .agg (kC w v k)] H (.tup [.agg (kC a b noChk), .int .i64 e]) H' ∧ Mem H H' [.own 1 intC a noChk.ws, .own 1 intC b noChk.vs] := fun e he =>
  ⟨.nils, .nils, H, one_bad H c rv w v k.ws k.vs id k.r k.m k.t e hr hk.ws hk.vs (by omega) (fun r h => by have := l2 r h; omega) (by omega) (by omega) he, ((Mem.start H).nil 1 intC).nil 1 intC⟩
 unfold trainR
 cases hok : trainOk c id k with
 | false => exact bad 2100 (.inl ⟨hok, rfl⟩)
 | true =>
  by_cases ht : k.t ≥ c.total
  ·simp only [ht, if_true]
   exact bad 2101 (.inr ⟨hok, decide_eq_true ht, rfl⟩)
  ·obtain ⟨h1, h2, h3⟩ := trainOk_split hok
   obtain ⟨u1, u2, H', b1, b2, c1, hp, e1, e2, hne, o1, o2⟩ := one_good H c rv w v k.ws k.vs id k.r k.m k.t hr hk.ws hk.vs h1 h2 h3 (by omega)
   simp only [ht, if_true, if_false]
   exact ⟨u1, u2, H', c1, two_mem hp e1 e2 hne o1 o2⟩
theorem refTrain_ (H : Heap) (c : Cfg) (rv w v : V) (id : Int) (k : Chk) (hr : Rows H rv c.rows) (hk : KAt H w v k) (hc : c.Fit) (hf : k.Fit) :
  ∃ a b H', Call Tryz.prog 32 [.agg (cfgC c rv), .int .i64 id, .agg (kC w v k)] H (.tup [.agg (kC a b (trainR c id k).1), .int .i64 (trainR c id k).2]) H' ∧ Mem H H' [.own 1 intC a (trainR c id k).1.ws, .own 1 intC b (trainR c id k).1.vs] := by
 have l1 := hc.rows
 have l2 := hc.row
 have l3 := hf.ws
 have l4 := hf.vs
 have bad : ∀ e, ((trainOk c id k) = false ∧ e = 2100) ∨ ((trainOk c id k) = true ∧ decide (k.t ≥ c.total) = true ∧ e = 2101) → ∃ a b H', Call Tryz.prog 32 [.agg (cfgC c rv), .int .i64 id, .agg (kC w v k)] H (.tup [.agg (kC a b noChk), .int .i64 e]) H' ∧ Mem H H' [.own 1 intC a noChk.ws, .own 1 intC b noChk.vs] := fun e he =>
  ⟨.nils, .nils, H, refTrain_bad H c rv w v k.ws k.vs id k.r k.m k.t e hr hk.ws hk.vs (by omega) (fun r h => by have := l2 r h; omega) (by omega) (by omega) he, ((Mem.start H).nil 1 intC).nil 1 intC⟩
 unfold trainR
 cases hok : trainOk c id k with
 | false => exact bad 2100 (.inl ⟨hok, rfl⟩)
 | true =>
  by_cases ht : k.t ≥ c.total
  ·simp only [ht, if_true]
   exact bad 2101 (.inr ⟨hok, decide_eq_true ht, rfl⟩)
  ·obtain ⟨h1, h2, h3⟩ := trainOk_split hok
   obtain ⟨u1, u2, H', c1, o1, o2, ha⟩ := refTrain_good H c rv w v k.ws k.vs id k.r k.m k.t hr hk.ws hk.vs h1 h2 h3 (by omega)
   simp only [ht, if_true, if_false]
   exact ⟨u1, u2, H', c1, two_mine o1 o2 ha⟩
def rowsFact (v : V) (rv : List (V × Int)) (rs : List (List Int × Int)) : Fact where
 S c := v.blk = some c ∨ ∃ q ∈ rv, q.1.blk = some c
 p H := Sl 2 rowC H v rv ∧ RowsAt H rv rs
 st H H' h hf := ⟨h.1.fr fun c _ hc => hf c (.inl hc), h.2.1, fun k q r hq hr => ⟨(h.2.2 k q r hq hr).1.fr fun c _ hc => hf c (.inr ⟨q, List.mem_iff_getElem?.2 ⟨k, hq⟩, hc⟩), (h.2.2 k q r hq hr).2⟩⟩
 lt H c h hc := by
  rcases hc with hc | ⟨q, hq, hc⟩
  ·exact h.1.lt hc
  ·obtain ⟨k, hk⟩ := List.mem_iff_getElem?.1 hq
   obtain ⟨r, hr⟩ : ∃ r, rs[k]? = some r := ⟨rs[k]'(by have := (List.getElem?_eq_some_iff.1 hk).1; have := h.2.1; omega), by simp⟩
   exact (h.2.2 k q r hk hr).1.lt hc
theorem rows_of {H : Heap} {v : V} {rv : List (V × Int)} {rs : List (List Int × Int)} (h : (rowsFact v rv rs).p H) : Rows H v rs := ⟨rv, h.1, h.2⟩
theorem RowsM.mem {B H : Heap} {v : V} {rs : List (List Int × Int)} (h : RowsM B H v rs) : ∃ rv, Mem B H [.ro (rowsFact v rv rs)] := by
 obtain ⟨rv, h1, h2, h3⟩ := h
 refine ⟨rv, Mem.mkro h1.1 ⟨h1.sl, h2⟩ fun c hc => ?_⟩
 rcases hc with hc | ⟨q, hq, hc⟩
 ·exact (h1.blk hc).1
 ·exact h3 q hq c hc
def Held (p : Prop) : Prop := p
def smallC : Cfg := ⟨2, 1, 1, [([65536], 32768), ([-65536], 0)], 7, 3, 1, 1, true⟩
theorem small_may : cfgMay smallC = true := by decide +kernel
theorem small_fit : smallC.Fit := ⟨by decide, fun r hr => by
 rcases List.mem_cons.1 hr with rfl | hr
 ·simp
 ·rcases List.mem_cons.1 hr with rfl | hr
  ·simp
  ·cases hr⟩
def firstK (c : Cfg) (id : Int) : Chk := ⟨firstW c id, firstV c, firstR c id, firstM c id, 0⟩
abbrev mC (w v : V) (k : Chk) (h : Int) : List V := [w, v, .int .i64 k.r, .int .i64 k.m, .int .i64 k.t, .int .i64 h]
theorem chkMay_t {ws vs : List Int} {r m t t' : Int} (h : chkMay ws vs r m t = true) (ht : 0 ≤ t' ∧ t' ≤ 32) : chkMay ws vs r m t' = true := by
 unfold chkMay at h ⊢
 simp only [Bool.and_eq_true, decide_eq_true_eq] at h ⊢
 exact ⟨⟨h.1.1, ht.1⟩, ht.2⟩
theorem kFits_t {c : Cfg} {k : Chk} {t : Int} (h : kFits c k = true) (ht : 0 ≤ t ∧ t ≤ 32) : kFits c { k with t := t } = true := by
 unfold kFits memFits at h ⊢
 rw [Bool.and_eq_true] at h ⊢
 exact ⟨chkMay_t h.1 ht, h.2⟩
theorem firstK_fits {c : Cfg} (hc : cfgMay c = true) (id : Int) : kFits c (firstK c id) = true := first_fits hc id
theorem kFits_fit {c : Cfg} {k : Chk} (h : kFits c k = true) : k.Fit := by
 unfold kFits memFits at h
 rw [Bool.and_eq_true] at h
 obtain ⟨a, b, l, _⟩ := chkMay_split h.1
 have := vecMay_len a
 have := vecMay_len b
 exact ⟨by omega, by omega⟩
theorem trainOk_of {c : Cfg} {id : Int} {k : Chk} (hc : cfgMay c = true) (hid : 0 ≤ id ∧ id < c.m) (hk : kFits c k = true) : trainOk c id k = true := by
 obtain ⟨hm, _⟩ := cfgMay_split hc
 unfold trainOk
 rw [hc, hk, wrap_m hm, within_iff.2 ⟨hid.1, by omega⟩]; rfl
theorem trainR_go {c : Cfg} {id : Int} {k : Chk} (hc : cfgMay c = true) (hid : 0 ≤ id ∧ id < c.m) (hk : kFits c k = true) (ht : k.t < c.total) : trainR c id k = (trainK c id k, 0) := by
 unfold trainR
 rw [if_pos (trainOk_of hc hid hk), if_neg (by omega)]
theorem trainR_done {c : Cfg} {id : Int} {k : Chk} (hc : cfgMay c = true) (hid : 0 ≤ id ∧ id < c.m) (hk : kFits c k = true) (ht : c.total ≤ k.t) : trainR c id k = (noChk, 2101) := by
 unfold trainR
 rw [if_pos (trainOk_of hc hid hk), if_pos ht]
theorem sameK_ (H : Heap) (w v w' v' : V) (k k' : Chk) (h : KAt H w v k) (h' : KAt H w' v' k') (hf : k.Fit) :
  Call Tryz.prog 25 [.agg (kC w v k), .agg (kC w' v' k')] H (.bool (kEq k k')) H := by
 have l1 := hf.ws
 have l2 := hf.vs
 exact sameCheck_ H w v w' v' k.ws k.vs k'.ws k'.vs k.r k.m k.t k'.r k'.m k'.t h.ws h.vs h'.ws h'.vs (by omega) (by omega)
theorem fdiv_step (x : Int) (j : Nat) (h : 8 * j + 8 ≤ 64) : (x.fdiv (2 ^ min (8 * j) IntKind.i64.bits)).fdiv (2 ^ (min ((8 : Int).toNat) IntKind.i64.bits)) = x.fdiv (2 ^ min (8 * (j + 1)) IntKind.i64.bits) := by
 have e1 : min (8 * j) IntKind.i64.bits = 8 * j := by simp [IntKind.bits]; omega
 have e2 : min ((8 : Int).toNat) IntKind.i64.bits = 8 := by decide
 have e3 : min (8 * (j + 1)) IntKind.i64.bits = 8 * j + 8 := by simp [IntKind.bits]; omega
 rw [e1, e2, e3]
 have p1 : (0 : Int) ≤ 2 ^ (8 * j) := Int.pow_nonneg (by decide)
 have p2 : (0 : Int) ≤ 2 ^ 8 := by decide
 rw [Int.fdiv_eq_ediv_of_nonneg _ p1, Int.fdiv_eq_ediv_of_nonneg _ p2, Int.fdiv_eq_ediv_of_nonneg _ (Int.pow_nonneg (by decide)), Int.ediv_ediv_of_nonneg p1, Int.pow_add]
theorem lowL_snoc (x : Int) (k : Nat) : lowL x k ++ [lowK x k] = lowL x (k + 1) := by unfold lowL; rw [List.range_succ, List.map_append]; rfl
theorem put_ (B H : Heap) (L : List Res) (f : Res → List Res) (v : V) (bs : List Int) (x : Int) (hM : Mem B H L) (hh : Has L (.own 1 byteC v bs) f) (hl : bs.length ≤ 1000) :
  ∃ w H', Call Tryz.prog 206 [v, .int .i64 x] H w H' ∧ Mem B H' (f (.own 1 byteC w (bs ++ lowL x 4))) := by
 refine call_turn fit mixed hM Tryz.func206 rfl rfl rfl (by kernel_rfl) fun _ => ?_
 refine goM ?_
 refine wq_loop (fun m ρ hp => ∃ (j : Nat) (u : V) (L' : List Res), j ≤ 4 ∧ m = 4 - j ∧ Mem B hp L' ∧ Has L' (.own 1 byteC u (bs ++ lowL x j)) f ∧ ρ 0 = u ∧ ρ 1 = .int .i64 (x.fdiv (2 ^ min (8 * j) IntKind.i64.bits)) ∧ ρ 5 = .int .i64 (j : Int)) ⟨0, v, L, Nat.zero_le _, rfl, hM, by simpa [lowL] using hh, rfl, ?_, rfl⟩ ?_
 ·show V.int .i64 x = _
  congr 1
  simp [Int.fdiv_one]
 clear hM hh
 rintro _ ρ hp ⟨j, u, L', hj, rfl, hM, hh, h0, h1, h5⟩
 refine goM ?_
 refine cond_go (fun hb => ?_) (fun hb => ?_)
 ·have h4 : ((j : Int) < 4) := by simpa using hb
  have hj' : j < 4 := by omega
  clear hb h4
  have hst := fdiv_step x j (by omega)
  have hwj := wrap_succ (n := j) (by omega)
  have hbl : (bs ++ lowL x j).length = bs.length + j := by rw [List.length_append, lowL_len]
  have hlk : IntKind.u8.wrap (x.fdiv (2 ^ min (8 * j) IntKind.i64.bits)) = lowK x j := rfl
  obtain ⟨s, hs⟩ : ∃ s, x.fdiv (2 ^ min (8 * j) IntKind.i64.bits) = s := ⟨_, rfl⟩
  rw [hs] at hst h1 hlk
  have hsh : vbin T .shr 3 (.int .i64 s) (.int .u64 8) = some (.int .i64 (x.fdiv (2 ^ min (8 * (j + 1)) IntKind.i64.bits))) := by
   simp only [vbin, shiftBin]
   rw [if_neg (by decide), hst]
  clear hst hs
  refine goM ?_
  refine l_sliceM byteC [lowK x j] [.int .u8 (lowK x j)] T77 rfl T5 rfl (Cells.one (sz := 1) rfl rfl) (by decide) fun e1 H1 hM => ?_
  refine goM ?_
  refine l_appM (hM.sl .here) (xs := bs ++ lowL x j) (hh := .there hh) (hb := by rw [hbl]; simp only [List.length_cons, List.length_nil]; omega) fun u2 H2 hM => ?_
  replace hM := hM.drop
  rw [List.append_assoc, lowL_snoc] at hM
  repeat (first | (refine l_pl ?_; refine l_step (s_bin eLk eLk hsh) ?_) | (refine l_pl ?_; refine l_goM ?_) | (refine d_pl ?_; refine d_goM ?_) | (refine l_gd ?_; first | refine l_onG ?_ | refine l_offG ?_ | refine l_offU ?_) | (refine d_gd ?_; first | refine d_onG ?_ | refine d_offG ?_ | refine d_offU ?_) | (refine cond_pl ?_; first | refine cond_yes ?_ | refine cond_no ?_) | refine wq_seq ?_ | refine wq_line ?_ | refine wq_draw (by decide +kernel) ?_ | refine wq_block ?_ | refine l_nil ?_ | refine d_nil ?_ | refine wq_skip ?_ | refine wq_ret ?_ | refine wq_exit ?_ | refine th_normal ?_ | refine th_ret ?_ | refine th_exit ?_ | refine bk_normal ?_ | refine bk_ret ?_ | refine bk_exit ?_ | refine bk_other rfl ?_)
  exact ⟨4 - (j + 1), by omega, j + 1, u2, _, hj', rfl, hM, hh.again _, by simp [put_app, put_none, *]⟩
 ·have h4 : ¬ ((j : Int) < 4) := by simpa using hb
  have hj' : j = 4 := by omega
  subst hj'
  clear hb h4
  refine goM ?_
  refine end_1 (by first | exact .inl rfl | exact .inr rfl) ?_
  rw [hh.same]; exact hM
theorem zeros_len (n : Nat) : (zeros [V.int .i64 0] n).length = n := by
 unfold zeros
 induction n with
 | zero => rfl
 | succ n ih => rw [List.replicate_succ, List.flatten_cons, List.length_append, ih]; simp; omega
theorem news_int (o : Option TI) (ho : o = some { k := .int .i64, size := 1, bytes := 8, zero := [.int .i64 0] }) (H : Heap) (n : Nat) (h2 : n ≤ 1000) : newsOf T o.get! 3 (.int .i64 (n : Int)) H = some (n, zeros [V.int .i64 0] n) := by
 subst ho
 unfold newsOf
 simp only [T3]
 split
 ·simp
 ·rename_i h
  exact absurd ⟨by omega, by show (n : Int) * (8 : Nat) ≤ _; omega, by simp only [IntKind.max, IntKind.signed, IntKind.bits]; simp; omega⟩ h
theorem append_int (o : Option TI) (ho : o = some { k := .int .i64, size := 1, bytes := 8, zero := [.int .i64 0] }) (H : Heap) (n : Nat) (h1 : 1 ≤ n) (h2 : n ≤ 1000) : appendV o.get! .nils n (zeros [V.int .i64 0] n) H = some (.slc H.length 0 n n false 1, H ++ [.row (zeros [V.int .i64 0] n) true]) := by
 subst ho
 show appendV { k := .int .i64, size := 1, bytes := 8, zero := [.int .i64 0] } .nils n (zeros [V.int .i64 0] n) H = _
 unfold appendV
 rw [if_neg (by rw [zeros_len]; simp)]
 simp only
 rw [if_neg (by omega), if_pos ⟨by omega, by omega⟩]
theorem grow_ (H : Heap) (n : Nat) (h1 : 1 ≤ n) (h2 : n ≤ 1000) : ∃ w H', Call Tryz.prog 224 [.nils, .int .i64 (n : Int)] H w H' ∧ Mem H H' [.own 1 intC w []] := by
 refine call_mem fit mixed Tryz.func224 rfl rfl rfl (by kernel_rfl) fun hM => ?_
 have d1 : decide ((n : Int) < 0) = false := decide_eq_false (by omega)
 have d2 : decide ((n : Int) > 0) = true := decide_eq_true (by omega)
 have w0 : IntKind.i64.wrap ((0 : Int) - 0) = 0 := rfl
 have w1 : IntKind.i64.wrap ((n : Int) - 0) = (n : Int) := by rw [Int.sub_zero]; exact wrap_nat (by omega)
 have hn := news_int (T 3) T3 H n h2
 have ha := append_int (T 3) T3 H n h1 h2
 have hM2 : Mem H (H ++ [.row (zeros [V.int .i64 0] n) true]) [.own 1 intC (.slc H.length 0 0 n false 1) ([] : List Int)] := by
  refine Mine.mem ⟨List.prefix_append _ _, .inr ⟨H.length, Nat.le_refl _, n, false, _, rfl, Nat.zero_le _, by simp; rfl, by rw [zeros_len]; omega, by simp, ?_⟩⟩
  simpa using Cells.nil (R := intC) (sz := 1)
 have hsl : sliceV 1 (.slc H.length 0 n n false 1) none (some (.int .i64 0)) none = some (.slc H.length 0 0 n false 1) := by
  simp [sliceV, boundV, V.asIdx]
 clear hM
 refine goM ?_
 refine l_appendG hn ha ?_
 refine goM ?_
 exact end_1 (by first | exact .inl rfl | exact .inr rfl) hM2
def oneVC (cs : List V) (v : V) : Prop := cs = [v]
theorem flat_next {xss : List (List Int)} {k : Nat} {xs : List Int} (h : xss[k]? = some xs) : (xss.take (k + 1)).flatten = (xss.take k).flatten ++ xs := by
 rw [List.take_add_one, h]; simp
theorem flat_le (xss : List (List Int)) : ∀ k, (xss.take k).flatten.length ≤ xss.flatten.length := fun k => by
 have h : xss.flatten = (xss.take k).flatten ++ (xss.drop k).flatten := by rw [← List.flatten_append, List.take_append_drop]
 rw [h, List.length_append]; omega
theorem concat_ (H : Heap) (v : V) (us : List V) (xss : List (List Int)) (n : Nat) (hv : Sl 1 oneVC H v us) (hl : us.length = xss.length) (hl2 : us.length ≤ 100) (hall : ∀ (k : Nat) u xs, us[k]? = some u → xss[k]? = some xs → Sl 1 intC H u xs) (hn : xss.flatten.length = n) (h1 : 1 ≤ n) (h2 : n ≤ 1000) :
  ∃ w H', Call Tryz.prog 205 [v] H w H' ∧ Mem H H' [.own 1 intC w xss.flatten] := by
 have s0 := hv.cells
 have hlen := hv.len T238 rfl
 obtain ⟨q, hq⟩ : ∃ q, us.length = q := ⟨_, rfl⟩
 rw [hq] at hlen hl hl2
 have hl3 := hl.symm
 clear hl
 have hfl := flat_le xss
 rw [hn] at hfl
 refine call_mem fit mixed Tryz.func205 rfl rfl rfl (by kernel_rfl) fun hM => ?_
 refine goM ?_
 refine wq_loop (fun m ρ hp => ∃ k : Nat, k ≤ q ∧ m = q - k ∧ hp = H ∧ ρ 0 = v ∧ ρ 3 = .int .i64 ((xss.take k).flatten.length : Nat) ∧ ρ 9 = v ∧ ρ 10 = .int .i64 (q : Int) ∧ ρ 11 = .int .i64 (k : Int)) ⟨0, Nat.zero_le _, by omega, rfl, rfl, by simp [put_app, put_none, *], by simp [put_app, put_none, *], by simp [put_app, put_none, *], by simp [put_app, put_none, *]⟩ ?_
 rintro _ ρ hp ⟨k, hk, rfl, hpe, g0, g3, g9, g10, g11⟩
 subst hpe
 refine goM ?_
 refine cond_go (fun hb => ?_) (fun hb => ?_)
 ·have hk' : k < q := by simpa using hb
  clear hb
  obtain ⟨u, hu⟩ : ∃ u, us[k]? = some u := ⟨us[k]'(by omega), by simp⟩
  obtain ⟨xs, hxs⟩ : ∃ xs, xss[k]? = some xs := ⟨xss[k]'(by omega), by simp⟩
  have hxl := (hall k u xs hu hxs).len T27 rfl
  obtain ⟨b1, o1, _, hi1, rfl, _, hlo1, _⟩ := hv.get T238 rfl T27 rfl hu
  have ho1 := loadV_one T27 rfl hlo1
  have hnx := flat_next hxs
  have hle := hfl (k + 1)
  have hsum : IntKind.i64.wrap (((xss.take k).flatten.length : Int) + (xs.length : Int)) = ((xss.take (k + 1)).flatten.length : Int) := by
   rw [hnx, List.length_append] at hle ⊢
   rw [wrap_i64 (by omega) (by omega)]; omega
  have d1 : decide (((xss.take (k + 1)).flatten.length : Int) < 0) = false := decide_eq_false (by omega)
  have hw := wrap_succ (n := k) (by omega)
  clear hlo1 hnx hle hxs hu
  refine goM ?_
  exact ⟨q - (k + 1), by omega, k + 1, hk', rfl, rfl, by simp [put_app, put_none, *]⟩
 ·have hk' : k = q := by have : ¬ k < q := by simpa using hb
                         omega
  subst hk'
  clear hb
  rw [List.take_of_length_le (by omega), hn] at g3
  obtain ⟨u0, H1, c1, m1⟩ := grow_ hp n h1 h2
  refine goM ?_
  refine l_callG c1 ?_
  clear c1 hM
  refine goM ?_
  refine wq_loop (fun m ρ hp' => ∃ (j : Nat) (u : V), j ≤ k ∧ m = k - j ∧ Mem hp hp' [.own 1 intC u (xss.take j).flatten] ∧ ρ 6 = u ∧ ρ 25 = v ∧ ρ 26 = .int .i64 (k : Int) ∧ ρ 27 = .int .i64 (j : Int)) ⟨0, u0, Nat.zero_le _, rfl, m1, by simp [put_app, put_none], by simp [put_app, put_none, *], by simp [put_app, put_none, *], by simp [put_app, put_none]⟩ ?_
  clear g0 g3 g9 g10 g11 m1
  clear ρ
  rintro _ ρ hp' ⟨j, u, hj, rfl, hM, g6, g25, g26, g27⟩
  refine goM ?_
  refine cond_go (fun hb => ?_) (fun hb => ?_)
  ·have hj' : j < k := by simpa using hb
   clear hb
   obtain ⟨w, hw'⟩ : ∃ u, us[j]? = some u := ⟨us[j]'(by omega), by simp⟩
   obtain ⟨xs, hxs⟩ : ∃ xs, xss[j]? = some xs := ⟨xss[j]'(by omega), by simp⟩
   have hws := (hall j w xs hw' hxs).mono hM.pre
   obtain ⟨b1, o1, _, hi1, rfl, _, hlo1, _⟩ := (hv.mono hM.pre).get T238 rfl T27 rfl hw'
   have ho1 := loadV_one T27 rfl hlo1
   have hnx := flat_next hxs
   have hle := hfl (j + 1)
   rw [hnx, List.length_append] at hle
   have hwj := wrap_succ (n := j) (by omega)
   clear hlo1 hxs hw'
   refine goM ?_
   refine l_appM hws (xs := (xss.take j).flatten) (hb := ⟨by show _ * 8 ≤ _; omega, by omega⟩) fun u2 H2 hM => ?_
   rw [← hnx] at hM
   refine goM ?_
   exact ⟨k - (j + 1), by omega, j + 1, u2, hj', rfl, hM, by simp [put_app, put_none, *]⟩
  ·have hj' : j = k := by have : ¬ j < k := by simpa using hb
                          omega
   subst hj'
   clear hb
   rw [List.take_of_length_le (by omega)] at hM
   refine goM ?_
   exact end_1 (by first | exact .inl rfl | exact .inr rfl) hM
theorem resample_ (H : Heap) (s k : Nat) (hs : s ≤ 65535) (hk : k ≤ 1048575) : Call Tryz.prog 204 [.int .i64 s, .int .i64 k] H (.tup [.agg [.int .i64 (rateN s k : Nat), .int .i64 (momN s k : Nat)], .int .i64 0]) H := by
 refine call_pure fit mixed Tryz.func204 rfl rfl rfl (by kernel_rfl) rfl fun hM => ?_
 have w0 := wrap_succ (n := k) (by omega)
 have w1 : IntKind.i64.wrap (64 + ((pickN s k 16321 : Nat) : Int)) = ((rateN s k : Nat) : Int) := by
  have h1 := pickN_lt (s := s) (k := k) (b := 16321) (by decide)
  unfold rateN
  rw [wrap_i64 (by omega) (by omega)]; omega
 have hd1 : drawMay s k = true := by simp only [drawMay, Bool.and_eq_true, within_iff]; omega
 have hd2 : drawMay s (k + 1 : Nat) = true := by simp only [drawMay, Bool.and_eq_true, within_iff]; omega
 have d1 : ((k : Int) == 1048576) = false := by simp; omega
 refine wq_seq (wq_line ?_)
 refine l_newM (cs := [.int .i64 0, .int .i64 0]) T43 rfl fun b1 H1 hM => ?_
 have c1 := drawMay_ H1 s k
 rw [hd1] at c1
 have c2 := drawPick_ H1 s k 16321 hd1 (by decide) (by decide)
 have c3 : Call Tryz.prog 198 [.int .i64 s, .int .i64 ((k : Int) + 1), .int .i64 58983] H1 (.tup [.int .i64 (momN s k : Nat), .int .i64 0]) H1 := drawPick_ H1 s (k + 1) 58983 hd2 (by decide) (by decide)
 clear hs hk hd1 hd2
 refine goM ?_
 refine l_callG c1 ?_
 refine goM ?_
 refine l_callG c2 ?_
 refine goM ?_
 refine l_callG c3 ?_
 refine goM ?_
 refine l_putM T43 fun H2 hM => ?_
 refine goM ?_
 exact end_2 (by first | exact .inl rfl | exact .inr rfl) ⟨rfl, hM.pre⟩
theorem wrap_u8 (n : Int) : IntKind.u8.wrap n = n % 256 := by
 unfold IntKind.wrap
 simp only [IntKind.bits, IntKind.signed, Bool.false_and, Bool.false_eq_true, if_false, Int.reducePow]
theorem lowK_in (x : Int) (j : Nat) : 0 ≤ lowK x j ∧ lowK x j < 256 := by unfold lowK; rw [wrap_u8]; omega
theorem lowK_0 (x : Int) : lowK x 0 = x % 256 := by
 unfold lowK; rw [wrap_u8, Int.fdiv_eq_ediv_of_nonneg _ (Int.pow_nonneg (by decide))]
 rw [show (2 : Int) ^ min (8 * 0) IntKind.i64.bits = 1 by decide, Int.ediv_one]
theorem lowK_1 (x : Int) : lowK x 1 = x / 256 % 256 := by
 unfold lowK; rw [wrap_u8, Int.fdiv_eq_ediv_of_nonneg _ (Int.pow_nonneg (by decide))]
 rw [show (2 : Int) ^ min (8 * 1) IntKind.i64.bits = 256 by decide]
def okB (bs : List Int) : Prop := ∀ b ∈ bs, 0 ≤ b ∧ b < 256
theorem okB_low (x : Int) (k : Nat) : okB (lowL x k) := fun b hb => by
 obtain ⟨j, _, rfl⟩ := List.mem_map.1 hb
 exact lowK_in x j
theorem okB_app {a b : List Int} (h : okB a) (k : okB b) : okB (a ++ b) := fun x hx => (List.mem_append.1 hx).elim (h x) (k x)
theorem okB_lows (xs : List Int) : okB (lowsL xs) := fun b hb => by
 obtain ⟨x, _, h⟩ := List.mem_flatMap.1 hb
 exact okB_low x 4 b h
def numN : List Int → Int
 | [] => 0
 | b :: bs => numN bs * 256 + b
theorem lowK_plain {x : Int} (h0 : 0 ≤ x) (h : x < 256) : lowK x 0 = x := by
 rw [lowK_0]; omega
theorem lowsL_app (a b : List Int) : lowsL (a ++ b) = lowsL a ++ lowsL b := by simp [lowsL]
theorem putL_eq (ws vs : List Int) (r m t : Int) : putL ws vs r m t = (lowL ws.length 1 ++ lowsL (ws ++ (vs ++ [r, m]))) ++ [lowK t 0] := by
 unfold putL
 rw [lowsL_app, lowsL_app]
 have h1 : lowsL [r, m] = lowL r 4 ++ lowL m 4 := by simp [lowsL]
 have h2 : lowL t 1 = [lowK t 0] := rfl
 rw [h1, h2]
 simp only [List.append_assoc]
theorem okB_put (ws vs : List Int) (r m t : Int) : okB (putL ws vs r m t) := by
 rw [putL_eq]
 exact okB_app (okB_app (okB_low _ _) (okB_lows _)) (okB_low t 1)
theorem putL_last {ws vs : List Int} {r m t : Int} (h : vs.length = ws.length) : (putL ws vs r m t)[9 + 8 * ws.length]? = some (lowK t 0) := by
 rw [putL_eq, List.getElem?_append_right (show (lowL (ws.length : Int) 1 ++ lowsL (ws ++ (vs ++ [r, m]))).length ≤ 9 + 8 * ws.length by simp only [List.length_append, lowL_len, lowsL_len, List.length_cons, List.length_nil]; omega)]
 have : 9 + 8 * ws.length - (lowL (ws.length : Int) 1 ++ lowsL (ws ++ (vs ++ [r, m]))).length = 0 := by
  simp only [List.length_append, lowL_len, lowsL_len, List.length_cons, List.length_nil]; omega
 rw [this]; rfl
theorem strOf_get {bs : List Int} (ho : okB bs) {i : Nat} {b : Int} (h : bs[i]? = some b) : ((strOf bs)[i]?).map (fun c => V.int .u8 c.toNat) = some (.int .u8 b) := by
 have hi := (List.getElem?_eq_some_iff.1 h).1
 have hb := ho b (List.mem_of_getElem? h)
 have e : (strOf bs)[i]? = some (UInt8.ofNat b.toNat) := by
  have hs : i < (strOf bs).size := by rw [strOf_size]; exact hi
  rw [getElem?_pos (strOf bs) i hs]
  have : (strOf bs)[i] = (bs.map fun n => UInt8.ofNat n.toNat)[i]'(by simpa using hi) := by
   show (strOf bs).data[i] = _
   simp [strOf]
  rw [this, List.getElem_map]
  rw [(List.getElem?_eq_some_iff.1 h).2]
 rw [e]
 simp only [Option.map_some, Option.some.injEq, V.int.injEq, true_and]
 have : (UInt8.ofNat b.toNat).toNat = b.toNat := by
  rw [UInt8.toNat_ofNat']; omega
 rw [this]; omega
theorem byte_low (x : Int) : IntKind.u8.wrap x = lowK x 0 := by unfold lowK; simp [Int.fdiv_one]
theorem checkPut_ (H : Heap) (w v : V) (ws vs : List Int) (r m t : Int) (hw : Sl 1 intC H w ws) (hv : Sl 1 intC H v vs) (hm : chkMay ws vs r m t = true) : Call Tryz.prog 142 [.agg (chkC w v r m t)] H (.tup [.str (strOf (putL ws vs r m t)), .int .i64 0]) H := by
 obtain ⟨hvw, hvv, hlv, hlw1, _, _, _⟩ := chkMay_split hm
 have hlw := vecMay_len hvw
 obtain ⟨n, hn⟩ : ∃ n, ws.length = n := ⟨_, rfl⟩
 rw [putL_eq, hn]
 rw [hn] at hlv hlw hlw1
 obtain ⟨xs, hxs⟩ : ∃ xs, ws ++ (vs ++ [r, m]) = xs := ⟨_, rfl⟩
 have hxl : xs.length = 2 * n + 2 := by rw [← hxs]; simp only [List.length_append, List.length_cons, List.length_nil]; omega
 rw [hxs]
 have hfl : [ws, vs, [r, m]].flatten = xs := by rw [← hxs]; simp
 have s1 := hw.cells
 have s2 := hv.cells
 have bn := byte_low (n : Int)
 have bt := byte_low t
 refine call_pure fit mixed Tryz.func142 rfl rfl rfl (by kernel_rfl) rfl fun hM => ?_
 refine wq_seq (wq_line ?_)
 refine l_boxM T45 fun b1 H1 hM => ?_
 have c0 := chkMay_ H1 w v ws vs r m t (hw.mono hM.pre) (hv.mono hM.pre) (by omega) (by omega)
 rw [hm] at c0
 have hlen := (hw.mono hM.pre).len T27 rfl
 rw [hn] at hlen
 clear hm hvw hvv
 refine goM ?_
 refine l_callG c0 ?_
 refine goM ?_
 refine l_sliceM byteC [lowK n 0] [.int .u8 (lowK n 0)] T77 rfl T5 rfl (Cells.one (sz := 1) rfl rfl) (by decide) fun e1 H2 hM => ?_
 refine goM ?_
 refine l_sliceM intC [r, m] [.int .i64 r, .int .i64 m] T27 rfl T3 rfl (cells_of (R := intC) (fun x => [V.int .i64 x]) (fun x => ⟨rfl, rfl⟩) [r, m]) (by decide) fun e2 H3 hM => ?_
 have s3 := (hM.sl .here).cells
 refine l_sliceM oneVC [w, v, e2] [w, v, e2] T238 rfl T27 rfl (cells_of (R := oneVC) (fun x => [x]) (fun x => ⟨rfl, rfl⟩) [w, v, e2]) (by decide) fun e3 H4 hM => ?_
 have hw4 := hw.mono hM.pre
 have hv4 := hv.mono hM.pre
 have he4 := hM.sl (.there .here)
 obtain ⟨e4, H5, c1, m1⟩ := concat_ H4 e3 [w, v, e2] [ws, vs, [r, m]] (2 * n + 2) (hM.sl .here) rfl (by simp) (fun k u x hu hx => by
  match k, hu, hx with
  | 0, hu, hx => cases hu; cases hx; exact hw4
  | 1, hu, hx => cases hu; cases hx; exact hv4
  | 2, hu, hx => cases hu; cases hx; exact he4) (by rw [hfl, hxl]) (by omega) (by omega)
 rw [hfl] at m1
 clear hw4 hv4 he4 hw hv
 refine goM ?_
 refine l_callG c1 ?_
 replace hM := hM.call1 m1
 clear c1 m1
 have hlx := (hM.sl .here).len T27 rfl
 rw [hxl] at hlx
 replace hM : Mem H H5 [.own 1 intC e4 xs, .own 1 byteC e1 (lowL n 1 ++ lowsL (xs.take 0)), .box b1 (chkC w v r m t)] := hM.subG
 refine goM ?_
 refine wq_loop (fun c ρ hp => ∃ (k : Nat) (u : V), k ≤ 2 * n + 2 ∧ c = 2 * n + 2 - k ∧ Mem H hp [.own 1 intC e4 xs, .own 1 byteC u (lowL n 1 ++ lowsL (xs.take k)), .box b1 (chkC w v r m t)] ∧ ρ 1 = .ptr b1 0 ∧ ρ 4 = u ∧ ρ 27 = e4 ∧ ρ 28 = .int .i64 ((2 * n + 2 : Nat) : Int) ∧ ρ 29 = .int .i64 (k : Int)) ⟨0, e1, Nat.zero_le _, rfl, hM, rfl, rfl, rfl, rfl, rfl⟩ ?_
 clear hM
 rintro _ ρ hp ⟨k, u, hk, rfl, hM, g1, g4, g27, g28, g29⟩
 refine goM ?_
 refine cond_go (fun hb => ?_) (fun hb => ?_)
 ·have hk' : k < 2 * n + 2 := by simp at hb; omega
  clear hb
  obtain ⟨x, hx⟩ : ∃ x, xs[k]? = some x := ⟨xs[k]'(by omega), by simp⟩
  obtain ⟨b2, o2, _, hi2, rfl, _, hlo2, _⟩ := (hM.sl .here).get T27 rfl T3 rfl hx
  have ho2 := loadV_one T3 rfl hlo2
  have hsn := lowsL_snoc hx
  obtain ⟨u', H6, c2, m2⟩ := put_ H hp _ _ u (lowL n 1 ++ lowsL (xs.take k)) x hM (.there .here) (by simp only [List.length_append, lowL_len, lowsL_len, List.length_take]; omega)
  rw [List.append_assoc, ← hsn] at m2
  have hw2 := wrap_succ (n := k) (by omega)
  clear hlo2 hsn hx
  refine goM ?_
  refine l_callG c2 ?_
  clear hM c2
  refine goM ?_
  exact ⟨2 * n + 2 - (k + 1), by omega, k + 1, u', hk', rfl, m2, by simp [put_app, put_none, *]⟩
 ·have hk' : k = 2 * n + 2 := by simp at hb; omega
  subst hk'
  clear hb
  rw [List.take_of_length_le (by omega)] at hM
  obtain ⟨bs, hbs⟩ : ∃ bs, lowL n 1 ++ lowsL xs = bs := ⟨_, rfl⟩
  have hbl : bs.length = 1 + 4 * (2 * n + 2) := by rw [← hbs]; simp only [List.length_append, lowL_len, lowsL_len]; omega
  rw [hbs] at hM ⊢
  clear hbs
  refine goM ?_
  refine l_sliceM byteC [lowK t 0] [.int .u8 (lowK t 0)] T77 rfl T5 rfl (Cells.one (sz := 1) rfl rfl) (by decide) fun e5 H6 hM => ?_
  refine goM ?_
  refine l_appM (hM.sl .here) (xs := bs) (hh := .there (.there .here)) (hb := by rw [hbl]; simp only [List.length_cons, List.length_nil]; omega) fun u2 H7 hM => ?_
  refine l_step (s_toStr eLk (hM.sl (.there (.there .here)))) ?_
  refine goM ?_
  exact end_2 (by first | exact .inl rfl | exact .inr rfl) ⟨rfl, hM.pre⟩
def errN (i h : Nat) (ws : List Int) (r : List Int × Int) : Int := plus (tells i h ws (units i h ws r.1)) (IntKind.i64.wrap (0 - r.2))
def lossN (i h : Nat) (ws : List Int) (rs : List (List Int × Int)) : Int := rs.foldl (fun a r => plus a (times (errN i h ws r) (errN i h ws r))) 0
theorem lossN_snoc {i h : Nat} {ws : List Int} {rs : List (List Int × Int)} {k : Nat} {r : List Int × Int} (hk : rs[k]? = some r) : lossN i h ws (rs.take (k + 1)) = plus (lossN i h ws (rs.take k)) (times (errN i h ws r) (errN i h ws r)) := by
 unfold lossN
 rw [List.take_add_one, hk, List.foldl_append]; rfl
theorem loadV_pre {H H' : Heap} (hp : H <+: H') {t b o : Nat} {v : V} (h : loadV T t H b o = some v) : loadV T t H' b o = some v := by
 unfold loadV at h ⊢
 split at h
 ·split at h
  ·rename_i h1
   rw [if_pos h1]
   cases hl : H.loadN b o _ with
   | none => rw [hl] at h; cases h
   | some cs => rw [hl] at h; rw [loadN_pre hp hl]; exact h
  ·rename_i h1
   rw [if_neg h1]
   cases hl : H.loadN b o _ with
   | none => rw [hl] at h; cases h
   | some cs => rw [hl] at h; rw [loadN_pre hp hl]; exact h
 ·cases h
theorem netAt_of {H : Heap} {b : Nat} {i h : Int} {w : V} (hr : H[b]? = some (.row [.int .i64 i, .int .i64 h, w] true)) : NetAt H b i h w := by
 refine ⟨?_, ?_, ?_⟩ <;> (unfold Heap.loadN; rw [hr]; rfl)
theorem lossOf_ (H : Heap) (i h : Nat) (w rv : V) (ws : List Int) (rs : List (List Int × Int)) (hw : Sl 1 intC H w ws) (hr : Rows H rv rs) (hf : fits i h ws = true) (hl : lossMay i h rs = true) (hsz : ws.length = netSize i h) (hi : i ≤ 3) (hh : h ≤ 3) :
  Call Tryz.prog 28 [.agg [.int .i64 i, .int .i64 h], w, rv] H (.tup [.int .i64 (lossN i h ws rs), .int .i64 0]) H := by
 obtain ⟨hs, hr1, hr8, hrok⟩ := lossMay_split hl
 have hlw : ws.length ≤ 16 := by rw [hsz]; exact size16 hi hh
 have lrow : ∀ r ∈ rs, r.1.length ≤ 2 ^ 47 := fun rr hrr => by
  have := hrok rr hrr
  simp only [rowOk, Bool.and_eq_true] at this
  have := vecMay_len (feeds_split this.1).2
  omega
 obtain ⟨n, hn⟩ : ∃ n, rs.length = n := ⟨_, rfl⟩
 have s1 := hw.cells
 refine call_pure fit mixed Tryz.func28 rfl rfl rfl (by kernel_rfl) rfl fun hM => ?_
 refine wq_seq (wq_line ?_)
 refine l_boxM T23 fun b1 H1 hM => ?_
 have c1 := shapeFits_ H1 i h w ws (hw.mono hM.pre) (by omega)
 rw [hf] at c1
 have c2 := lossMay_ H1 i h rv rs (hr.mono hM.pre) (by omega) lrow
 rw [hl] at c2
 have hlen : builtinP T .len [24] [rv] = some (.int .i64 (n : Int)) := by
  obtain ⟨qv, hqv, hql, _⟩ := hr
  have := hqv.len T24 rfl
  rw [hql, hn] at this
  exact this
 clear hf hl hs lrow
 refine goM ?_
 refine l_callG c1 ?_
 refine goM ?_
 refine l_callG c2 ?_
 refine goM ?_
 refine l_boxM T142 fun b2 H2 hM => ?_
 refine goM ?_
 refine wq_loop (fun c ρ hp => ∃ (k : Nat) (L : List Res), k ≤ n ∧ c = n - k ∧ Mem H hp (.box b2 [.int .i64 i, .int .i64 h, w] :: L) ∧ ρ 8 = .ptr b2 0 ∧ ρ 9 = .int .i64 (lossN i h ws (rs.take k)) ∧ ρ 27 = rv ∧ ρ 28 = .int .i64 (n : Int) ∧ ρ 29 = .int .i64 (k : Int)) ⟨0, _, Nat.zero_le _, rfl, hM, rfl, rfl, rfl, rfl, rfl⟩ ?_
 clear hM c1 c2
 rintro _ ρ hp ⟨k, L, hk, rfl, hM, g8, g9, g27, g28, g29⟩
 refine goM ?_
 refine cond_go (fun hb => ?_) (fun hb => ?_)
 ·have hk' : k < n := by simpa using hb
  clear hb
  obtain ⟨⟨xs, y⟩, hx⟩ : ∃ x, rs[k]? = some x := ⟨rs[k]'(by omega), by simp⟩
  have hok := hrok _ (List.mem_of_getElem? hx)
  simp only [rowOk, Bool.and_eq_true] at hok
  have hsn := lossN_snoc (i := i) (h := h) (ws := ws) hx
  obtain ⟨b3, o3, x, hi3, hlo3, _, _, hxs⟩ := hr.at hx
  replace hlo3 := loadV_pre hM.pre hlo3
  have hxl := Int.ofNat_inj.1 (feeds_split hok.1).1
  have hw1 := wrap_succ (n := k) (by omega)
  clear hx hok
  refine goM ?_
  refine l_newM (cs := [.nils, .int .i64 0]) T144 rfl fun b4 H3 hM => ?_
  have s2 := hxs.cells
  refine l_putM T144 fun H4 hM => ?_
  obtain ⟨u, H5, c3, m3⟩ := units_ H4 b2 i h w x ws xs (netAt_of (hM.row (.there .here))) (hw.mono hM.pre) (hxs.mono hM.pre) hsz hi hh hxl
  refine goM ?_
  refine d_callG c3 (.inl m3.1) ?_
  replace hM := hM.call1 m3.mem
  have c4 := tells_ H5 b2 i h w u ws (units i h ws xs) (netAt_of (hM.row (.there (.there .here)))) (hw.mono hM.pre) m3.sl hsz hi hh (by simp [units])
  refine goM ?_
  refine d_call0G c4 ?_
  have c5 := fixAnd_ H5 (tells i h ws (units i h ws xs)) (IntKind.i64.wrap (0 - y))
  refine goM ?_
  refine d_call0G c5 ?_
  have c6 := fixTimes_ H5 (errN i h ws (xs, y)) (errN i h ws (xs, y))
  have c7 := fixAnd_ H5 (lossN i h ws (rs.take k)) (times (errN i h ws (xs, y)) (errN i h ws (xs, y)))
  rw [← hsn] at c7
  have he : plus (tells i h ws (units i h ws xs)) (IntKind.i64.wrap (0 - y)) = errN i h ws (xs, y) := rfl
  rw [he]
  clear c3 c4 c5 he hsn
  refine goM ?_
  refine l_callG c6 ?_
  refine goM ?_
  refine l_callG c7 ?_
  refine goM ?_
  exact ⟨n - (k + 1), by omega, k + 1, _, hk', rfl, hM.front (.there (.there .here)), by simp [put_app, put_none, *]⟩
 ·have hk' : k = n := by have : ¬ k < n := by simpa using hb
                         omega
  subst hk'
  clear hb
  rw [List.take_of_length_le (by omega)] at g9
  refine goM ?_
  exact end_2 (by first | exact .inl rfl | exact .inr rfl) ⟨rfl, hM.pre⟩
theorem no_text (s : ByteArray) : (s.toList == ByteArray.toList ⟨#[]⟩) = !(decide (1 ≤ s.size)) := by
 have h := txEq_iff (a := s) (b := ⟨#[]⟩)
 rw [tx_def]
 cases hq : txEq s ⟨#[]⟩ with
 | true =>
  have := h.1 hq
  subst this
  rfl
 | false =>
  have hne : ¬ s.size = 0 := fun h0 => by
   have : s = ⟨#[]⟩ := by
    apply ByteArray.ext
    exact Array.eq_empty_of_size_eq_zero h0
   rw [h.2 this] at hq; cases hq
  have : decide (1 ≤ s.size) = true := decide_eq_true (by omega)
  rw [this]; rfl
theorem str_len0 (s : ByteArray) : builtinP T .len [9] [.str s] = some (.int .i64 (s.size : Int)) := by
 simp only [builtinP, T9]
theorem text_ (H : Heap) (s : ByteArray) : Call Tryz.prog 193 [.str s] H (.bool (textOk s)) H := by
 refine call_pure fit mixed Tryz.func193 rfl rfl rfl (by kernel_rfl) rfl fun hM => ?_
 have e := no_text s
 have hl := str_len0 s
 have e2 : decide ((s.size : Int) ≤ 256) = decide (s.size ≤ 256) := by apply Bool.eq_iff_iff.2; simp; omega
 unfold textOk
 obtain ⟨q, hq⟩ : ∃ q, decide (1 ≤ s.size) = q := ⟨_, rfl⟩
 rw [hq] at e ⊢
 clear hq
 cases q
 ·refine goM ?_
  exact end_1 (by first | exact .inl rfl | exact .inr rfl) ⟨rfl, List.prefix_refl _⟩
 ·refine goM ?_
  refine end_1 (by first | exact .inl rfl | exact .inr rfl) ⟨?_, List.prefix_refl _⟩
  simp
theorem ent_at {H : Heap} {v : V} {es : List Ent} (h : Sl 3 entC H v es) {k : Nat} {e : Ent} (hk : es[k]? = some e) : ∃ b o, idxV T 31 v (k : Int) = some (.ptr b o) ∧ loadV T 73 H b o = some (.agg (entV e)) ∧ loadV T 3 H b o = some (.int .i64 e.id) ∧ loadV T 9 H b (o + 1) = some (.str e.tx) ∧ loadV T 3 H b (o + 2) = some (.int .i64 e.n) := by
 obtain ⟨b, o, cs, hi, hc, _, hlo, hlc⟩ := h.get T31 rfl T73 rfl hk
 rw [hc] at hlo hlc
 exact ⟨b, o, hi, loadV_agg T73 rfl hlo, loadV_one T3 rfl (hlc 0 _ rfl), loadV_one T9 rfl (hlc 1 _ rfl), loadV_one T3 rfl (hlc 2 _ rfl)⟩
theorem entry_ (H : Heap) (b o : Nat) (e : Ent) (l0 : loadV T 3 H b o = some (.int .i64 e.id)) (l1 : loadV T 9 H b (o + 1) = some (.str e.tx)) (l2 : loadV T 3 H b (o + 2) = some (.int .i64 e.n)) : Call Tryz.prog 151 [.ptr b o] H (.bool (entOk e)) H := by
 refine call_pure fit mixed Tryz.func151 rfl rfl rfl (by kernel_rfl) rfl fun hM => ?_
 have c1 := text_ H e.tx
 have h1 : within e.id 0 1024 = (decide (e.id ≥ 0) && decide (e.id ≤ 1024)) := by simp [within]
 have h2 : within e.n 0 8 = (decide (e.n ≥ 0) && decide (e.n ≤ 8)) := by simp [within]
 unfold entOk
 rw [h1, h2]
 obtain ⟨q1, e1⟩ : ∃ q, decide (e.id ≥ 0) = q := ⟨_, rfl⟩
 obtain ⟨q2, e2⟩ : ∃ q, decide (e.id ≤ 1024) = q := ⟨_, rfl⟩
 obtain ⟨q3, e3⟩ : ∃ q, textOk e.tx = q := ⟨_, rfl⟩
 obtain ⟨q4, e4⟩ : ∃ q, decide (e.n ≥ 0) = q := ⟨_, rfl⟩
 obtain ⟨q5, e5⟩ : ∃ q, decide (e.n ≤ 8) = q := ⟨_, rfl⟩
 rw [e3] at c1
 rw [e1, e2, e3, e4, e5]
 clear h1 h2
 cases q1 <;> cases q2 <;> cases q3 <;> cases q4
 all_goals refine goM ?_
 all_goals try (refine l_callG c1 ?_)
 all_goals refine goM ?_
 all_goals exact end_1 (by first | exact .inl rfl | exact .inr rfl) ⟨rfl, List.prefix_refl _⟩
def idxR (es : List Ent) (p : Ent → Bool) : Int := if es.findIdx p < es.length then (es.findIdx p : Int) else -1
theorem indexEnt_ (H : Heap) (v : V) (es : List Ent) (g : Nat) (caps : List V) (p : Ent → Bool) (hx : Sl 3 entC H v es) (hl : es.length ≤ 2 ^ 47) (hg : ∀ e ∈ es, Call Tryz.prog g (.agg (entV e) :: caps) H (.bool (p e)) H) :
  Call Tryz.prog 208 [v, .fn g caps] H (.int .i64 (idxR es p)) H := by
 refine call_pure fit mixed Tryz.func208 rfl rfl rfl (by kernel_rfl) rfl fun hM => ?_
 obtain ⟨n, hn⟩ : ∃ n, es.length = n := ⟨_, rfl⟩
 have hlen := hx.len T31 rfl
 rw [hn] at hlen
 obtain ⟨k0, hk0⟩ : ∃ k, es.findIdx p = k := ⟨_, rfl⟩
 have hkn : k0 ≤ n := by rw [← hk0, ← hn]; exact List.findIdx_le_length
 have hres : idxR es p = if k0 < n then (k0 : Int) else -1 := by unfold idxR; rw [hk0, hn]
 refine goM ?_
 refine wq_loop (fun c ρ h => ∃ k, k ≤ k0 ∧ c = n - k ∧ h = H ∧ ρ 0 = v ∧ ρ 1 = .fn g caps ∧ ρ 7 = .int .i64 (n : Int) ∧ ρ 8 = .int .i64 (k : Int)) ⟨0, Nat.zero_le _, rfl, rfl, rfl, rfl, rfl, rfl⟩ ?_
 clear hM
 rintro _ ρ h ⟨k, hk, rfl, rfl, h0, h1, h7, h8⟩
 refine goM ?_
 refine cond_go (fun hb => ?_) (fun hb => ?_)
 ·have hk' : k < n := by simpa using hb
  clear hb
  obtain ⟨e, he⟩ : ∃ e, es[k]? = some e := ⟨es[k]'(by omega), by simp⟩
  obtain ⟨b, o, hi, hlo, _⟩ := ent_at hx he
  have hw := wrap_succ (n := k) (by omega)
  have c1 := hg e (List.mem_of_getElem? he)
  have hpe : p e = decide (k = k0) := by
   have hkl : k < es.length := by omega
   have hek : es[k] = e := by rw [List.getElem?_eq_getElem hkl] at he; exact Option.some.inj he
   by_cases hkk : k < k0
   ·have := List.not_of_lt_findIdx (xs := es) (p := p) (i := k) (by omega)
    rw [hek] at this
    rw [this]; exact (decide_eq_false (by omega)).symm
   ·obtain rfl : k = k0 := by omega
    have := List.findIdx_getElem (xs := es) (p := p) (w := by omega)
    rw [decide_eq_true rfl, ← hek]
    simpa [hk0] using this
  rw [hpe] at c1
  clear he hpe hlen
  by_cases hkk : k = k0
  ·rw [decide_eq_true hkk] at c1
   rw [if_pos (by omega), ← hkk] at hres
   rw [hres]
   clear hres hk0 hkk hk hkn
   refine goM ?_
   refine l_callG c1 ?_
   refine goM ?_
   exact end_1 (by first | exact .inl rfl | exact .inr rfl) ⟨rfl, List.prefix_refl _⟩
  ·rw [decide_eq_false hkk] at c1
   have hk1 : k + 1 ≤ k0 := by omega
   clear hres hk0 hkk
   refine goM ?_
   refine l_callG c1 ?_
   refine goM ?_
   exact ⟨n - (k + 1), by omega, k + 1, hk1, rfl, rfl, by simp [put_app, put_none, *]⟩
 ·have hk' : k = n := by have : ¬ k < n := by simpa using hb
                         omega
  clear hb
  rw [if_neg (by omega)] at hres
  rw [hres]
  clear hres hk0
  refine goM ?_
  exact end_1 (by first | exact .inl rfl | exact .inr rfl) ⟨rfl, List.prefix_refl _⟩
theorem holds1_ (H : Heap) (b : Nat) (e : Ent) (s : ByteArray) (hb : H[b]? = some (.row [.str s] true)) : Call Tryz.prog 209 [.agg (entV e), .ptr b 0] H (.bool (txEq e.tx s)) H := by
 refine call_pure fit mixed Tryz.func209 rfl rfl rfl (by kernel_rfl) rfl fun hM => ?_
 refine wq_seq (wq_line ?_)
 have hl0 : loadV T 9 H b 0 = some (.str s) := ld_cell T9 rfl hb rfl
 refine l_boxM T73 fun b1 H1 hM => ?_
 have hl := loadV_pre hM.pre hl0
 have htd := tx_def e.tx s
 refine goM ?_
 exact end_1 (by first | exact .inl rfl | exact .inr rfl) ⟨rfl, hM.pre⟩
def holdsR (es : List Ent) (s : ByteArray) : Int := if holdsN es s < es.length then (holdsN es s : Int) else -1
theorem holds_ (H : Heap) (v : V) (es : List Ent) (s : ByteArray) (hx : Sl 3 entC H v es) (hl : es.length ≤ 2 ^ 47) : Call Tryz.prog 152 [v, .str s] H (.int .i64 (holdsR es s)) H := by
 refine call_pure fit mixed Tryz.func152 rfl rfl rfl (by kernel_rfl) rfl fun hM => ?_
 refine wq_seq (wq_line ?_)
 refine l_boxM T9 fun b1 H1 hM => ?_
 have c1 := indexEnt_ H1 v es 209 [.ptr b1 0] (fun e => txEq e.tx s) (hx.mono hM.pre) hl (fun e _ => holds1_ H1 b1 e s (hM.row .here))
 have hr : idxR es (fun e => txEq e.tx s) = holdsR es s := rfl
 rw [hr] at c1
 refine goM ?_
 refine l_callG c1 ?_
 refine goM ?_
 exact end_1 (by first | exact .inl rfl | exact .inr rfl) ⟨rfl, hM.pre⟩
def cmpI (a b : Int) : Int := if a < b then -1 else if a > b then 1 else 0
theorem isNaN_ (H : Heap) (a : Int) : Call Tryz.prog 166 [.int .i64 a] H (.bool false) H := by
 refine call_pure fit mixed Tryz.func166 rfl rfl rfl (by kernel_rfl) rfl fun hM => ?_
 refine goM ?_
 exact end_1 (by first | exact .inl rfl | exact .inr rfl) ⟨rfl, List.prefix_refl _⟩
theorem compare_ (H : Heap) (a b : Int) : Call Tryz.prog 87 [.int .i64 a, .int .i64 b] H (.int .i64 (cmpI a b)) H := by
 refine call_pure fit mixed Tryz.func87 rfl rfl rfl (by kernel_rfl) rfl fun hM => ?_
 refine goM ?_
 refine l_callG (isNaN_ H a) ?_
 refine goM ?_
 refine l_callG (isNaN_ H b) ?_
 unfold cmpI
 by_cases h1 : a < b
 ·have d1 := decide_eq_true h1
  rw [if_pos h1]
  clear h1
  refine goM ?_
  exact end_1 (by first | exact .inl rfl | exact .inr rfl) ⟨rfl, List.prefix_refl _⟩
 ·have d1 := decide_eq_false h1
  rw [if_neg h1]
  clear h1
  by_cases h2 : a > b
  ·have d2 := decide_eq_true h2
   rw [if_pos h2]
   clear h2
   refine goM ?_
   exact end_1 (by first | exact .inl rfl | exact .inr rfl) ⟨rfl, List.prefix_refl _⟩
  ·have d2 := decide_eq_false h2
   rw [if_neg h2]
   clear h2
   refine goM ?_
   exact end_1 (by first | exact .inl rfl | exact .inr rfl) ⟨rfl, List.prefix_refl _⟩
theorem find1_ (H : Heap) (e : Ent) (id : Int) : Call Tryz.prog 226 [.agg (entV e), .int .i64 id] H (.int .i64 (cmpI e.id id)) H := by
 refine call_pure fit mixed Tryz.func226 rfl rfl rfl (by kernel_rfl) rfl fun hM => ?_
 refine wq_seq (wq_line ?_)
 refine l_boxM T73 fun b1 H1 hM => ?_
 refine goM ?_
 refine l_callG (compare_ _ _ _) ?_
 refine goM ?_
 exact end_1 (by first | exact .inl rfl | exact .inr rfl) ⟨rfl, hM.pre⟩
def lowN (es : List Ent) (id : Int) : Nat := es.findIdx fun e => decide (e.id ≥ id)
def isN (es : List Ent) (id : Int) : Bool := match es[lowN es id]? with
 | none => false
 | some e => decide (e.id = id)
theorem lowN_le (es : List Ent) (id : Int) : lowN es id ≤ es.length := List.findIdx_le_length
theorem lowN_lt {es : List Ent} {id : Int} {k : Nat} {e : Ent} (hk : k < lowN es id) (h : es[k]? = some e) : e.id < id := by
 obtain ⟨hlt, rfl⟩ := List.getElem?_eq_some_iff.1 h
 have := List.not_of_lt_findIdx (xs := es) (p := fun e : Ent => decide (e.id ≥ id)) hk
 simp at this; omega
theorem lowN_at {es : List Ent} {id : Int} {e : Ent} (h : es[lowN es id]? = some e) : e.id ≥ id := by
 obtain ⟨hlt, rfl⟩ := List.getElem?_eq_some_iff.1 h
 have := List.findIdx_getElem (xs := es) (p := fun e : Ent => decide (e.id ≥ id)) (w := hlt)
 simpa [lowN] using this
theorem lowN_ge {es : List Ent} (hs : Store es) {id : Int} {k : Nat} {e : Ent} (hk : lowN es id ≤ k) (h : es[k]? = some e) : e.id ≥ id := by
 have hlt := (List.getElem?_eq_some_iff.1 h).1
 have hx : es[lowN es id]? = some (es[lowN es id]'(by omega)) := by simp
 have h0 := lowN_at hx
 rcases Nat.lt_or_eq_of_le hk with h1 | h1
 ·have := hs.up _ _ _ _ h1 hx h
  omega
 ·subst h1
  rw [h] at hx
  cases hx
  omega
theorem half_sh {i j : Nat} (h : i + j ≤ 1000) : vbin T .shr 78 (.int .u64 ((i + j : Nat) : Int)) (.int .u64 1) = some (.int .u64 (((i + j) / 2 : Nat) : Int)) := by
 simp only [vbin, shiftBin]
 rw [if_neg (by decide)]
 have : (2 : Int) ^ min (Int.toNat 1) IntKind.u64.bits = 2 := by decide
 rw [this, Int.fdiv_eq_ediv_of_nonneg _ (by decide)]
 congr 2
theorem u64_small {n : Nat} (h : n ≤ 1000) : IntKind.u64.wrap (n : Int) = n := by
 unfold IntKind.wrap
 simp only [IntKind.bits, IntKind.signed, Bool.false_and, Bool.false_eq_true, if_false, Int.reducePow]
 omega
theorem search_ (H : Heap) (v : V) (es : List Ent) (id : Int) (hx : Sl 3 entC H v es) (hs : Store es) :
  Call Tryz.prog 225 [v, .int .i64 id, .fn 226 []] H (.tup [.int .i64 (lowN es id : Int), .bool (isN es id)]) H := by
 refine call_pure fit mixed Tryz.func225 rfl rfl rfl (by kernel_rfl) rfl fun hM => ?_
 obtain ⟨n, hn⟩ : ∃ n, es.length = n := ⟨_, rfl⟩
 have hn64 := hs.len
 have hlen := hx.len T31 rfl
 rw [hn] at hlen hn64
 obtain ⟨l, hl⟩ : ∃ l, lowN es id = l := ⟨_, rfl⟩
 have hln : l ≤ n := by rw [← hl, ← hn]; exact lowN_le es id
 refine goM ?_
 refine wq_loop (fun c ρ h => ∃ i j : Nat, i ≤ l ∧ l ≤ j ∧ j ≤ n ∧ c = j - i ∧ h = H ∧ ρ 0 = v ∧ ρ 1 = .int .i64 id ∧ ρ 2 = .fn 226 [] ∧ ρ 8 = .int .i64 (n : Int) ∧ ρ 9 = .int .i64 (i : Int) ∧ ρ 10 = .int .i64 (j : Int)) ⟨0, n, Nat.zero_le _, hln, Nat.le_refl _, rfl, rfl, rfl, rfl, rfl, rfl, rfl, rfl⟩ ?_
 clear hM
 rintro _ ρ h ⟨i, j, hi, hj, hjn, rfl, rfl, g0, g1, g2, g8, g9, g10⟩
 refine goM ?_
 refine cond_go (fun hb => ?_) (fun hb => ?_)
 ·have hij : i < j := by simpa using hb
  clear hb
  obtain ⟨m, hm⟩ : ∃ m, (i + j) / 2 = m := ⟨_, rfl⟩
  have hm1 : i ≤ m := by omega
  have hm2 : m < j := by omega
  have w1 : IntKind.i64.wrap ((i : Int) + (j : Int)) = ((i + j : Nat) : Int) := by rw [wrap_i64 (by omega) (by omega)]; omega
  have w2 := u64_small (n := i + j) (by omega)
  have hsh := half_sh (i := i) (j := j) (by omega)
  rw [hm] at hsh
  have w3 : IntKind.i64.wrap (m : Int) = m := wrap_nat (by omega)
  have w4 := wrap_succ (n := m) (by omega)
  obtain ⟨e, he⟩ : ∃ e, es[m]? = some e := ⟨es[m]'(by omega), by simp⟩
  obtain ⟨b, o, hie, hlo, _⟩ := ent_at hx he
  have c1 := find1_ h e id
  have hlow : decide (cmpI e.id id < 0) = decide (m < l) := by
   by_cases hml : m < l
   ·have : e.id < id := lowN_lt (by omega) he
    unfold cmpI
    rw [if_pos this, decide_eq_true hml]; rfl
   ·have : e.id ≥ id := lowN_ge hs (by omega) he
    have : 0 ≤ cmpI e.id id := by unfold cmpI; rw [if_neg (by omega)]; split <;> omega
    rw [decide_eq_false hml, decide_eq_false (by omega)]
  by_cases hml : m < l
  ·have e2 := decide_eq_true hml
   rw [e2] at hlow
   clear he hm e2 hlen
   repeat (first | (refine l_pl ?_; refine l_step (s_bin eLk eLk hsh) ?_) | (refine l_pl ?_; refine l_goM ?_) | (refine d_pl ?_; refine d_goM ?_) | (refine l_gd ?_; first | refine l_onG ?_ | refine l_offG ?_ | refine l_offU ?_) | (refine d_gd ?_; first | refine d_onG ?_ | refine d_offG ?_ | refine d_offU ?_) | (refine cond_pl ?_; first | refine cond_yes ?_ | refine cond_no ?_) | refine wq_seq ?_ | refine wq_line ?_ | refine wq_draw (by decide +kernel) ?_ | refine wq_block ?_ | refine l_nil ?_ | refine d_nil ?_ | refine wq_skip ?_ | refine wq_ret ?_ | refine wq_exit ?_ | refine th_normal ?_ | refine th_ret ?_ | refine th_exit ?_ | refine bk_normal ?_ | refine bk_ret ?_ | refine bk_exit ?_ | refine bk_other rfl ?_)
   refine l_callG c1 ?_
   refine goM ?_
   exact ⟨j - (m + 1), by omega, m + 1, j, hml, hj, hjn, rfl, rfl, by simp [put_app, put_none, *]⟩
  ·have e2 := decide_eq_false hml
   rw [e2] at hlow
   have hlm : l ≤ m := by omega
   have hmn : m ≤ n := by omega
   clear he hm e2 hlen hml
   repeat (first | (refine l_pl ?_; refine l_step (s_bin eLk eLk hsh) ?_) | (refine l_pl ?_; refine l_goM ?_) | (refine d_pl ?_; refine d_goM ?_) | (refine l_gd ?_; first | refine l_onG ?_ | refine l_offG ?_ | refine l_offU ?_) | (refine d_gd ?_; first | refine d_onG ?_ | refine d_offG ?_ | refine d_offU ?_) | (refine cond_pl ?_; first | refine cond_yes ?_ | refine cond_no ?_) | refine wq_seq ?_ | refine wq_line ?_ | refine wq_draw (by decide +kernel) ?_ | refine wq_block ?_ | refine l_nil ?_ | refine d_nil ?_ | refine wq_skip ?_ | refine wq_ret ?_ | refine wq_exit ?_ | refine th_normal ?_ | refine th_ret ?_ | refine th_exit ?_ | refine bk_normal ?_ | refine bk_ret ?_ | refine bk_exit ?_ | refine bk_other rfl ?_)
   refine l_callG c1 ?_
   refine goM ?_
   exact ⟨m - i, by omega, i, m, hi, hlm, hmn, rfl, rfl, by simp [put_app, put_none, *]⟩
 ·have hij : ¬ i < j := by simpa using hb
  clear hb
  obtain rfl : i = l := by omega
  unfold isN
  rw [hl]
  by_cases hin : i < n
  ·obtain ⟨e, he⟩ : ∃ e, es[i]? = some e := ⟨es[i]'(by omega), by simp⟩
   obtain ⟨b, o, hie, hlo, _⟩ := ent_at hx he
   have c1 := find1_ h e id
   have hd : decide ((i : Int) < (n : Int)) = true := decide_eq_true (by omega)
   have heq : (cmpI e.id id == 0) = decide (e.id = id) := by
    unfold cmpI
    by_cases h1 : e.id < id
    ·rw [if_pos h1, decide_eq_false (by omega)]; rfl
    ·rw [if_neg h1]
     by_cases h2 : e.id > id
     ·rw [if_pos h2, decide_eq_false (by omega)]; rfl
     ·rw [if_neg h2, decide_eq_true (by omega)]; rfl
   rw [he]
   clear hl hln hi hj hij hin he hlen
   refine goM ?_
   refine l_callG c1 ?_
   refine goM ?_
   exact end_2 (by first | exact .inl rfl | exact .inr rfl) ⟨rfl, List.prefix_refl _⟩
  ·have hd : decide ((i : Int) < (n : Int)) = false := decide_eq_false (by omega)
   rw [List.getElem?_eq_none (by omega)]
   clear hl hln hi hj hij hin hlen
   refine goM ?_
   exact end_2 (by first | exact .inl rfl | exact .inr rfl) ⟨rfl, List.prefix_refl _⟩
theorem find_ (H : Heap) (v : V) (es : List Ent) (id : Int) (hx : Sl 3 entC H v es) (hs : Store es) :
  Call Tryz.prog 207 [v, .int .i64 id] H (.tup [.int .i64 (lowN es id : Int), .bool (isN es id)]) H := by
 refine call_pure fit mixed Tryz.func207 rfl rfl rfl (by kernel_rfl) rfl fun hM => ?_
 refine goM ?_
 refine l_callG (search_ H v es id hx hs) ?_
 refine goM ?_
 exact end_2 (by first | exact .inl rfl | exact .inr rfl) ⟨rfl, List.prefix_refl _⟩
theorem find_some {es : List Ent} (hs : Store es) {id : Int} (h : isN es id = true) : ∃ e, es[lowN es id]? = some e ∧ e.id = id ∧ findN es id = lowN es id := by
 unfold isN at h
 split at h
 ·cases h
 ·rename_i e he
  have hid : e.id = id := by simpa using h
  refine ⟨e, he, hid, ?_⟩
  have hlt := (List.getElem?_eq_some_iff.1 he).1
  unfold findN
  rw [List.findIdx_eq hlt]
  have hel : es[lowN es id] = e := by rw [List.getElem?_eq_getElem hlt] at he; exact Option.some.inj he
  refine ⟨by rw [hel]; exact decide_eq_true hid, fun j hj => ?_⟩
  have := lowN_lt hj (e := es[j]'(by omega)) (by simp)
  simp; omega
theorem find_none {es : List Ent} (hs : Store es) {id : Int} (h : isN es id = false) : es[findN es id]? = none := by
 rw [List.getElem?_eq_none_iff]
 apply Nat.le_of_not_lt
 intro hlt
 have hx : es[findN es id]? = some (es[findN es id]) := by simp [hlt]
 have hid : (es[findN es id]).id = id := by
  have := List.findIdx_getElem (xs := es) (p := fun e : Ent => decide (e.id = id)) (w := hlt)
  exact of_decide_eq_true this
 have hle : lowN es id ≤ findN es id := by
  apply Nat.le_of_not_lt
  intro h1
  have := lowN_lt h1 hx
  omega
 rcases Nat.lt_or_eq_of_le hle with h1 | h1
 ·have hy : es[lowN es id]? = some (es[lowN es id]'(by omega)) := by simp
  have h2 := lowN_at hy
  have h3 := hs.up _ _ _ _ h1 hy hx
  omega
 ·unfold isN at h
  rw [h1, hx] at h
  simp [hid] at h
theorem okAt_zero {es : List Ent} {e : Ent} (h : es[0]? = some e) : okAt es 0 = (entOk e && decide (holdsN es e.tx = 0)) := by
 unfold okAt; rw [h]; simp
theorem okAt_succ {es : List Ent} {e p : Ent} {k : Nat} (h : es[k + 1]? = some e) (hp : es[k]? = some p) : okAt es (k + 1) = ((entOk e && decide (p.id < e.id)) && decide (holdsN es e.tx = k + 1)) := by
 unfold okAt; rw [h]; simp only [hp]
theorem may_fail {es : List Ent} {k : Nat} (hk : k < es.length) (h : okAt es k = false) : storeMay es = false := by
 rw [Bool.eq_false_iff]; intro hm
 unfold storeMay at hm
 simp only [Bool.and_eq_true, decide_eq_true_eq, List.all_eq_true, List.mem_range] at hm
 rw [hm.2 k hk] at h; cases h
theorem holdsR_own {es : List Ent} {k : Nat} {e : Ent} (h : es[k]? = some e) : holdsR es e.tx = (holdsN es e.tx : Int) := by
 unfold holdsR
 rw [if_pos ?_]
 apply Nat.lt_of_le_of_lt _ (List.getElem?_eq_some_iff.1 h).1
 apply Nat.le_of_not_lt
 intro hlt
 have := holdsN_lt hlt h
 rw [txEq_self] at this; cases this
theorem storeMay_ (H : Heap) (v : V) (es : List Ent) (hx : Sl 3 entC H v es) (hl : es.length ≤ 2 ^ 47) : Call Tryz.prog 76 [v] H (.bool (storeMay es)) H := by
 refine call_pure fit mixed Tryz.func76 rfl rfl rfl (by kernel_rfl) rfl fun hM => ?_
 obtain ⟨n, hn⟩ : ∃ n, es.length = n := ⟨_, rfl⟩
 have hlen := hx.len T31 rfl
 rw [hn] at hlen
 by_cases h64 : 64 < n
 ·have d : decide ((n : Int) > 64) = true := decide_eq_true (by omega)
  have hres : storeMay es = false := by
   rw [Bool.eq_false_iff]; intro hm
   have := (store_of hm).len
   omega
  rw [hres]
  clear h64 hres
  refine goM ?_
  exact end_1 (by first | exact .inl rfl | exact .inr rfl) ⟨rfl, List.prefix_refl _⟩
 have d : decide ((n : Int) > 64) = false := decide_eq_false (by omega)
 refine goM ?_
 clear d
 refine wq_loop (fun c ρ h => ∃ k : Nat, k ≤ n ∧ c = n - k ∧ h = H ∧ (∀ j, j < k → okAt es j = true) ∧ ρ 0 = v ∧ ρ 8 = .int .i64 (n : Int) ∧ ρ 9 = .int .i64 (k : Int)) ⟨0, Nat.zero_le _, rfl, rfl, by intro j hj; omega, rfl, rfl, rfl⟩ ?_
 clear hM
 rintro _ ρ h ⟨k, hk, rfl, rfl, hgood, g0, g8, g9⟩
 refine goM ?_
 refine cond_go (fun hb => ?_) (fun hb => ?_)
 ·have hk' : k < n := by simpa using hb
  clear hb
  obtain ⟨e, he⟩ : ∃ e, es[k]? = some e := ⟨es[k]'(by omega), by simp⟩
  obtain ⟨b, o, hie, hlo, l0, l1, l2⟩ := ent_at hx he
  have c1 := entry_ h b o e l0 l1 l2
  have c2 := holds_ h v es e.tx hx hl
  rw [holdsR_own he] at c2
  have hw := wrap_succ (n := k) (by omega)
  have hfail := fun hq => may_fail (es := es) (k := k) (by omega) hq
  have hne : (((holdsN es e.tx : Nat) : Int) != (k : Int)) = !decide (holdsN es e.tx = k) := by
   by_cases hq : holdsN es e.tx = k
   ·rw [decide_eq_true hq, hq]; simp
   ·rw [decide_eq_false hq]; simp; omega
  obtain ⟨hN, hhN⟩ : ∃ x, ((holdsN es e.tx : Nat) : Int) = x := ⟨_, rfl⟩
  rw [hhN] at c2 hne
  have hnext : okAt es k = true → ∀ j, j < k + 1 → okAt es j = true := fun ho j hj => by
   rcases Nat.lt_or_eq_of_le (Nat.le_of_lt_succ hj) with h1 | h1
   ·exact hgood j h1
   ·subst h1; exact ho
  cases k with
  | zero =>
   have hoe := okAt_zero he
   have z0 : decide (((0 : Nat) : Int) > 0) = false := by decide
   obtain ⟨q1, e1⟩ : ∃ q, entOk e = q := ⟨_, rfl⟩
   obtain ⟨q3, e3⟩ : ∃ q, decide (holdsN es e.tx = 0) = q := ⟨_, rfl⟩
   rw [e1, e3] at hoe
   rw [e3] at hne
   rw [e1] at c1
   clear e1 e3 hhN hgood he hlo l2 hlen
   cases q1 with
   | false =>
    rw [hfail hoe]
    clear hfail hnext hne
    refine goM ?_
    refine d_call0G c1 ?_
    refine goM ?_
    exact end_1 (by first | exact .inl rfl | exact .inr rfl) ⟨rfl, List.prefix_refl _⟩
   | true =>
    cases q3 with
    | false =>
     rw [hfail hoe]
     clear hfail hnext
     refine goM ?_
     refine d_call0G c1 ?_
     refine goM ?_
     refine d_call0G c2 ?_
     refine goM ?_
     exact end_1 (by first | exact .inl rfl | exact .inr rfl) ⟨rfl, List.prefix_refl _⟩
    | true =>
     have hg := hnext hoe
     clear hfail hnext hoe
     refine goM ?_
     refine d_call0G c1 ?_
     refine goM ?_
     refine d_call0G c2 ?_
     refine goM ?_
     exact ⟨n - 1, by omega, 1, hk', rfl, rfl, hg, by simp [put_app, put_none, *]⟩
  | succ k =>
   obtain ⟨p, hp⟩ : ∃ p, es[k]? = some p := ⟨es[k]'(by omega), by simp⟩
   obtain ⟨b2, o2, hip, _, m0, _⟩ := ent_at hx hp
   have hoe := okAt_succ he hp
   have z0 : decide (((k + 1 : Nat) : Int) > 0) = true := decide_eq_true (by omega)
   have wk : IntKind.i64.wrap (((k + 1 : Nat) : Int) - 1) = (k : Int) := by rw [wrap_i64 (by omega) (by omega)]; omega
   have hcmp : decide (p.id ≥ e.id) = !decide (p.id < e.id) := by apply Bool.eq_iff_iff.2; simp
   obtain ⟨q1, e1⟩ : ∃ q, entOk e = q := ⟨_, rfl⟩
   obtain ⟨q2, e2⟩ : ∃ q, decide (p.id < e.id) = q := ⟨_, rfl⟩
   obtain ⟨q3, e3⟩ : ∃ q, decide (holdsN es e.tx = k + 1) = q := ⟨_, rfl⟩
   rw [e1, e2, e3] at hoe
   rw [e3] at hne
   rw [e1] at c1
   rw [e2] at hcmp
   clear e1 e2 e3 hhN hgood he hp hlo l2 hlen
   cases q1 with
   | false =>
    rw [hfail hoe]
    clear hfail hnext hne hcmp
    refine goM ?_
    refine d_call0G c1 ?_
    refine goM ?_
    exact end_1 (by first | exact .inl rfl | exact .inr rfl) ⟨rfl, List.prefix_refl _⟩
   | true =>
    cases q2 with
    | false =>
     rw [hfail hoe]
     clear hfail hnext hne
     refine goM ?_
     refine d_call0G c1 ?_
     refine goM ?_
     exact end_1 (by first | exact .inl rfl | exact .inr rfl) ⟨rfl, List.prefix_refl _⟩
    | true =>
     cases q3 with
     | false =>
      rw [hfail hoe]
      clear hfail hnext
      refine goM ?_
      refine d_call0G c1 ?_
      refine goM ?_
      refine d_call0G c2 ?_
      refine goM ?_
      exact end_1 (by first | exact .inl rfl | exact .inr rfl) ⟨rfl, List.prefix_refl _⟩
     | true =>
      have hg := hnext hoe
      clear hfail hnext hoe
      refine goM ?_
      refine d_call0G c1 ?_
      refine goM ?_
      refine d_call0G c2 ?_
      refine goM ?_
      exact ⟨n - (k + 1 + 1), by omega, k + 1 + 1, hk', rfl, rfl, hg, by simp [put_app, put_none, *]⟩
 ·have hk' : k = n := by have : ¬ k < n := by simpa using hb
                         omega
  subst hk'
  have hres : storeMay es = true := by
   unfold storeMay
   simp only [Bool.and_eq_true, decide_eq_true_eq, List.all_eq_true, List.mem_range]
   exact ⟨by omega, fun i hi => hgood i (by omega)⟩
  rw [hres]
  clear hb hres hgood
  refine goM ?_
  exact end_1 (by first | exact .inl rfl | exact .inr rfl) ⟨rfl, List.prefix_refl _⟩
end Go.Proofs.YtaofdhgkgklppaaGreat.VM
