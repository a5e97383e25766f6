/- Joined texts: InitA, InitB, TrainE, HelpC, TrainF, PutA, PutB, MembA, GetP, MembB, MembC, LossA. -/
import Derived.Test.YtengdmagaeckoaaGreatJL6
/- Layers 5, 11: the document's first weights and hypers. -/
namespace Go.Proofs.YtengdmagaeckoaaGreat.VM
open Go
set_option linter.unusedVariables false
set_option linter.unusedSimpArgs false
attribute [local irreducible] wq wqL wqD wqE wqO Th Bk EndR
set_option maxHeartbeats 8000000

theorem refInit_ (H : Heap) (i h s f : Nat) (hi : 1 ≤ i ∧ i ≤ 3) (hh : 1 ≤ h ∧ h ≤ 3) (hs : s ≤ 65535) (hf : f ≤ 1048560) :
    ∃ u H', Call Tryz.prog 53 [.agg [.int .i64 i, .int .i64 h], .int .i64 s, .int .i64 f] H (.tup [u, .int .i64 0]) H' ∧ Mine 1 intC H H' u (initL i h s f) := by
  suffices hgoal : ∃ w H', (∃ u, w = .tup [u, .int .i64 0] ∧ Mine 1 intC H H' u (initL i h s f)) ∧ Call Tryz.prog 53 [.agg [.int .i64 i, .int .i64 h], .int .i64 s, .int .i64 f] H w H' by
    obtain ⟨_, H', ⟨u, rfl, h1⟩, h2⟩ := hgoal
    exact ⟨u, H', h2, h1⟩
  refine call_wq fit mixed Tryz.func53 rfl rfl rfl (by kernel_rfl) ?_
  obtain ⟨H1, hH1⟩ : ∃ H1, H ++ [.row [.int .i64 i, .int .i64 h] true] = H1 := ⟨_, rfl⟩
  have p1 : H <+: H1 := by rw [← hH1]; exact List.prefix_append _ _
  have g1 : H1[H.length]? = some (.row [.int .i64 i, .int .i64 h] true) := by rw [← hH1]; simp
  have la := ld_agg T23 rfl g1 rfl
  have c0 := refShapeMay_ H1 i h
  have hsm : shapeMay (i : Int) (h : Int) = true := by simp only [shapeMay, Bool.and_eq_true, within_iff]; omega
  rw [hsm] at c0
  have c1 := upTo1_ H1 s 0 65535
  have c2 := upTo1_ H1 f 0 1048560
  rw [within_iff.2 ⟨by omega, by omega⟩] at c1 c2
  have hsmall : netSize i h ≤ 16 := by have := small_size hi.2 hh.2; unfold netSize; omega
  obtain ⟨n, hn⟩ : ∃ n, netSize i h = n := ⟨_, rfl⟩
  unfold initL
  rw [hn] at hsmall ⊢
  have hi' := hi.2
  have hh' := hh.2
  clear hsm hi hh
  refine goW ?_
  refine l_heap (h' := H1) hH1 ?_
  refine goW ?_
  refine l_callG c0 ?_
  refine goW ?_
  refine l_callG c1 ?_
  refine goW ?_
  refine l_callG c2 ?_
  refine goW ?_
  refine cond_go (fun hb => ?_) (fun hb => ?_)
  · cases hb
  clear hb c0 c1 c2
  refine goW ?_
  refine wq_loop (fun c ρ hp => ∃ k u, k ≤ n ∧ c = n - k ∧ Mine 1 intC H1 hp u ((List.range k).map (initK s f)) ∧ ρ 1 = .int .i64 s ∧ ρ 2 = .int .i64 f ∧ ρ 3 = .ptr H.length 0 ∧ ρ 8 = u ∧ ρ 9 = .int .i64 (k : Nat)) ⟨0, .nils, Nat.zero_le _, rfl, Mine.nil (List.prefix_refl _), rfl, rfl, rfl, rfl, rfl⟩ ?_
  rintro _ ρ hp ⟨k, u, hk, rfl, hm, h1, h2, h3, h8, h9⟩
  have la2 : loadV T 23 hp H.length 0 = some (.agg [.int .i64 i, .int .i64 h]) := ld_agg T23 rfl (pre_get hm.1 g1) rfl
  have c3 := refsize_ hp i h hi' hh'
  rw [hn] at c3
  clear la
  refine goW ?_
  refine l_callG c3 ?_
  refine goW ?_
  refine cond_go (fun hb => ?_) (fun hb => ?_)
  · have hk' : k < n := by simpa using hb
    clear hb c3 la2
    have w1 : IntKind.i64.wrap ((f : Int) + (k : Int)) = ((f + k : Nat) : Int) := by rw [← Int.natCast_add]; exact wrap_nat (by omega)
    have c4 := refDraw_ hp s (f + k) hs (by omega)
    have w2 : IntKind.i64.wrap (((drawN s (f + k) : Nat) : Int) - 32768) = initK s f k := by
      have := drawN_lt s (f + k)
      unfold initK
      exact wrap_i64 (by omega) (by omega)
    obtain ⟨v', hp', nw, ap, hm2, _, _⟩ := int_app hm (initK s f k) (by simp; omega)
    rw [range_snoc] at hm2
    have hw := wrap_succ (n := k) (by omega)
    clear hm hs hf
    refine goW ?_
    refine l_callG c4 ?_
    refine goW ?_
    refine l_appendG nw ap ?_
    refine goW ?_
    refine ⟨n - (k + 1), by omega, k + 1, v', hk', rfl, hm2, ?_⟩
    simp [put_app, put_none, *]
  · have hk' : k = n := by have : ¬ k < n := by simpa using hb
                           omega
    subst hk'
    have hm2 := hm.low p1
    clear hb hm c3 la2
    refine goW ?_
    refine end_ret (by simp only [resRf, resRs, resR]; first | done | rfl) ⟨u, ?_, hm2⟩
    simp [put_app, put_none, *]

theorem refResample_ (H : Heap) (s k : Nat) (hs : s ≤ 65535) (hk : k ≤ 1048575) : Call Tryz.prog 96 [.int .i64 s, .int .i64 k] H (.tup [.agg [.int .i64 (rateN s k : Nat), .int .i64 (momN s k : Nat)], .int .i64 0]) H := by
  refine call_plain fit mixed Tryz.func96 rfl rfl rfl (by kernel_rfl) rfl ?_
  obtain ⟨H1, hH1⟩ : ∃ H1, H ++ [.row [.int .i64 0, .int .i64 0] true] = H1 := ⟨_, rfl⟩
  have p1 : H <+: H1 := by rw [← hH1]; exact List.prefix_append _ _
  have g1 : H1[H.length]? = some (.row [.int .i64 0, .int .i64 0] true) := by rw [← hH1]; simp
  have c1 := upTo1_ H1 s 0 65535
  have c2 := upTo1_ H1 k 0 1048575
  rw [within_iff.2 ⟨by omega, by omega⟩] at c1 c2
  have c3 := refPick_ H1 s k 16321 hs (by omega) (by decide) (by decide)
  have c4 := refPick_ H1 s (k + 1) 58983 hs (by omega) (by decide) (by decide)
  have w0 := wrap_succ (n := k) (by omega)
  have c4' : Call Tryz.prog 132 [.int .i64 s, .int .i64 ((k : Int) + 1), .int .i64 58983] H1 (.tup [.int .i64 (momN s k : Nat), .int .i64 0]) H1 := c4
  have w1 : IntKind.i64.wrap (64 + ((pickN s k 16321 : Nat) : Int)) = ((rateN s k : Nat) : Int) := by
    have h1 := pickN_lt (s := s) (k := k) (b := 16321) (by decide)
    unfold rateN
    rw [wrap_i64 (by omega) (by omega)]; omega
  have hst := agg_store (cells := [V.int .i64 (rateN s k : Nat), V.int .i64 (momN s k : Nat)]) T32 g1 rfl rfl
  obtain ⟨H2, hH2⟩ : ∃ H2, H1.set H.length (.row [V.int .i64 (rateN s k : Nat), V.int .i64 (momN s k : Nat)] true) = H2 := ⟨_, rfl⟩
  rw [hH2] at hst
  have hlt := (List.getElem?_eq_some_iff.1 g1).1
  have p2 : H <+: H2 := by rw [← hH2]; exact pre_set p1 (Nat.le_refl _)
  have ln2 : Heap.loadN H2 H.length 0 2 = some [V.int .i64 (rateN s k : Nat), V.int .i64 (momN s k : Nat)] := by unfold Heap.loadN; rw [← hH2, List.getElem?_set_self hlt]; rfl
  clear c4 hs hk g1 hlt hH2
  refine goW ?_
  refine l_heap (h' := H1) hH1 ?_
  refine goW ?_
  refine l_callG c1 ?_
  refine goW ?_
  refine l_callG c2 ?_
  refine goW ?_
  refine cond_go (fun hb => ?_) (fun hb => ?_)
  · cases hb
  clear hb
  refine goW ?_
  refine l_callG c3 ?_
  refine goW ?_
  refine l_callG c4' ?_
  refine goW ?_
  refine l_step (s_store eLk eLk hst) ?_
  refine goW ?_
  refine end_ret (v := .tup [.agg [.int .i64 (rateN s k : Nat), .int .i64 (momN s k : Nat)], .int .i64 0]) ?_ ⟨rfl, p2⟩
  simp only [resRf, resRs, resR, put_app, put_none, Nat.reduceEqDiff, reduceIte, Option.some.injEq, reduceCtorEq, T32, ln2]
  rfl

theorem refFirstHyper_ (H : Heap) (s k : Nat) (hs : s ≤ 65535) (hk : k ≤ 7) : Call Tryz.prog 54 [.int .i64 s, .int .i64 k] H (.tup [.agg [.int .i64 (rateN s (40000 + 2 * k) : Nat), .int .i64 (momN s (40000 + 2 * k) : Nat)], .int .i64 0]) H := by
  refine call_plain fit mixed Tryz.func54 rfl rfl rfl (by kernel_rfl) rfl ?_
  obtain ⟨H1, hH1⟩ : ∃ H1, H ++ [.row [.int .i64 0, .int .i64 0] true] = H1 := ⟨_, rfl⟩
  have p1 : H <+: H1 := by rw [← hH1]; exact List.prefix_append _ _
  have g1 : H1[H.length]? = some (.row [.int .i64 0, .int .i64 0] true) := by rw [← hH1]; simp
  have c1 := upTo1_ H1 s 0 65535
  have c2 := upTo1_ H1 k 0 7
  rw [within_iff.2 ⟨by omega, by omega⟩] at c1 c2
  obtain ⟨q, hq⟩ : ∃ q, 40000 + 2 * k = q := ⟨_, rfl⟩
  have c3 := refResample_ H1 s q hs (by omega)
  have w0 : IntKind.i64.wrap (2 * (k : Int)) = ((2 * k : Nat) : Int) := by rw [show 2 * (k : Int) = ((2 * k : Nat) : Int) by omega]; exact wrap_nat (by omega)
  have w1 : IntKind.i64.wrap (40000 + ((2 * k : Nat) : Int)) = (q : Int) := by rw [wrap_i64 (by omega) (by omega)]; omega
  rw [hq]
  have hst := agg_store (cells := [V.int .i64 (rateN s q : Nat), V.int .i64 (momN s q : Nat)]) T32 g1 rfl rfl
  obtain ⟨H2, hH2⟩ : ∃ H2, H1.set H.length (.row [V.int .i64 (rateN s q : Nat), V.int .i64 (momN s q : Nat)] true) = H2 := ⟨_, rfl⟩
  rw [hH2] at hst
  have hlt := (List.getElem?_eq_some_iff.1 g1).1
  have p2 : H <+: H2 := by rw [← hH2]; exact pre_set p1 (Nat.le_refl _)
  have ln2 : Heap.loadN H2 H.length 0 2 = some [V.int .i64 (rateN s q : Nat), V.int .i64 (momN s q : Nat)] := by unfold Heap.loadN; rw [← hH2, List.getElem?_set_self hlt]; rfl
  clear hs hk g1 hlt hH2 hq
  refine goW ?_
  refine l_heap (h' := H1) hH1 ?_
  refine goW ?_
  refine l_callG c1 ?_
  refine goW ?_
  refine l_callG c2 ?_
  refine goW ?_
  refine cond_go (fun hb => ?_) (fun hb => ?_)
  · cases hb
  clear hb
  refine goW ?_
  refine l_callG c3 ?_
  repeat (first | refine l_go ?_ (by first | exact s_extract eLk (by rfl)))
  refine l_step (s_store eLk eLk hst) ?_
  refine goW ?_
  refine end_ret (v := .tup [.agg [.int .i64 (rateN s q : Nat), .int .i64 (momN s q : Nat)], .int .i64 0]) ?_ ⟨rfl, p2⟩
  simp only [resRf, resRs, resR, put_app, put_none, Nat.reduceEqDiff, reduceIte, Option.some.injEq, reduceCtorEq, T32, ln2]
  rfl
end Go.Proofs.YtengdmagaeckoaaGreat.VM

/- Layer 20: the document's FirstMember. -/
namespace Go.Proofs.YtengdmagaeckoaaGreat.VM
open Go
set_option linter.unusedVariables false
set_option linter.unusedSimpArgs false
attribute [local irreducible] wq wqL wqD wqE wqO Th Bk EndR
set_option maxHeartbeats 8000000

theorem refFirst_good (H : Heap) (c : Cfg) (rv : V) (id : Int) (hr : Rows H rv c.rows) (hc : cfgMay c = true) (hid : 0 ≤ id ∧ id < c.m) :
    ∃ w H', Call Tryz.prog 20 [.agg (cfgC c rv), .int .i64 id] H w H' ∧ ∃ u1 u2, w = .tup [.agg (memC u1 u2 (firstR c id) (firstM c id) 0 0), .str (strOf (firstS c id)), .int .i64 0] ∧ Mem H H' [.own 1 intC u2 (firstV c), .own 1 intC u1 (firstW c id)] := by
  have hfit := first_fits hc id
  simp only [memFits, Bool.and_eq_true] at hfit
  obtain ⟨hchk, _⟩ := hfit
  obtain ⟨hm2, hloss, hseed, _⟩ := cfgMay_split hc
  obtain ⟨hs, hr1, hr8, hrok⟩ := lossMay_split hloss
  obtain ⟨a, b, ha, hb, ha1, ha3, hb1, hb3⟩ := shape_ab hs
  have h16 := size16 ha3 hb3
  obtain ⟨s, hse⟩ : ∃ s : Nat, c.seed = s := ⟨c.seed.toNat, by omega⟩
  obtain ⟨d, hd⟩ : ∃ d : Nat, id = d := ⟨id.toNat, by omega⟩
  have hWl : (firstW c id).length = netSize a b := by unfold firstW; rw [ha, hb]; simp only [Int.toNat_natCast]; exact initL_len _ _ _ _
  have hZr : firstV c = List.replicate (netSize a b) 0 := by unfold firstV; rw [ha, hb]; simp only [Int.toNat_natCast]
  have hW' : initL a b s (50000 + 16 * d) = firstW c id := by unfold firstW; rw [ha, hb, hse, hd]; simp only [Int.toNat_natCast]
  have hR' : ((rateN s (40000 + 2 * d) : Nat) : Int) = firstR c id := by unfold firstR; rw [hse, hd]; simp only [Int.toNat_natCast]
  have hM' : ((momN s (40000 + 2 * d) : Nat) : Int) = firstM c id := by unfold firstM; rw [hse, hd]; simp only [Int.toNat_natCast]
  have hS' : putL (firstW c id) (firstV c) (firstR c id) (firstM c id) 0 = firstS c id := rfl
  have w0 : IntKind.i64.wrap (c.m - 1) = c.m - 1 := wrap_i64 (by omega) (by omega)
  have w1 : IntKind.i64.wrap (16 * id) = 16 * id := wrap_i64 (by omega) (by omega)
  have w2 : IntKind.i64.wrap (50000 + 16 * id) = ((50000 + 16 * d : Nat) : Int) := by rw [wrap_i64 (by omega) (by omega)]; omega
  have lrow : ∀ r ∈ c.rows, r.1.length ≤ 2 ^ 47 := fun rr hrr => by
    have := hrok rr hrr
    simp only [rowOk, Bool.and_eq_true] at this
    have := vecMay_len (feeds_split this.1).2
    omega
  generalize firstW c id = W at *
  generalize firstV c = Z at *
  generalize firstR c id = r at *
  generalize firstM c id = m at *
  generalize firstS c id = S at *
  refine call_mem fit mixed Tryz.func20 rfl rfl rfl (by kernel_rfl) fun hM => ?_
  refine wq_seq (wq_line ?_)
  refine l_boxM T26 fun b1 H1 hM => ?_
  refine l_newM (cs := zeroMem) T48 rfl fun b2 H2 hM => ?_
  have c1 := refConfMay_ H2 c rv (hr.mono hM.pre) (by omega) lrow
  rw [hc] at c1
  have c2 := upTo12_ H2 id 0 (c.m - 1)
  rw [within_iff.2 ⟨hid.1, by omega⟩] at c2
  obtain ⟨u1, H3, c3, m3⟩ := refInit_ H2 a b s (50000 + 16 * d) ⟨ha1, ha3⟩ ⟨hb1, hb3⟩ (by omega) (by omega)
  rw [hW'] at m3
  rw [← ha, ← hb, ← hse] at c3
  have c4 := refFirstHyper_ H3 s d (by omega) (by omega)
  rw [hR', hM', ← hse, ← hd] at c4
  have hlen := m3.sl.len T30 rfl
  rw [hWl] at hlen
  have t1 := m3.sl.cells
  have t2 := m3.sl.two
  clear hid hm2 hloss hseed hs hr1 hr8 hrok ha hb ha1 ha3 hb1 hb3 hse hd hW' hR' hM' hWl lrow
  refine goM ?_
  refine l_callG c1 ?_
  refine goM ?_
  refine l_callG c2 ?_
  refine goM ?_
  refine l_callG c3 ?_
  replace hM := hM.call1 m3.mem
  refine goM ?_
  refine l_callG c4 ?_
  refine goM ?_
  refine l_newM (cs := [.int .i64 0, .int .i64 0]) T32 rfl fun b3 H4 hM => ?_
  refine l_putM T32 fun H5 hM => ?_
  refine goM ?_
  refine d_makeM 1 intC T30 rfl T3 (n := netSize a b) (z := 0) rfl rfl rfl rfl rfl ⟨by show (8 : Int) * _ ≤ _; omega, by omega⟩ fun u2 H6 hM => ?_
  rw [← hZr] at hM
  have t3 := (hM.sl .here).cells
  refine goM ?_
  refine d_newM (cs := zeroChk) T34 rfl fun b4 H7 hM => ?_
  refine d_putM T34 fun H8 hM => ?_
  have c5 := refPut_good H8 u1 u2 W Z r m 0 (hM.slG) (hM.slG) hchk
  rw [hS'] at c5
  refine goM ?_
  refine l_callG c5 ?_
  refine goM ?_
  refine l_putM T48 fun H9 hM => ?_
  refine goM ?_
  exact end_3 (by first | exact .inl rfl | exact .inr rfl) ⟨_, _, rfl, hM.subG⟩
end Go.Proofs.YtengdmagaeckoaaGreat.VM

/- Layer 21: what a step of training answers, whatever comes in: the program's One, the document's Train. -/
namespace Go.Proofs.YtengdmagaeckoaaGreat.VM
open Go
set_option linter.unusedVariables false
set_option linter.unusedSimpArgs false
attribute [local irreducible] wq wqL wqD wqE wqO Th Bk EndR
set_option maxHeartbeats 8000000

/-- a checkpoint -/
structure Chk where
  ws : List Int
  vs : List Int
  r : Int
  m : Int
  t : Int
abbrev kC (w v : V) (k : Chk) : List V := [w, v, .int .i64 k.r, .int .i64 k.m, .int .i64 k.t]
abbrev noChk : Chk := ⟨[], [], 0, 0, 0⟩
def kMay (k : Chk) : Bool := chkMay k.ws k.vs k.r k.m k.t
def kFits (c : Cfg) (k : Chk) : Bool := memFits c.i c.h k.ws k.vs k.r k.m k.t
/-- where a checkpoint's numbers lie -/
structure KAt (H : Heap) (w v : V) (k : Chk) : Prop where
  ws : Sl 1 intC H w k.ws
  vs : Sl 1 intC H v k.vs
theorem KAt.mono {H H' : Heap} {w v : V} {k : Chk} (hp : H <+: H') (h : KAt H w v k) : KAt H' w v k := ⟨h.ws.mono hp, h.vs.mono hp⟩
theorem Mem.k {B H : Heap} {L : List Res} {w v : V} {k : Chk} {f g : Res → List Res} (h : Mem B H L) (h1 : Has L (.own 1 intC w k.ws) f) (h2 : Has L (.own 1 intC v k.vs) g) : KAt H w v k := ⟨h.sl h1, h.sl h2⟩
structure Chk.Fit (k : Chk) : Prop where
  ws : k.ws.length * 8 ≤ 140737488351232
  vs : k.vs.length * 8 ≤ 140737488351232
structure Cfg.Fit (c : Cfg) : Prop where
  rows : c.rows.length * 32 ≤ 140737488351232
  row : ∀ r ∈ c.rows, r.1.length * 8 ≤ 140737488351232

theorem cells_ints (xs : List Int) : Cells 1 intC (xs.flatMap fun x => [V.int .i64 x]) xs := cells_of (R := intC) (fun x => [V.int .i64 x]) (fun x => ⟨rfl, rfl⟩) xs
theorem cells_rows (xs : List (V × Int)) : Cells 2 rowC (xs.flatMap fun p => [p.1, V.int .i64 p.2]) xs := cells_of (R := rowC) (fun p => [p.1, V.int .i64 p.2]) (fun x => ⟨rfl, rfl⟩) xs

theorem wrap_m {m : Int} (h : 2 ≤ m ∧ m ≤ 8) : IntKind.i64.wrap (m - 1) = m - 1 := wrap_i64 (by omega) (by omega)
end Go.Proofs.YtengdmagaeckoaaGreat.VM

/- The statements' helpers over the memory by parts: checkpoints and configs that are copied, written over. -/
namespace Go.Proofs.YtengdmagaeckoaaGreat.VM
open Go
set_option linter.unusedVariables false
set_option linter.unusedSimpArgs false
attribute [local irreducible] wq wqL wqD wqE wqO Th Bk EndR
set_option maxHeartbeats 8000000

/-- rows of data that lie there -/
def rowsFact (v : V) (rv : List (V × Int)) (rs : List (List Int × Int)) : Fact where
  S c := v.blk = some c ∨ ∃ q ∈ rv, q.1.blk = some c
  p H := Sl 2 rowC H v rv ∧ RowsAt H rv rs
  st H H' h hf := ⟨h.1.fr fun c _ hc => hf c (.inl hc), h.2.1, fun k q r hq hr => ⟨(h.2.2 k q r hq hr).1.fr fun c _ hc => hf c (.inr ⟨q, List.mem_iff_getElem?.2 ⟨k, hq⟩, hc⟩), (h.2.2 k q r hq hr).2⟩⟩
  lt H c h hc := by
    rcases hc with hc | ⟨q, hq, hc⟩
    · exact h.1.lt hc
    · obtain ⟨k, hk⟩ := List.mem_iff_getElem?.1 hq
      obtain ⟨r, hr⟩ : ∃ r, rs[k]? = some r := ⟨rs[k]'(by have := (List.getElem?_eq_some_iff.1 hk).1; have := h.2.1; omega), by simp⟩
      exact (h.2.2 k q r hk hr).1.lt hc
theorem rows_of {H : Heap} {v : V} {rv : List (V × Int)} {rs : List (List Int × Int)} (h : (rowsFact v rv rs).p H) : Rows H v rs := ⟨rv, h.1, h.2⟩
theorem RowsM.mem {B H : Heap} {v : V} {rs : List (List Int × Int)} (h : RowsM B H v rs) : ∃ rv, Mem B H [.ro (rowsFact v rv rs)] := by
  obtain ⟨rv, h1, h2, h3⟩ := h
  refine ⟨rv, Mem.mkro h1.1 ⟨h1.sl, h2⟩ fun c hc => ?_⟩
  rcases hc with hc | ⟨q, hq, hc⟩
  · exact (h1.blk hc).1
  · exact h3 q hq c hc

theorem copyCheckM_ (H : Heap) (w v : V) (k : Chk) (hk : KAt H w v k) (hf : k.Fit) : ∃ u H', Call Tryz.prog 58 [.agg (kC w v k)] H u H' ∧ ∃ a b, u = .agg (kC a b k) ∧ Mem H H' [.own 1 intC b k.vs, .own 1 intC a k.ws] := by
  have l1 := hf.ws
  have l2 := hf.vs
  have s1 := hk.ws.cells
  have s2 := hk.vs.cells
  refine call_mem fit mixed Tryz.func58 rfl rfl rfl (by kernel_rfl) fun hM => ?_
  refine wq_seq (wq_line ?_)
  refine l_boxM T34 fun b1 H1 hM => ?_
  refine l_newM (cs := zeroChk) T34 rfl fun b2 H2 hM => ?_
  refine goM ?_
  refine l_sliceM intC [] [] T30 rfl T3 rfl (cells_ints []) (by decide) fun e1 H3 hM => ?_
  refine goM ?_
  refine l_appM (hk.ws.mono hM.pre) fun a H4 hM => ?_
  have s3 := (hM.sl .here).cells
  refine goM ?_
  refine l_putM T30 fun H5 hM => ?_
  refine goM ?_
  refine l_sliceM intC [] [] T30 rfl T3 rfl (cells_ints []) (by decide) fun e2 H6 hM => ?_
  refine goM ?_
  refine l_appM (hk.vs.mono hM.pre) fun b H7 hM => ?_
  have s4 := (hM.sl .here).cells
  refine goM ?_
  refine l_putM T30 fun H8 hM => ?_
  refine goM ?_
  refine l_putM T34 fun H9 hM => ?_
  refine goM ?_
  exact end_1 (by first | exact .inl rfl | exact .inr rfl) ⟨a, b, rfl, hM.subG⟩

end Go.Proofs.YtengdmagaeckoaaGreat.VM

/- Chapter 21: what the statements share: the small config, a first checkpoint, what every program answers. -/
namespace Go.Proofs.YtengdmagaeckoaaGreat.VM
open Go
set_option linter.unusedVariables false
set_option linter.unusedSimpArgs false
attribute [local irreducible] wq wqL wqD wqE wqO Th Bk EndR
set_option maxHeartbeats 8000000

/-- a fact that is kept from simp -/
def Held (p : Prop) : Prop := p

def smallC : Cfg := ⟨2, 1, 1, [([65536], 32768), ([-65536], 0)], 7, 3, 1, 1, true⟩
theorem small_may : cfgMay smallC = true := by decide +kernel
theorem small_fit : smallC.Fit := ⟨by decide, fun r hr => by
  rcases List.mem_cons.1 hr with rfl | hr
  · simp
  · rcases List.mem_cons.1 hr with rfl | hr
    · simp
    · cases hr⟩
/-- a member's first checkpoint -/
def firstK (c : Cfg) (id : Int) : Chk := ⟨firstW c id, firstV c, firstR c id, firstM c id, 0⟩
/-- a member's cells -/
abbrev mC (w v : V) (k : Chk) (h : Int) : List V := [w, v, .int .i64 k.r, .int .i64 k.m, .int .i64 k.t, .int .i64 h]
theorem firstK_fits {c : Cfg} (hc : cfgMay c = true) (id : Int) : kFits c (firstK c id) = true := first_fits hc id
theorem kFits_fit {c : Cfg} {k : Chk} (h : kFits c k = true) : k.Fit := by
  unfold kFits memFits at h
  rw [Bool.and_eq_true] at h
  obtain ⟨a, b, l, _⟩ := chkMay_split h.1
  have := vecMay_len a
  have := vecMay_len b
  exact ⟨by omega, by omega⟩
end Go.Proofs.YtengdmagaeckoaaGreat.VM

/- Layer 14: the program's bytes of a number. -/
namespace Go.Proofs.YtengdmagaeckoaaGreat.VM
open Go
set_option linter.unusedVariables false
set_option linter.unusedSimpArgs false
attribute [local irreducible] wq wqL wqD wqE wqO Th Bk EndR
set_option maxHeartbeats 8000000

theorem fdiv_step (x : Int) (j : Nat) (h : 8 * j + 8 ≤ 64) : (x.fdiv (2 ^ min (8 * j) IntKind.i64.bits)).fdiv (2 ^ (min ((8 : Int).toNat) IntKind.i64.bits)) = x.fdiv (2 ^ min (8 * (j + 1)) IntKind.i64.bits) := by
  have e1 : min (8 * j) IntKind.i64.bits = 8 * j := by simp [IntKind.bits]; omega
  have e2 : min ((8 : Int).toNat) IntKind.i64.bits = 8 := by decide
  have e3 : min (8 * (j + 1)) IntKind.i64.bits = 8 * j + 8 := by simp [IntKind.bits]; omega
  rw [e1, e2, e3]
  have p1 : (0 : Int) ≤ 2 ^ (8 * j) := Int.pow_nonneg (by decide)
  have p2 : (0 : Int) ≤ 2 ^ 8 := by decide
  rw [Int.fdiv_eq_ediv_of_nonneg _ p1, Int.fdiv_eq_ediv_of_nonneg _ p2, Int.fdiv_eq_ediv_of_nonneg _ (Int.pow_nonneg (by decide)), Int.ediv_ediv_of_nonneg p1, Int.pow_add]
theorem lowL_snoc (x : Int) (k : Nat) : lowL x k ++ [lowK x k] = lowL x (k + 1) := by unfold lowL; rw [List.range_succ, List.map_append]; rfl

/-- four bytes behind the others -/
theorem put_ (B H : Heap) (L : List Res) (f : Res → List Res) (v : V) (bs : List Int) (x : Int) (hM : Mem B H L) (hh : Has L (.own 1 byteC v bs) f) (hl : bs.length ≤ 1000) :
    ∃ w H', Call Tryz.prog 128 [v, .int .i64 x] H w H' ∧ Mem B H' (f (.own 1 byteC w (bs ++ lowL x 4))) := by
  refine call_turn fit mixed hM Tryz.func128 rfl rfl rfl (by kernel_rfl) fun _ => ?_
  refine goM ?_
  refine wq_loop (fun m ρ hp => ∃ (j : Nat) (u : V) (L' : List Res), j ≤ 4 ∧ m = 4 - j ∧ Mem B hp L' ∧ Has L' (.own 1 byteC u (bs ++ lowL x j)) f ∧ ρ 0 = u ∧ ρ 1 = .int .i64 (x.fdiv (2 ^ min (8 * j) IntKind.i64.bits)) ∧ ρ 5 = .int .i64 (j : Int)) ⟨0, v, L, Nat.zero_le _, rfl, hM, by simpa [lowL] using hh, rfl, ?_, rfl⟩ ?_
  · show V.int .i64 x = _
    congr 1
    simp [Int.fdiv_one]
  clear hM hh
  rintro _ ρ hp ⟨j, u, L', hj, rfl, hM, hh, h0, h1, h5⟩
  refine goM ?_
  refine cond_go (fun hb => ?_) (fun hb => ?_)
  · have h4 : ((j : Int) < 4) := by simpa using hb
    have hj' : j < 4 := by omega
    clear hb h4
    have hst := fdiv_step x j (by omega)
    have hwj := wrap_succ (n := j) (by omega)
    have hbl : (bs ++ lowL x j).length = bs.length + j := by rw [List.length_append, lowL_len]
    have hlk : IntKind.u8.wrap (x.fdiv (2 ^ min (8 * j) IntKind.i64.bits)) = lowK x j := rfl
    obtain ⟨s, hs⟩ : ∃ s, x.fdiv (2 ^ min (8 * j) IntKind.i64.bits) = s := ⟨_, rfl⟩
    rw [hs] at hst h1 hlk
    have hsh : vbin T .shr 3 (.int .i64 s) (.int .u64 8) = some (.int .i64 (x.fdiv (2 ^ min (8 * (j + 1)) IntKind.i64.bits))) := by
      simp only [vbin, shiftBin]
      rw [if_neg (by decide), hst]
    clear hst hs
    refine goM ?_
    refine l_sliceM byteC [lowK x j] [.int .u8 (lowK x j)] T83 rfl T5 rfl (Cells.one (sz := 1) rfl rfl) (by decide) fun e1 H1 hM => ?_
    refine goM ?_
    refine l_appM (hM.sl .here) (xs := bs ++ lowL x j) (hh := .there hh) (hb := by rw [hbl]; simp only [List.length_cons, List.length_nil]; omega) fun u2 H2 hM => ?_
    replace hM := hM.drop
    rw [List.append_assoc, lowL_snoc] at hM
    repeat (first | (refine l_pl ?_; refine l_step (s_bin eLk eLk hsh) ?_) | (refine l_pl ?_; refine l_goM ?_) | (refine d_pl ?_; refine d_goM ?_) | (refine l_gd ?_; first | refine l_onG ?_ | refine l_offG ?_ | refine l_offU ?_) | (refine d_gd ?_; first | refine d_onG ?_ | refine d_offG ?_ | refine d_offU ?_) | (refine cond_pl ?_; first | refine cond_yes ?_ | refine cond_no ?_) | refine wq_seq ?_ | refine wq_line ?_ | refine wq_draw (by decide +kernel) ?_ | refine wq_block ?_ | refine l_nil ?_ | refine d_nil ?_ | refine wq_skip ?_ | refine wq_ret ?_ | refine wq_exit ?_ | refine th_normal ?_ | refine th_ret ?_ | refine th_exit ?_ | refine bk_normal ?_ | refine bk_ret ?_ | refine bk_exit ?_ | refine bk_other rfl ?_)
    exact ⟨4 - (j + 1), by omega, j + 1, u2, _, hj', rfl, hM, hh.again _, by simp [put_app, put_none, *]⟩
  · have h4 : ¬ ((j : Int) < 4) := by simpa using hb
    have hj' : j = 4 := by omega
    subst hj'
    clear hb h4
    refine goM ?_
    refine end_1 (by first | exact .inl rfl | exact .inr rfl) ?_
    rw [hh.same]; exact hM
end Go.Proofs.YtengdmagaeckoaaGreat.VM

/- Layer 14: the library's Grow and Concat, of a few numbers. -/
namespace Go.Proofs.YtengdmagaeckoaaGreat.VM
open Go
set_option linter.unusedVariables false
set_option linter.unusedSimpArgs false
attribute [local irreducible] wq wqL wqD wqE wqO Th Bk EndR
set_option maxHeartbeats 8000000

theorem zeros_len (n : Nat) : (zeros [V.int .i64 0] n).length = n := by
  unfold zeros
  induction n with
  | zero => rfl
  | succ n ih => rw [List.replicate_succ, List.flatten_cons, List.length_append, ih]; simp; omega

theorem news_int (o : Option TI) (ho : o = some { k := .int .i64, size := 1, bytes := 8, zero := [.int .i64 0] }) (H : Heap) (n : Nat) (h2 : n ≤ 1000) : newsOf T o.get! 3 (.int .i64 (n : Int)) H = some (n, zeros [V.int .i64 0] n) := by
  subst ho
  unfold newsOf
  simp only [T3]
  split
  · simp
  · rename_i h
    exact absurd ⟨by omega, by show (n : Int) * (8 : Nat) ≤ _; omega, by simp only [IntKind.max, IntKind.signed, IntKind.bits]; simp; omega⟩ h
theorem append_int (o : Option TI) (ho : o = some { k := .int .i64, size := 1, bytes := 8, zero := [.int .i64 0] }) (H : Heap) (n : Nat) (h1 : 1 ≤ n) (h2 : n ≤ 1000) : appendV o.get! .nils n (zeros [V.int .i64 0] n) H = some (.slc H.length 0 n n false 1, H ++ [.row (zeros [V.int .i64 0] n) true]) := by
  subst ho
  show appendV { k := .int .i64, size := 1, bytes := 8, zero := [.int .i64 0] } .nils n (zeros [V.int .i64 0] n) H = _
  unfold appendV
  rw [if_neg (by rw [zeros_len]; simp)]
  simp only
  rw [if_neg (by omega), if_pos ⟨by omega, by omega⟩]

theorem grow_ (H : Heap) (n : Nat) (h1 : 1 ≤ n) (h2 : n ≤ 1000) : ∃ w H', Call Tryz.prog 152 [.nils, .int .i64 (n : Int)] H w H' ∧ Mem H H' [.own 1 intC w []] := by
  refine call_mem fit mixed Tryz.func152 rfl rfl rfl (by kernel_rfl) fun hM => ?_
  have d1 : decide ((n : Int) < 0) = false := decide_eq_false (by omega)
  have d2 : decide ((n : Int) > 0) = true := decide_eq_true (by omega)
  have w0 : IntKind.i64.wrap ((0 : Int) - 0) = 0 := rfl
  have w1 : IntKind.i64.wrap ((n : Int) - 0) = (n : Int) := by rw [Int.sub_zero]; exact wrap_nat (by omega)
  have hn := news_int (T 3) T3 H n h2
  have ha := append_int (T 3) T3 H n h1 h2
  have hM2 : Mem H (H ++ [.row (zeros [V.int .i64 0] n) true]) [.own 1 intC (.slc H.length 0 0 n false 1) ([] : List Int)] := by
    refine Mine.mem ⟨List.prefix_append _ _, .inr ⟨H.length, Nat.le_refl _, n, false, _, rfl, Nat.zero_le _, by simp; rfl, by rw [zeros_len]; omega, by simp, ?_⟩⟩
    simpa using Cells.nil (R := intC) (sz := 1)
  have hsl : sliceV 1 (.slc H.length 0 n n false 1) none (some (.int .i64 0)) none = some (.slc H.length 0 0 n false 1) := by
    simp [sliceV, boundV, V.asIdx]
  clear hM
  refine goM ?_
  refine l_appendG hn ha ?_
  refine goM ?_
  exact end_1 (by first | exact .inl rfl | exact .inr rfl) hM2

def oneVC (cs : List V) (v : V) : Prop := cs = [v]
theorem flat_next {xss : List (List Int)} {k : Nat} {xs : List Int} (h : xss[k]? = some xs) : (xss.take (k + 1)).flatten = (xss.take k).flatten ++ xs := by
  rw [List.take_add_one, h]; simp
theorem flat_le (xss : List (List Int)) : ∀ k, (xss.take k).flatten.length ≤ xss.flatten.length := fun k => by
  have h : xss.flatten = (xss.take k).flatten ++ (xss.drop k).flatten := by rw [← List.flatten_append, List.take_append_drop]
  rw [h, List.length_append]; omega

theorem concat_ (H : Heap) (v : V) (us : List V) (xss : List (List Int)) (n : Nat) (hv : Sl 1 oneVC H v us) (hl : us.length = xss.length) (hl2 : us.length ≤ 100) (hall : ∀ (k : Nat) u xs, us[k]? = some u → xss[k]? = some xs → Sl 1 intC H u xs) (hn : xss.flatten.length = n) (h1 : 1 ≤ n) (h2 : n ≤ 1000) :
    ∃ w H', Call Tryz.prog 127 [v] H w H' ∧ Mem H H' [.own 1 intC w xss.flatten] := by
  have s0 := hv.cells
  have hlen := hv.len T195 rfl
  obtain ⟨q, hq⟩ : ∃ q, us.length = q := ⟨_, rfl⟩
  rw [hq] at hlen hl hl2
  have hl3 := hl.symm
  clear hl
  have hfl := flat_le xss
  rw [hn] at hfl
  refine call_mem fit mixed Tryz.func127 rfl rfl rfl (by kernel_rfl) fun hM => ?_
  refine goM ?_
  refine wq_loop (fun m ρ hp => ∃ k : Nat, k ≤ q ∧ m = q - k ∧ hp = H ∧ ρ 0 = v ∧ ρ 3 = .int .i64 ((xss.take k).flatten.length : Nat) ∧ ρ 9 = v ∧ ρ 10 = .int .i64 (q : Int) ∧ ρ 11 = .int .i64 (k : Int)) ⟨0, Nat.zero_le _, by omega, rfl, rfl, by simp [put_app, put_none, *], by simp [put_app, put_none, *], by simp [put_app, put_none, *], by simp [put_app, put_none, *]⟩ ?_
  rintro _ ρ hp ⟨k, hk, rfl, hpe, g0, g3, g9, g10, g11⟩
  subst hpe
  refine goM ?_
  refine cond_go (fun hb => ?_) (fun hb => ?_)
  · have hk' : k < q := by simpa using hb
    clear hb
    obtain ⟨u, hu⟩ : ∃ u, us[k]? = some u := ⟨us[k]'(by omega), by simp⟩
    obtain ⟨xs, hxs⟩ : ∃ xs, xss[k]? = some xs := ⟨xss[k]'(by omega), by simp⟩
    have hxl := (hall k u xs hu hxs).len T30 rfl
    obtain ⟨b1, o1, _, hi1, rfl, _, hlo1, _⟩ := hv.get T195 rfl T30 rfl hu
    have ho1 := loadV_one T30 rfl hlo1
    have hnx := flat_next hxs
    have hle := hfl (k + 1)
    have hsum : IntKind.i64.wrap (((xss.take k).flatten.length : Int) + (xs.length : Int)) = ((xss.take (k + 1)).flatten.length : Int) := by
      rw [hnx, List.length_append] at hle ⊢
      rw [wrap_i64 (by omega) (by omega)]; omega
    have d1 : decide (((xss.take (k + 1)).flatten.length : Int) < 0) = false := decide_eq_false (by omega)
    have hw := wrap_succ (n := k) (by omega)
    clear hlo1 hnx hle hxs hu
    refine goM ?_
    exact ⟨q - (k + 1), by omega, k + 1, hk', rfl, rfl, by simp [put_app, put_none, *]⟩
  · have hk' : k = q := by have : ¬ k < q := by simpa using hb
                           omega
    subst hk'
    clear hb
    rw [List.take_of_length_le (by omega), hn] at g3
    obtain ⟨u0, H1, c1, m1⟩ := grow_ hp n h1 h2
    refine goM ?_
    refine l_callG c1 ?_
    clear c1 hM
    refine goM ?_
    refine wq_loop (fun m ρ hp' => ∃ (j : Nat) (u : V), j ≤ k ∧ m = k - j ∧ Mem hp hp' [.own 1 intC u (xss.take j).flatten] ∧ ρ 6 = u ∧ ρ 25 = v ∧ ρ 26 = .int .i64 (k : Int) ∧ ρ 27 = .int .i64 (j : Int)) ⟨0, u0, Nat.zero_le _, rfl, m1, by simp [put_app, put_none], by simp [put_app, put_none, *], by simp [put_app, put_none, *], by simp [put_app, put_none]⟩ ?_
    clear g0 g3 g9 g10 g11 m1
    clear ρ
    rintro _ ρ hp' ⟨j, u, hj, rfl, hM, g6, g25, g26, g27⟩
    refine goM ?_
    refine cond_go (fun hb => ?_) (fun hb => ?_)
    · have hj' : j < k := by simpa using hb
      clear hb
      obtain ⟨w, hw'⟩ : ∃ u, us[j]? = some u := ⟨us[j]'(by omega), by simp⟩
      obtain ⟨xs, hxs⟩ : ∃ xs, xss[j]? = some xs := ⟨xss[j]'(by omega), by simp⟩
      have hws := (hall j w xs hw' hxs).mono hM.pre
      obtain ⟨b1, o1, _, hi1, rfl, _, hlo1, _⟩ := (hv.mono hM.pre).get T195 rfl T30 rfl hw'
      have ho1 := loadV_one T30 rfl hlo1
      have hnx := flat_next hxs
      have hle := hfl (j + 1)
      rw [hnx, List.length_append] at hle
      have hwj := wrap_succ (n := j) (by omega)
      clear hlo1 hxs hw'
      refine goM ?_
      refine l_appM hws (xs := (xss.take j).flatten) (hb := ⟨by show _ * 8 ≤ _; omega, by omega⟩) fun u2 H2 hM => ?_
      rw [← hnx] at hM
      refine goM ?_
      exact ⟨k - (j + 1), by omega, j + 1, u2, hj', rfl, hM, by simp [put_app, put_none, *]⟩
    · have hj' : j = k := by have : ¬ j < k := by simpa using hb
                             omega
      subst hj'
      clear hb
      rw [List.take_of_length_le (by omega)] at hM
      refine goM ?_
      exact end_1 (by first | exact .inl rfl | exact .inr rfl) hM
end Go.Proofs.YtengdmagaeckoaaGreat.VM

/- Layers 5, 11: the program's first weights and hypers. -/
namespace Go.Proofs.YtengdmagaeckoaaGreat.VM
open Go
set_option linter.unusedVariables false
set_option linter.unusedSimpArgs false
attribute [local irreducible] wq wqL wqD wqE wqO Th Bk EndR
set_option maxHeartbeats 8000000

theorem resample_ (H : Heap) (s k : Nat) (hs : s ≤ 65535) (hk : k ≤ 1048575) : Call Tryz.prog 126 [.int .i64 s, .int .i64 k] H (.tup [.agg [.int .i64 (rateN s k : Nat), .int .i64 (momN s k : Nat)], .int .i64 0]) H := by
  refine call_pure fit mixed Tryz.func126 rfl rfl rfl (by kernel_rfl) rfl fun hM => ?_
  have w0 := wrap_succ (n := k) (by omega)
  have w1 : IntKind.i64.wrap (64 + ((pickN s k 16321 : Nat) : Int)) = ((rateN s k : Nat) : Int) := by
    have h1 := pickN_lt (s := s) (k := k) (b := 16321) (by decide)
    unfold rateN
    rw [wrap_i64 (by omega) (by omega)]; omega
  have hd1 : drawMay s k = true := by simp only [drawMay, Bool.and_eq_true, within_iff]; omega
  have hd2 : drawMay s (k + 1 : Nat) = true := by simp only [drawMay, Bool.and_eq_true, within_iff]; omega
  have d1 : ((k : Int) == 1048576) = false := by simp; omega
  refine wq_seq (wq_line ?_)
  refine l_newM (cs := [.int .i64 0, .int .i64 0]) T32 rfl fun b1 H1 hM => ?_
  have c1 := drawMay_ H1 s k
  rw [hd1] at c1
  have c2 := drawPick_ H1 s k 16321 hd1 (by decide) (by decide)
  have c3 : Call Tryz.prog 151 [.int .i64 s, .int .i64 ((k : Int) + 1), .int .i64 58983] H1 (.tup [.int .i64 (momN s k : Nat), .int .i64 0]) H1 := drawPick_ H1 s (k + 1) 58983 hd2 (by decide) (by decide)
  clear hs hk hd1 hd2
  refine goM ?_
  refine l_callG c1 ?_
  refine goM ?_
  refine l_callG c2 ?_
  refine goM ?_
  refine l_callG c3 ?_
  refine goM ?_
  refine l_putM T32 fun H2 hM => ?_
  refine goM ?_
  exact end_2 (by first | exact .inl rfl | exact .inr rfl) ⟨rfl, hM.pre⟩

theorem hyperFirst_ (H : Heap) (s k : Nat) (hs : s ≤ 65535) (hk : k ≤ 7) : Call Tryz.prog 84 [.int .i64 s, .int .i64 k] H (.tup [.agg [.int .i64 (rateN s (40000 + 2 * k) : Nat), .int .i64 (momN s (40000 + 2 * k) : Nat)], .int .i64 0]) H := by
  refine call_pure fit mixed Tryz.func84 rfl rfl rfl (by kernel_rfl) rfl fun hM => ?_
  obtain ⟨q, hq⟩ : ∃ q, 40000 + 2 * k = q := ⟨_, rfl⟩
  have w0 : IntKind.i64.wrap (2 * (k : Int)) = ((2 * k : Nat) : Int) := by rw [show 2 * (k : Int) = ((2 * k : Nat) : Int) by omega]; exact wrap_nat (by omega)
  have w1 : IntKind.i64.wrap (40000 + ((2 * k : Nat) : Int)) = (q : Int) := by rw [wrap_i64 (by omega) (by omega)]; omega
  rw [hq]
  refine wq_seq (wq_line ?_)
  refine l_newM (cs := [.int .i64 0, .int .i64 0]) T32 rfl fun b1 H1 hM => ?_
  have c1 := sampleMember_ H1 k
  rw [within_iff.2 ⟨by omega, by omega⟩] at c1
  have c3 := resample_ H1 s q hs (by omega)
  clear hs hk hq
  refine goM ?_
  refine l_callG c1 ?_
  refine goM ?_
  refine l_callG c3 ?_
  refine goM ?_
  refine l_putM T32 fun H2 hM => ?_
  refine goM ?_
  exact end_2 (by first | exact .inl rfl | exact .inr rfl) ⟨rfl, hM.pre⟩

theorem initL_fill {s f k n : Nat} (h : k < n) : ((List.range k).map (initK s f) ++ List.replicate (n - k) 0).set k (initK s f k) = (List.range (k + 1)).map (initK s f) ++ List.replicate (n - (k + 1)) 0 := by
  rw [List.set_append_right _ _ (by simp)]
  have h1 : n - k = (n - (k + 1)) + 1 := by omega
  rw [h1, List.replicate_succ]
  simp [List.range_succ]

theorem init_ (H : Heap) (i h s f : Nat) (hi : 1 ≤ i ∧ i ≤ 3) (hh : 1 ≤ h ∧ h ≤ 3) (hs : s ≤ 65535) (hf : f ≤ 1048560) :
    ∃ w H', Call Tryz.prog 83 [.agg [.int .i64 i, .int .i64 h], .int .i64 s, .int .i64 f] H w H' ∧ ∃ u, w = .tup [u, .int .i64 0] ∧ Mem H H' [.own 1 intC u (initL i h s f)] := by
  have hsm : shapeMay (i : Int) (h : Int) = true := by simp only [shapeMay, Bool.and_eq_true, within_iff]; omega
  have hsmall : netSize i h ≤ 16 := by have := small_size hi.2 hh.2; unfold netSize; omega
  obtain ⟨n, hn⟩ : ∃ n, netSize i h = n := ⟨_, rfl⟩
  unfold initL
  rw [hn] at hsmall ⊢
  have hdm : ∀ k : Nat, k ≤ 16 → drawMay (s : Int) ((f + k : Nat) : Int) = true := fun k hk => by simp only [drawMay, Bool.and_eq_true, within_iff]; omega
  have hd0 : drawMay (s : Int) (f : Int) = true := hdm 0 (by omega)
  have d1 : decide ((f : Int) > 1048560) = false := decide_eq_false (by omega)
  refine call_mem fit mixed Tryz.func83 rfl rfl rfl (by kernel_rfl) fun hM => ?_
  refine wq_seq (wq_line ?_)
  refine l_boxM T23 fun b1 H1 hM => ?_
  have c0 := shapeMay_ H1 i h
  rw [hsm] at c0
  have c1 := drawMay_ H1 s f
  rw [hd0] at c1
  have c2 := shapeMany_ H1 i h hi.2 hh.2
  rw [hn] at c2
  clear hsm hi hh hd0
  refine goM ?_
  refine l_callG c0 ?_
  refine goM ?_
  refine l_callG c1 ?_
  refine goM ?_
  refine l_callG c2 ?_
  clear c0 c1 c2 d1
  refine goM ?_
  refine l_makeM 1 intC T30 rfl T3 (n := n) (z := 0) rfl rfl rfl rfl rfl ⟨by show (8 : Int) * _ ≤ _; omega, by omega⟩ fun v H2 hM => ?_
  have hvl := (hM.sl .here).len T30 rfl
  rw [List.length_replicate] at hvl
  refine goM ?_
  refine wq_loop (fun m ρ hp => ∃ k : Nat, k ≤ n ∧ m = n - k ∧ Mem H hp [.own 1 intC v ((List.range k).map (initK s f) ++ List.replicate (n - k) 0), .box b1 [.int .i64 i, .int .i64 h]] ∧ ρ 1 = .int .i64 s ∧ ρ 2 = .int .i64 f ∧ ρ 8 = v ∧ ρ 29 = .int .i64 (n : Int) ∧ ρ 30 = .int .i64 (k : Nat)) ⟨0, Nat.zero_le _, rfl, hM, rfl, rfl, rfl, rfl, rfl⟩ ?_
  clear hM
  rintro _ ρ hp ⟨k, hk, rfl, hM, h1, h2, h8, h29, h30⟩
  refine goM ?_
  refine cond_go (fun hb => ?_) (fun hb => ?_)
  · have hk' : k < n := by simpa using hb
    clear hb
    obtain ⟨b3, hi3, put1⟩ := hM.elem .here T30 rfl T3 rfl (k := k) (by simp; omega)
    obtain ⟨H3, st1, hM1⟩ := put1 (.int .i64 (initK s f k)) _ rfl rfl rfl
    rw [initL_fill hk'] at hM1
    have hw := wrap_succ (n := k) (by omega)
    have w1 : IntKind.i64.wrap ((f : Int) + (k : Int)) = ((f + k : Nat) : Int) := by rw [← Int.natCast_add]; exact wrap_nat (by omega)
    have c4 := drawOf_good hp s (f + k) (hdm k (by omega))
    have w2 : IntKind.i64.wrap (((drawN s (f + k) : Nat) : Int) - 32768) = initK s f k := by
      have := drawN_lt s (f + k)
      unfold initK
      exact wrap_i64 (by omega) (by omega)
    clear put1 hM hdm hs hf
    refine goM ?_
    refine l_callG c4 ?_
    refine goM ?_
    refine l_stM st1 ?_
    refine goM ?_
    exact ⟨n - (k + 1), by omega, k + 1, hk', rfl, hM1, by simp [put_app, put_none, *]⟩
  · have hk' : k = n := by have : ¬ k < n := by simpa using hb
                           omega
    subst hk'
    clear hb hdm
    rw [Nat.sub_self, List.replicate_zero, List.append_nil] at hM
    refine goM ?_
    exact end_2 (by first | exact .inl rfl | exact .inr rfl) ⟨v, rfl, hM.subG⟩
end Go.Proofs.YtengdmagaeckoaaGreat.VM

/- Layer 14, the plain law: a number of its bytes; where a checkpoint's numbers lie. -/
namespace Go.Proofs.YtengdmagaeckoaaGreat.VM
open Go
set_option linter.unusedVariables false
set_option linter.unusedSimpArgs false
attribute [local irreducible] wq wqL wqD wqE wqO Th Bk EndR
set_option maxHeartbeats 8000000

theorem lowsL_app (a b : List Int) : lowsL (a ++ b) = lowsL a ++ lowsL b := by simp [lowsL]
theorem putL_eq (ws vs : List Int) (r m t : Int) : putL ws vs r m t = (lowL ws.length 1 ++ lowsL (ws ++ (vs ++ [r, m]))) ++ [lowK t 0] := by
  unfold putL
  rw [lowsL_app, lowsL_app]
  have h1 : lowsL [r, m] = lowL r 4 ++ lowL m 4 := by simp [lowsL]
  have h2 : lowL t 1 = [lowK t 0] := rfl
  rw [h1, h2]
  simp only [List.append_assoc]
end Go.Proofs.YtengdmagaeckoaaGreat.VM

/- Layer 14: the program's Put of a checkpoint. -/
namespace Go.Proofs.YtengdmagaeckoaaGreat.VM
open Go
set_option linter.unusedVariables false
set_option linter.unusedSimpArgs false
attribute [local irreducible] wq wqL wqD wqE wqO Th Bk EndR
set_option maxHeartbeats 8000000

theorem byte_low (x : Int) : IntKind.u8.wrap x = lowK x 0 := by unfold lowK; simp [Int.fdiv_one]

theorem checkPut_ (H : Heap) (w v : V) (ws vs : List Int) (r m t : Int) (hw : Sl 1 intC H w ws) (hv : Sl 1 intC H v vs) (hm : chkMay ws vs r m t = true) : Call Tryz.prog 85 [.agg (chkC w v r m t)] H (.tup [.str (strOf (putL ws vs r m t)), .int .i64 0]) H := by
  obtain ⟨hvw, hvv, hlv, hlw1, _, _, _⟩ := chkMay_split hm
  have hlw := vecMay_len hvw
  obtain ⟨n, hn⟩ : ∃ n, ws.length = n := ⟨_, rfl⟩
  rw [putL_eq, hn]
  rw [hn] at hlv hlw hlw1
  obtain ⟨xs, hxs⟩ : ∃ xs, ws ++ (vs ++ [r, m]) = xs := ⟨_, rfl⟩
  have hxl : xs.length = 2 * n + 2 := by rw [← hxs]; simp only [List.length_append, List.length_cons, List.length_nil]; omega
  rw [hxs]
  have hfl : [ws, vs, [r, m]].flatten = xs := by rw [← hxs]; simp
  have s1 := hw.cells
  have s2 := hv.cells
  have bn := byte_low (n : Int)
  have bt := byte_low t
  refine call_pure fit mixed Tryz.func85 rfl rfl rfl (by kernel_rfl) rfl fun hM => ?_
  refine wq_seq (wq_line ?_)
  refine l_boxM T34 fun b1 H1 hM => ?_
  have c0 := chkMay_ H1 w v ws vs r m t (hw.mono hM.pre) (hv.mono hM.pre) (by omega) (by omega)
  rw [hm] at c0
  have hlen := (hw.mono hM.pre).len T30 rfl
  rw [hn] at hlen
  clear hm hvw hvv
  refine goM ?_
  refine l_callG c0 ?_
  refine goM ?_
  refine l_sliceM byteC [lowK n 0] [.int .u8 (lowK n 0)] T83 rfl T5 rfl (Cells.one (sz := 1) rfl rfl) (by decide) fun e1 H2 hM => ?_
  refine goM ?_
  refine l_sliceM intC [r, m] [.int .i64 r, .int .i64 m] T30 rfl T3 rfl (cells_of (R := intC) (fun x => [V.int .i64 x]) (fun x => ⟨rfl, rfl⟩) [r, m]) (by decide) fun e2 H3 hM => ?_
  have s3 := (hM.sl .here).cells
  refine l_sliceM oneVC [w, v, e2] [w, v, e2] T195 rfl T30 rfl (cells_of (R := oneVC) (fun x => [x]) (fun x => ⟨rfl, rfl⟩) [w, v, e2]) (by decide) fun e3 H4 hM => ?_
  have hw4 := hw.mono hM.pre
  have hv4 := hv.mono hM.pre
  have he4 := hM.sl (.there .here)
  obtain ⟨e4, H5, c1, m1⟩ := concat_ H4 e3 [w, v, e2] [ws, vs, [r, m]] (2 * n + 2) (hM.sl .here) rfl (by simp) (fun k u x hu hx => by
    match k, hu, hx with
    | 0, hu, hx => cases hu; cases hx; exact hw4
    | 1, hu, hx => cases hu; cases hx; exact hv4
    | 2, hu, hx => cases hu; cases hx; exact he4) (by rw [hfl, hxl]) (by omega) (by omega)
  rw [hfl] at m1
  clear hw4 hv4 he4 hw hv
  refine goM ?_
  refine l_callG c1 ?_
  replace hM := hM.call1 m1
  clear c1 m1
  have hlx := (hM.sl .here).len T30 rfl
  rw [hxl] at hlx
  replace hM : Mem H H5 [.own 1 intC e4 xs, .own 1 byteC e1 (lowL n 1 ++ lowsL (xs.take 0)), .box b1 (chkC w v r m t)] := hM.subG
  refine goM ?_
  refine wq_loop (fun c ρ hp => ∃ (k : Nat) (u : V), k ≤ 2 * n + 2 ∧ c = 2 * n + 2 - k ∧ Mem H hp [.own 1 intC e4 xs, .own 1 byteC u (lowL n 1 ++ lowsL (xs.take k)), .box b1 (chkC w v r m t)] ∧ ρ 1 = .ptr b1 0 ∧ ρ 4 = u ∧ ρ 27 = e4 ∧ ρ 28 = .int .i64 ((2 * n + 2 : Nat) : Int) ∧ ρ 29 = .int .i64 (k : Int)) ⟨0, e1, Nat.zero_le _, rfl, hM, rfl, rfl, rfl, rfl, rfl⟩ ?_
  clear hM
  rintro _ ρ hp ⟨k, u, hk, rfl, hM, g1, g4, g27, g28, g29⟩
  refine goM ?_
  refine cond_go (fun hb => ?_) (fun hb => ?_)
  · have hk' : k < 2 * n + 2 := by simp at hb; omega
    clear hb
    obtain ⟨x, hx⟩ : ∃ x, xs[k]? = some x := ⟨xs[k]'(by omega), by simp⟩
    obtain ⟨b2, o2, _, hi2, rfl, _, hlo2, _⟩ := (hM.sl .here).get T30 rfl T3 rfl hx
    have ho2 := loadV_one T3 rfl hlo2
    have hsn := lowsL_snoc hx
    obtain ⟨u', H6, c2, m2⟩ := put_ H hp _ _ u (lowL n 1 ++ lowsL (xs.take k)) x hM (.there .here) (by simp only [List.length_append, lowL_len, lowsL_len, List.length_take]; omega)
    rw [List.append_assoc, ← hsn] at m2
    have hw2 := wrap_succ (n := k) (by omega)
    clear hlo2 hsn hx
    refine goM ?_
    refine l_callG c2 ?_
    clear hM c2
    refine goM ?_
    exact ⟨2 * n + 2 - (k + 1), by omega, k + 1, u', hk', rfl, m2, by simp [put_app, put_none, *]⟩
  · have hk' : k = 2 * n + 2 := by simp at hb; omega
    subst hk'
    clear hb
    rw [List.take_of_length_le (by omega)] at hM
    obtain ⟨bs, hbs⟩ : ∃ bs, lowL n 1 ++ lowsL xs = bs := ⟨_, rfl⟩
    have hbl : bs.length = 1 + 4 * (2 * n + 2) := by rw [← hbs]; simp only [List.length_append, lowL_len, lowsL_len]; omega
    rw [hbs] at hM ⊢
    clear hbs
    refine goM ?_
    refine l_sliceM byteC [lowK t 0] [.int .u8 (lowK t 0)] T83 rfl T5 rfl (Cells.one (sz := 1) rfl rfl) (by decide) fun e5 H6 hM => ?_
    refine goM ?_
    refine l_appM (hM.sl .here) (xs := bs) (hh := .there (.there .here)) (hb := by rw [hbl]; simp only [List.length_cons, List.length_nil]; omega) fun u2 H7 hM => ?_
    refine l_step (s_toStr eLk (hM.sl (.there (.there .here)))) ?_
    refine goM ?_
    exact end_2 (by first | exact .inl rfl | exact .inr rfl) ⟨rfl, hM.pre⟩
end Go.Proofs.YtengdmagaeckoaaGreat.VM

/- Layer 20: the program's First. -/
namespace Go.Proofs.YtengdmagaeckoaaGreat.VM
open Go
set_option linter.unusedVariables false
set_option linter.unusedSimpArgs false
attribute [local irreducible] wq wqL wqD wqE wqO Th Bk EndR
set_option maxHeartbeats 8000000

theorem memberFirst_ (H : Heap) (c : Cfg) (rv : V) (id : Int) (hr : Rows H rv c.rows) (hc : cfgMay c = true) (hid : 0 ≤ id ∧ id < c.m) :
    ∃ w H', Call Tryz.prog 44 [.agg (cfgC c rv), .int .i64 id] H w H' ∧ ∃ u1 u2, w = .tup [.agg (memC u1 u2 (firstR c id) (firstM c id) 0 0), .str (strOf (firstS c id)), .int .i64 0] ∧ Mem H H' [.own 1 intC u2 (firstV c), .own 1 intC u1 (firstW c id)] := by
  have hfit := first_fits hc id
  simp only [memFits, Bool.and_eq_true] at hfit
  obtain ⟨hchk, _⟩ := hfit
  obtain ⟨hm2, hloss, hseed, _⟩ := cfgMay_split hc
  obtain ⟨hs, hr1, hr8, hrok⟩ := lossMay_split hloss
  obtain ⟨a, b, ha, hb, ha1, ha3, hb1, hb3⟩ := shape_ab hs
  have h16 := size16 ha3 hb3
  obtain ⟨s, hse⟩ : ∃ s : Nat, c.seed = s := ⟨c.seed.toNat, by omega⟩
  obtain ⟨d, hd⟩ : ∃ d : Nat, id = d := ⟨id.toNat, by omega⟩
  have hWl : (firstW c id).length = netSize a b := by unfold firstW; rw [ha, hb]; simp only [Int.toNat_natCast]; exact initL_len _ _ _ _
  have hZr : firstV c = List.replicate (netSize a b) 0 := by unfold firstV; rw [ha, hb]; simp only [Int.toNat_natCast]
  have hW' : initL a b s (50000 + 16 * d) = firstW c id := by unfold firstW; rw [ha, hb, hse, hd]; simp only [Int.toNat_natCast]
  have hR' : ((rateN s (40000 + 2 * d) : Nat) : Int) = firstR c id := by unfold firstR; rw [hse, hd]; simp only [Int.toNat_natCast]
  have hM' : ((momN s (40000 + 2 * d) : Nat) : Int) = firstM c id := by unfold firstM; rw [hse, hd]; simp only [Int.toNat_natCast]
  have hS' : putL (firstW c id) (firstV c) (firstR c id) (firstM c id) 0 = firstS c id := rfl
  have w0 : IntKind.i64.wrap (c.m - 1) = c.m - 1 := wrap_i64 (by omega) (by omega)
  have w1 : IntKind.i64.wrap (16 * id) = 16 * id := wrap_i64 (by omega) (by omega)
  have w2 : IntKind.i64.wrap (50000 + 16 * id) = ((50000 + 16 * d : Nat) : Int) := by rw [wrap_i64 (by omega) (by omega)]; omega
  have lrow : ∀ r ∈ c.rows, r.1.length ≤ 2 ^ 47 := fun rr hrr => by
    have := hrok rr hrr
    simp only [rowOk, Bool.and_eq_true] at this
    have := vecMay_len (feeds_split this.1).2
    omega
  generalize firstW c id = W at *
  generalize firstV c = Z at *
  generalize firstR c id = r at *
  generalize firstM c id = m at *
  generalize firstS c id = S at *
  refine call_mem fit mixed Tryz.func44 rfl rfl rfl (by kernel_rfl) fun hM => ?_
  refine wq_seq (wq_line ?_)
  refine l_boxM T26 fun b1 H1 hM => ?_
  refine l_newM (cs := zeroMem) T48 rfl fun b2 H2 hM => ?_
  have c1 := confMay_ H2 c rv (hr.mono hM.pre) (by omega) lrow
  rw [hc] at c1
  have c2 := confId_ H2 b1 c.m id (by have hrow := hM.row (.there .here); unfold Heap.loadN; rw [hrow]; rfl)
  rw [w0, within_iff.2 ⟨hid.1, by omega⟩] at c2
  obtain ⟨_, H3, c3, u1, rfl, m3⟩ := init_ H2 a b s (50000 + 16 * d) ⟨ha1, ha3⟩ ⟨hb1, hb3⟩ (by omega) (by omega)
  rw [hW'] at m3
  rw [← ha, ← hb, ← hse] at c3
  have c4 := hyperFirst_ H3 s d (by omega) (by omega)
  rw [hR', hM', ← hse, ← hd] at c4
  have s3 := m3.sl .here
  have hlen := s3.len T30 rfl
  rw [hWl] at hlen
  have t1 := s3.cells
  have t2 := s3.two
  clear hid hm2 hloss hseed hs hr1 hr8 hrok ha hb ha1 ha3 hb1 hb3 hse hd hW' hR' hM' hWl lrow
  refine goM ?_
  refine l_callG c1 ?_
  refine goM ?_
  refine l_callG c2 ?_
  refine goM ?_
  refine l_callG c3 ?_
  replace hM := hM.call1 m3
  refine goM ?_
  refine l_callG c4 ?_
  refine goM ?_
  refine l_newM (cs := [.int .i64 0, .int .i64 0]) T32 rfl fun b3 H4 hM => ?_
  refine l_putM T32 fun H5 hM => ?_
  refine goM ?_
  refine d_makeM 1 intC T30 rfl T3 (n := netSize a b) (z := 0) rfl rfl rfl rfl rfl ⟨by show (8 : Int) * _ ≤ _; omega, by omega⟩ fun u2 H6 hM => ?_
  rw [← hZr] at hM
  have t3 := (hM.sl .here).cells
  refine goM ?_
  refine d_newM (cs := zeroChk) T34 rfl fun b4 H7 hM => ?_
  refine d_putM T34 fun H8 hM => ?_
  have c5 := checkPut_ H8 u1 u2 W Z r m 0 (hM.slG) (hM.slG) hchk
  rw [hS'] at c5
  refine goM ?_
  refine l_callG c5 ?_
  refine goM ?_
  refine l_putM T48 fun H9 hM => ?_
  refine goM ?_
  exact end_3 (by first | exact .inl rfl | exact .inr rfl) ⟨_, _, rfl, hM.subG⟩

theorem memberFirst_bad (H : Heap) (c : Cfg) (rv : V) (id : Int) (hr : Rows H rv c.rows) (hl : c.rows.length ≤ 2 ^ 47) (hxl : ∀ r ∈ c.rows, r.1.length ≤ 2 ^ 47) (hb : (cfgMay c && within id 0 (IntKind.i64.wrap (c.m - 1))) = false) :
    Call Tryz.prog 44 [.agg (cfgC c rv), .int .i64 id] H (.tup [.agg zeroMem, .str (strOf []), .int .i64 2000]) H := by
  refine call_pure fit mixed Tryz.func44 rfl rfl rfl (by kernel_rfl) rfl fun hM => ?_
  refine wq_seq (wq_line ?_)
  refine l_boxM T26 fun b1 H1 hM => ?_
  refine l_newM (cs := zeroMem) T48 rfl fun b2 H2 hM => ?_
  have c1 := confMay_ H2 c rv (hr.mono hM.pre) hl hxl
  have c2 := confId_ H2 b1 c.m id (by have hrow := hM.row (.there .here); unfold Heap.loadN; rw [hrow]; rfl)
  obtain ⟨q, hq⟩ : ∃ q, cfgMay c = q := ⟨_, rfl⟩
  rw [hq] at c1 hb
  cases q with
  | false =>
    clear hb hq c2
    refine goM ?_
    refine l_callG c1 ?_
    refine goM ?_
    refine l_putM T48 fun H3 hM => ?_
    refine goM ?_
    exact end_3 (by first | exact .inl rfl | exact .inr rfl) ⟨rfl, hM.pre⟩
  | true =>
    rw [Bool.true_and] at hb
    rw [hb] at c2
    clear hb hq
    refine goM ?_
    refine l_callG c1 ?_
    refine goM ?_
    refine l_callG c2 ?_
    refine goM ?_
    refine l_putM T48 fun H3 hM => ?_
    refine goM ?_
    exact end_3 (by first | exact .inl rfl | exact .inr rfl) ⟨rfl, hM.pre⟩
end Go.Proofs.YtengdmagaeckoaaGreat.VM

/- Layer 10: the program's loss. -/
namespace Go.Proofs.YtengdmagaeckoaaGreat.VM
open Go
set_option linter.unusedVariables false
set_option linter.unusedSimpArgs false
attribute [local irreducible] wq wqL wqD wqE wqO Th Bk EndR
set_option maxHeartbeats 8000000

def errN (i h : Nat) (ws : List Int) (r : List Int × Int) : Int := plus (tells i h ws (units i h ws r.1)) (IntKind.i64.wrap (0 - r.2))
def lossN (i h : Nat) (ws : List Int) (rs : List (List Int × Int)) : Int := rs.foldl (fun a r => plus a (times (errN i h ws r) (errN i h ws r))) 0
theorem lossN_snoc {i h : Nat} {ws : List Int} {rs : List (List Int × Int)} {k : Nat} {r : List Int × Int} (hk : rs[k]? = some r) : lossN i h ws (rs.take (k + 1)) = plus (lossN i h ws (rs.take k)) (times (errN i h ws r) (errN i h ws r)) := by
  unfold lossN
  rw [List.take_add_one, hk, List.foldl_append]; rfl
theorem loadV_pre {H H' : Heap} (hp : H <+: H') {t b o : Nat} {v : V} (h : loadV T t H b o = some v) : loadV T t H' b o = some v := by
  unfold loadV at h ⊢
  split at h
  · split at h
    · rename_i h1
      rw [if_pos h1]
      cases hl : H.loadN b o _ with
      | none => rw [hl] at h; cases h
      | some cs => rw [hl] at h; rw [loadN_pre hp hl]; exact h
    · rename_i h1
      rw [if_neg h1]
      cases hl : H.loadN b o _ with
      | none => rw [hl] at h; cases h
      | some cs => rw [hl] at h; rw [loadN_pre hp hl]; exact h
  · cases h
theorem netAt_of {H : Heap} {b : Nat} {i h : Int} {w : V} (hr : H[b]? = some (.row [.int .i64 i, .int .i64 h, w] true)) : NetAt H b i h w := by
  refine ⟨?_, ?_, ?_⟩ <;> (unfold Heap.loadN; rw [hr]; rfl)

theorem lossOf_ (H : Heap) (i h : Nat) (w rv : V) (ws : List Int) (rs : List (List Int × Int)) (hw : Sl 1 intC H w ws) (hr : Rows H rv rs) (hf : fits i h ws = true) (hl : lossMay i h rs = true) (hsz : ws.length = netSize i h) (hi : i ≤ 3) (hh : h ≤ 3) :
    Call Tryz.prog 143 [.agg [.int .i64 i, .int .i64 h], w, rv] H (.tup [.int .i64 (lossN i h ws rs), .int .i64 0]) H := by
  obtain ⟨hs, hr1, hr8, hrok⟩ := lossMay_split hl
  have hlw : ws.length ≤ 16 := by rw [hsz]; exact size16 hi hh
  have lrow : ∀ r ∈ rs, r.1.length ≤ 2 ^ 47 := fun rr hrr => by
    have := hrok rr hrr
    simp only [rowOk, Bool.and_eq_true] at this
    have := vecMay_len (feeds_split this.1).2
    omega
  obtain ⟨n, hn⟩ : ∃ n, rs.length = n := ⟨_, rfl⟩
  have s1 := hw.cells
  refine call_pure fit mixed Tryz.func143 rfl rfl rfl (by kernel_rfl) rfl fun hM => ?_
  refine wq_seq (wq_line ?_)
  refine l_boxM T23 fun b1 H1 hM => ?_
  have c1 := shapeFits_ H1 i h w ws (hw.mono hM.pre) (by omega)
  rw [hf] at c1
  have c2 := lossMay_ H1 i h rv rs (hr.mono hM.pre) (by omega) lrow
  rw [hl] at c2
  have hlen : builtinP T .len [24] [rv] = some (.int .i64 (n : Int)) := by
    obtain ⟨qv, hqv, hql, _⟩ := hr
    have := hqv.len T24 rfl
    rw [hql, hn] at this
    exact this
  clear hf hl hs lrow
  refine goM ?_
  refine l_callG c1 ?_
  refine goM ?_
  refine l_callG c2 ?_
  refine goM ?_
  refine l_boxM T206 fun b2 H2 hM => ?_
  refine goM ?_
  refine wq_loop (fun c ρ hp => ∃ (k : Nat) (L : List Res), k ≤ n ∧ c = n - k ∧ Mem H hp (.box b2 [.int .i64 i, .int .i64 h, w] :: L) ∧ ρ 8 = .ptr b2 0 ∧ ρ 9 = .int .i64 (lossN i h ws (rs.take k)) ∧ ρ 27 = rv ∧ ρ 28 = .int .i64 (n : Int) ∧ ρ 29 = .int .i64 (k : Int)) ⟨0, _, Nat.zero_le _, rfl, hM, rfl, rfl, rfl, rfl, rfl⟩ ?_
  clear hM c1 c2
  rintro _ ρ hp ⟨k, L, hk, rfl, hM, g8, g9, g27, g28, g29⟩
  refine goM ?_
  refine cond_go (fun hb => ?_) (fun hb => ?_)
  · have hk' : k < n := by simpa using hb
    clear hb
    obtain ⟨⟨xs, y⟩, hx⟩ : ∃ x, rs[k]? = some x := ⟨rs[k]'(by omega), by simp⟩
    have hok := hrok _ (List.mem_of_getElem? hx)
    simp only [rowOk, Bool.and_eq_true] at hok
    have hsn := lossN_snoc (i := i) (h := h) (ws := ws) hx
    obtain ⟨b3, o3, x, hi3, hlo3, _, _, hxs⟩ := hr.at hx
    replace hlo3 := loadV_pre hM.pre hlo3
    have hxl := Int.ofNat_inj.1 (feeds_split hok.1).1
    have hw1 := wrap_succ (n := k) (by omega)
    clear hx hok
    refine goM ?_
    refine l_newM (cs := [.nils, .int .i64 0]) T113 rfl fun b4 H3 hM => ?_
    have s2 := hxs.cells
    refine l_putM T113 fun H4 hM => ?_
    obtain ⟨u, H5, c3, m3⟩ := units_ H4 b2 i h w x ws xs (netAt_of (hM.row (.there .here))) (hw.mono hM.pre) (hxs.mono hM.pre) hsz hi hh hxl
    refine goM ?_
    refine d_callG c3 (.inl m3.1) ?_
    replace hM := hM.call1 m3.mem
    have c4 := tells_ H5 b2 i h w u ws (units i h ws xs) (netAt_of (hM.row (.there (.there .here)))) (hw.mono hM.pre) m3.sl hsz hi hh (by simp [units])
    refine goM ?_
    refine d_call0G c4 ?_
    have c5 := fixAnd_ H5 (tells i h ws (units i h ws xs)) (IntKind.i64.wrap (0 - y))
    refine goM ?_
    refine d_call0G c5 ?_
    have c6 := fixTimes_ H5 (errN i h ws (xs, y)) (errN i h ws (xs, y))
    have c7 := fixAnd_ H5 (lossN i h ws (rs.take k)) (times (errN i h ws (xs, y)) (errN i h ws (xs, y)))
    rw [← hsn] at c7
    have he : plus (tells i h ws (units i h ws xs)) (IntKind.i64.wrap (0 - y)) = errN i h ws (xs, y) := rfl
    rw [he]
    clear c3 c4 c5 he hsn
    refine goM ?_
    refine l_callG c6 ?_
    refine goM ?_
    refine l_callG c7 ?_
    refine goM ?_
    exact ⟨n - (k + 1), by omega, k + 1, _, hk', rfl, hM.front (.there (.there .here)), by simp [put_app, put_none, *]⟩
  · have hk' : k = n := by have : ¬ k < n := by simpa using hb
                           omega
    subst hk'
    clear hb
    rw [List.take_of_length_le (by omega)] at g9
    refine goM ?_
    exact end_2 (by first | exact .inl rfl | exact .inr rfl) ⟨rfl, hM.pre⟩
end Go.Proofs.YtengdmagaeckoaaGreat.VM
