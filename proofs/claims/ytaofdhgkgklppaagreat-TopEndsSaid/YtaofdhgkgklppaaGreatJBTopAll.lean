/- Joined texts: MemA, MemB, Tab, MembA, MembC, MembE, CtlP, FoldP, FoldQ, FoldS, FoldT, CtlC, CtlF, StepD, RunP, RunQ, RunA, RunB, RunF, RunJ, FoldU, TopA, TopC. -/
import Derived.Test.YtaofdhgkgklppaaGreatJB1
import Derived.Test.YtaofdhgkgklppaaGreatJB2
import Derived.Test.YtaofdhgkgklppaaGreatJB3
import Derived.Test.YtaofdhgkgklppaaGreatJB4
import Derived.Test.YtaofdhgkgklppaaGreatJB5
import Derived.Test.YtaofdhgkgklppaaGreatJB6
import Derived.Test.YtaofdhgkgklppaaGreatJB7
import Derived.Test.YtaofdhgkgklppaaGreatJB8
import Derived.Test.YtaofdhgkgklppaaGreatJB9
import Derived.Test.YtaofdhgkgklppaaGreatJB10
import Derived.Test.YtaofdhgkgklppaaGreatJB11
import Derived.Test.YtaofdhgkgklppaaGreatJB12
import Derived.Test.YtaofdhgkgklppaaGreatJB13
import Derived.Test.YtaofdhgkgklppaaGreatRows
import Derived.KernelRfl
namespace Go.Proofs.YtaofdhgkgklppaaGreat.VM
open Go
set_option linter.unusedVariables false
set_option linter.unusedSimpArgs false
variable {P : Program} {T : Tab} {α β : Type}
section steps
variable {ops : Array Oper} {rest : List Oper} {Q : Rho → Heap → Prop} {ρ : Rho} {h h' B : Heap} {v a w : V} {k : Nat} {d : Option Nat} {op : Op} {t t' : Nat} {p : String} {af : Array Edge} {L : List Res} {f : Res → List Res} {x y : Operand} {cs ds cs' : List V} {i ie : TI}
theorem d_boxM (hT : T t' = some i) (hw : ∀ b h', Mem B h' (.box b cs :: L) → wqD P T ops (k + 1) rest Q (ρ.put d (.ptr b 0)) h') (hM : Mem B h L := by assumption) (hx : ρ.ev x = some a := by exact eLk) (ht : a.isTup = false := by first | rfl | simp only [*]) (hc : a.cells = cs := by exact (by first | (simp only [*]; first | done | rfl) | (simp only [V.cells]; first | done | rfl))) : wqD P T ops k (⟨d, .box t' x, t, p, af, none⟩ :: rest) Q ρ h := by
 exact d_step (s_boxC hT hx ht hc) (hw _ _ (hM.new _))
end steps
theorem Mem.factG {B H : Heap} {L : List Res} {F : Fact} {f : Res → List Res} (h : Mem B H L) (hh : Has L (.ro F) f := by (repeat (first | exact Has.here | apply Has.there))) : F.p H := h.fact hh
end Go.Proofs.YtaofdhgkgklppaaGreat.VM
namespace Go.Proofs.YtaofdhgkgklppaaGreat.VM
open Go
set_option linter.unusedVariables false
set_option linter.unusedSimpArgs false
variable {P : Program} {T : Tab} {α β : Type}
section steps
variable {ops : Array Oper} {rest : List Oper} {Q : Rho → Heap → Prop} {ρ : Rho} {h h' B : Heap} {v a w : V} {k : Nat} {d : Option Nat} {op : Op} {t t' : Nat} {p : String} {af : Array Edge} {L : List Res} {f : Res → List Res} {x y : Operand} {cs ds cs' : List V} {i ie : TI} {ps : List PendR}
theorem e_gd {g : Nat × Bool} (hw : wqE P T ops k (⟨d, op, t, p, af, some g⟩ :: rest) ps Q ρ h) : wqE P T ops k (⟨d, op, t, p, af, some g⟩ :: rest) ps Q ρ h := hw
theorem e_onG {j e : Nat} {w : Bool} (hw : wqE P T ops k (⟨d, op, t, p, af, none⟩ :: rest) ps Q ρ h) (h1 : (ops[j]?).bind (·.dst) = some e := by rfl) (h2 : ρ.ev (.tmp e) = some (.bool w) := by exact eLkB) : wqE P T ops k (⟨d, op, t, p, af, some (j, w)⟩ :: rest) ps Q ρ h := by
 simp only [wqE] at hw ⊢; rw [if_pos guard_no] at hw; rw [if_pos (by rw [guard_is (guard_mk h1 h2)]; simp)]; exact hw
theorem e_offG {j e : Nat} {w : Bool} (hw : wqE P T ops (k + 1) rest ps Q (ρ.put d V.undef) h) (h1 : (ops[j]?).bind (·.dst) = some e := by rfl) (h2 : ρ.ev (.tmp e) = some (.bool !w) := by exact eLkB) : wqE P T ops k (⟨d, op, t, p, af, some (j, w)⟩ :: rest) ps Q ρ h := by
 simp only [wqE]; rw [if_neg (by rw [guard_is (guard_mk h1 h2)]; simp)]; exact hw
end steps
end Go.Proofs.YtaofdhgkgklppaaGreat.VM
namespace Go.Proofs.YtaofdhgkgklppaaGreat.VM
open Go
set_option maxRecDepth 100000 in
theorem T123 : T 123 = some { k := .slice 129, size := 1, bytes := 24, zero := [.nils] } := rfl
theorem T125 : T 125 = some { k := .strct [(26, 0), (123, 9)], size := 10, bytes := 112, zero := [.int .i64 0, .int .i64 0, .int .i64 0, .nils, .int .i64 0, .int .i64 0, .int .i64 0, .int .i64 0, .bool false, .nils] } := rfl
theorem T129 : T 129 = some { k := .strct [(45, 0), (3, 5), (4, 6)], size := 7, bytes := 88, zero := [.nils, .nils, .int .i64 0, .int .i64 0, .int .i64 0, .int .i64 0, .bool false] } := rfl
end Go.Proofs.YtaofdhgkgklppaaGreat.VM
namespace Go.Proofs.YtaofdhgkgklppaaGreat.VM
open Go
set_option linter.unusedVariables false
set_option linter.unusedSimpArgs false
attribute [local irreducible] wq wqL wqD wqE wqO Th Bk EndR
set_option maxHeartbeats 8000000
theorem hyperFirst_ (H : Heap) (s k : Nat) (hs : s ≤ 65535) (hk : k ≤ 7) : Call Tryz.prog 148 [.int .i64 s, .int .i64 k] H (.tup [.agg [.int .i64 (rateN s (40000 + 2 * k) : Nat), .int .i64 (momN s (40000 + 2 * k) : Nat)], .int .i64 0]) H := by
 refine call_pure fit mixed Tryz.func148 rfl rfl rfl (by kernel_rfl) rfl fun hM => ?_
 obtain ⟨q, hq⟩ : ∃ q, 40000 + 2 * k = q := ⟨_, rfl⟩
 have w0 : IntKind.i64.wrap (2 * (k : Int)) = ((2 * k : Nat) : Int) := by rw [show 2 * (k : Int) = ((2 * k : Nat) : Int) by omega]; exact wrap_nat (by omega)
 have w1 : IntKind.i64.wrap (40000 + ((2 * k : Nat) : Int)) = (q : Int) := by rw [wrap_i64 (by omega) (by omega)]; omega
 rw [hq]
 refine wq_seq (wq_line ?_)
 refine l_newM (cs := [.int .i64 0, .int .i64 0]) T43 rfl fun b1 H1 hM => ?_
 have c1 := sampleMember_ H1 k
 rw [within_iff.2 ⟨by omega, by omega⟩] at c1
 have c3 := resample_ H1 s q hs (by omega)
 clear hs hk hq
 refine goM ?_
 refine l_callG c1 ?_
 refine goM ?_
 refine l_callG c3 ?_
 refine goM ?_
 refine l_putM T43 fun H2 hM => ?_
 refine goM ?_
 exact end_2 (by first | exact .inl rfl | exact .inr rfl) ⟨rfl, hM.pre⟩
theorem initL_fill {s f k n : Nat} (h : k < n) : ((List.range k).map (initK s f) ++ List.replicate (n - k) 0).set k (initK s f k) = (List.range (k + 1)).map (initK s f) ++ List.replicate (n - (k + 1)) 0 := by
 rw [List.set_append_right _ _ (by simp)]
 have h1 : n - k = (n - (k + 1)) + 1 := by omega
 rw [h1, List.replicate_succ]
 simp [List.range_succ]
theorem init_ (H : Heap) (i h s f : Nat) (hi : 1 ≤ i ∧ i ≤ 3) (hh : 1 ≤ h ∧ h ≤ 3) (hs : s ≤ 65535) (hf : f ≤ 1048560) :
  ∃ w H', Call Tryz.prog 147 [.agg [.int .i64 i, .int .i64 h], .int .i64 s, .int .i64 f] H w H' ∧ ∃ u, w = .tup [u, .int .i64 0] ∧ Mem H H' [.own 1 intC u (initL i h s f)] := by
 have hsm : shapeMay (i : Int) (h : Int) = true := by simp only [shapeMay, Bool.and_eq_true, within_iff]; omega
 have hsmall : netSize i h ≤ 16 := by have := small_size hi.2 hh.2; unfold netSize; omega
 obtain ⟨n, hn⟩ : ∃ n, netSize i h = n := ⟨_, rfl⟩
 unfold initL
 rw [hn] at hsmall ⊢
 have hdm : ∀ k : Nat, k ≤ 16 → drawMay (s : Int) ((f + k : Nat) : Int) = true := fun k hk => by simp only [drawMay, Bool.and_eq_true, within_iff]; omega
 have hd0 : drawMay (s : Int) (f : Int) = true := hdm 0 (by omega)
 have d1 : decide ((f : Int) > 1048560) = false := decide_eq_false (by omega)
 refine call_mem fit mixed Tryz.func147 rfl rfl rfl (by kernel_rfl) fun hM => ?_
 refine wq_seq (wq_line ?_)
 refine l_boxM T23 fun b1 H1 hM => ?_
 have c0 := shapeMay_ H1 i h
 rw [hsm] at c0
 have c1 := drawMay_ H1 s f
 rw [hd0] at c1
 have c2 := shapeMany_ H1 i h hi.2 hh.2
 rw [hn] at c2
 clear hsm hi hh hd0
 refine goM ?_
 refine l_callG c0 ?_
 refine goM ?_
 refine l_callG c1 ?_
 refine goM ?_
 refine l_callG c2 ?_
 clear c0 c1 c2 d1
 refine goM ?_
 refine l_makeM 1 intC T27 rfl T3 (n := n) (z := 0) rfl rfl rfl rfl rfl ⟨by show (8 : Int) * _ ≤ _; omega, by omega⟩ fun v H2 hM => ?_
 have hvl := (hM.sl .here).len T27 rfl
 rw [List.length_replicate] at hvl
 refine goM ?_
 refine wq_loop (fun m ρ hp => ∃ k : Nat, k ≤ n ∧ m = n - k ∧ Mem H hp [.own 1 intC v ((List.range k).map (initK s f) ++ List.replicate (n - k) 0), .box b1 [.int .i64 i, .int .i64 h]] ∧ ρ 1 = .int .i64 s ∧ ρ 2 = .int .i64 f ∧ ρ 8 = v ∧ ρ 29 = .int .i64 (n : Int) ∧ ρ 30 = .int .i64 (k : Nat)) ⟨0, Nat.zero_le _, rfl, hM, rfl, rfl, rfl, rfl, rfl⟩ ?_
 clear hM
 rintro _ ρ hp ⟨k, hk, rfl, hM, h1, h2, h8, h29, h30⟩
 refine goM ?_
 refine cond_go (fun hb => ?_) (fun hb => ?_)
 ·have hk' : k < n := by simpa using hb
  clear hb
  obtain ⟨b3, hi3, put1⟩ := hM.elem .here T27 rfl T3 rfl (k := k) (by simp; omega)
  obtain ⟨H3, st1, hM1⟩ := put1 (.int .i64 (initK s f k)) _ rfl rfl rfl
  rw [initL_fill hk'] at hM1
  have hw := wrap_succ (n := k) (by omega)
  have w1 : IntKind.i64.wrap ((f : Int) + (k : Int)) = ((f + k : Nat) : Int) := by rw [← Int.natCast_add]; exact wrap_nat (by omega)
  have c4 := drawOf_good hp s (f + k) (hdm k (by omega))
  have w2 : IntKind.i64.wrap (((drawN s (f + k) : Nat) : Int) - 32768) = initK s f k := by
   have := drawN_lt s (f + k)
   unfold initK
   exact wrap_i64 (by omega) (by omega)
  clear put1 hM hdm hs hf
  refine goM ?_
  refine l_callG c4 ?_
  refine goM ?_
  refine l_stM st1 ?_
  refine goM ?_
  exact ⟨n - (k + 1), by omega, k + 1, hk', rfl, hM1, by simp [put_app, put_none, *]⟩
 ·have hk' : k = n := by have : ¬ k < n := by simpa using hb
                         omega
  subst hk'
  clear hb hdm
  rw [Nat.sub_self, List.replicate_zero, List.append_nil] at hM
  refine goM ?_
  exact end_2 (by first | exact .inl rfl | exact .inr rfl) ⟨v, rfl, hM.subG⟩
theorem memberFirst_ (H : Heap) (c : Cfg) (rv : V) (id : Int) (hr : Rows H rv c.rows) (hc : cfgMay c = true) (hid : 0 ≤ id ∧ id < c.m) :
  ∃ w H', Call Tryz.prog 69 [.agg (cfgC c rv), .int .i64 id] H w H' ∧ ∃ u1 u2, w = .tup [.agg (memC u1 u2 (firstR c id) (firstM c id) 0 0), .str (strOf (firstS c id)), .int .i64 0] ∧ Mem H H' [.own 1 intC u2 (firstV c), .own 1 intC u1 (firstW c id)] := by
 have hfit := first_fits hc id
 simp only [memFits, Bool.and_eq_true] at hfit
 obtain ⟨hchk, _⟩ := hfit
 obtain ⟨hm2, hloss, hseed, _⟩ := cfgMay_split hc
 obtain ⟨hs, hr1, hr8, hrok⟩ := lossMay_split hloss
 obtain ⟨a, b, ha, hb, ha1, ha3, hb1, hb3⟩ := shape_ab hs
 have h16 := size16 ha3 hb3
 obtain ⟨s, hse⟩ : ∃ s : Nat, c.seed = s := ⟨c.seed.toNat, by omega⟩
 obtain ⟨d, hd⟩ : ∃ d : Nat, id = d := ⟨id.toNat, by omega⟩
 have hWl : (firstW c id).length = netSize a b := by unfold firstW; rw [ha, hb]; simp only [Int.toNat_natCast]; exact initL_len _ _ _ _
 have hZr : firstV c = List.replicate (netSize a b) 0 := by unfold firstV; rw [ha, hb]; simp only [Int.toNat_natCast]
 have hW' : initL a b s (50000 + 16 * d) = firstW c id := by unfold firstW; rw [ha, hb, hse, hd]; simp only [Int.toNat_natCast]
 have hR' : ((rateN s (40000 + 2 * d) : Nat) : Int) = firstR c id := by unfold firstR; rw [hse, hd]; simp only [Int.toNat_natCast]
 have hM' : ((momN s (40000 + 2 * d) : Nat) : Int) = firstM c id := by unfold firstM; rw [hse, hd]; simp only [Int.toNat_natCast]
 have hS' : putL (firstW c id) (firstV c) (firstR c id) (firstM c id) 0 = firstS c id := rfl
 have w0 : IntKind.i64.wrap (c.m - 1) = c.m - 1 := wrap_i64 (by omega) (by omega)
 have w1 : IntKind.i64.wrap (16 * id) = 16 * id := wrap_i64 (by omega) (by omega)
 have w2 : IntKind.i64.wrap (50000 + 16 * id) = ((50000 + 16 * d : Nat) : Int) := by rw [wrap_i64 (by omega) (by omega)]; omega
 have lrow : ∀ r ∈ c.rows, r.1.length ≤ 2 ^ 47 := fun rr hrr => by
  have := hrok rr hrr
  simp only [rowOk, Bool.and_eq_true] at this
  have := vecMay_len (feeds_split this.1).2
  omega
 generalize firstW c id = W at *
 generalize firstV c = Z at *
 generalize firstR c id = r at *
 generalize firstM c id = m at *
 generalize firstS c id = S at *
 refine call_mem fit mixed Tryz.func69 rfl rfl rfl (by kernel_rfl) fun hM => ?_
 refine wq_seq (wq_line ?_)
 refine l_boxM T26 fun b1 H1 hM => ?_
 refine l_newM (cs := zeroMem) T51 rfl fun b2 H2 hM => ?_
 have c1 := confMay_ H2 c rv (hr.mono hM.pre) (by omega) lrow
 rw [hc] at c1
 have c2 := confId_ H2 b1 c.m id (by have hrow := hM.row (.there .here); unfold Heap.loadN; rw [hrow]; rfl)
 rw [w0, within_iff.2 ⟨hid.1, by omega⟩] at c2
 obtain ⟨_, H3, c3, u1, rfl, m3⟩ := init_ H2 a b s (50000 + 16 * d) ⟨ha1, ha3⟩ ⟨hb1, hb3⟩ (by omega) (by omega)
 rw [hW'] at m3
 rw [← ha, ← hb, ← hse] at c3
 have c4 := hyperFirst_ H3 s d (by omega) (by omega)
 rw [hR', hM', ← hse, ← hd] at c4
 have s3 := m3.sl .here
 have hlen := s3.len T27 rfl
 rw [hWl] at hlen
 have t1 := s3.cells
 have t2 := s3.two
 clear hid hm2 hloss hseed hs hr1 hr8 hrok ha hb ha1 ha3 hb1 hb3 hse hd hW' hR' hM' hWl lrow
 refine goM ?_
 refine l_callG c1 ?_
 refine goM ?_
 refine l_callG c2 ?_
 refine goM ?_
 refine l_callG c3 ?_
 replace hM := hM.call1 m3
 refine goM ?_
 refine l_callG c4 ?_
 refine goM ?_
 refine l_newM (cs := [.int .i64 0, .int .i64 0]) T43 rfl fun b3 H4 hM => ?_
 refine l_putM T43 fun H5 hM => ?_
 refine goM ?_
 refine d_makeM 1 intC T27 rfl T3 (n := netSize a b) (z := 0) rfl rfl rfl rfl rfl ⟨by show (8 : Int) * _ ≤ _; omega, by omega⟩ fun u2 H6 hM => ?_
 rw [← hZr] at hM
 have t3 := (hM.sl .here).cells
 refine goM ?_
 refine d_newM (cs := zeroChk) T45 rfl fun b4 H7 hM => ?_
 refine d_putM T45 fun H8 hM => ?_
 have c5 := checkPut_ H8 u1 u2 W Z r m 0 (hM.slG) (hM.slG) hchk
 rw [hS'] at c5
 refine goM ?_
 refine l_callG c5 ?_
 refine goM ?_
 refine l_putM T51 fun H9 hM => ?_
 refine goM ?_
 exact end_3 (by first | exact .inl rfl | exact .inr rfl) ⟨_, _, rfl, hM.subG⟩
theorem memberFirst_bad (H : Heap) (c : Cfg) (rv : V) (id : Int) (hr : Rows H rv c.rows) (hl : c.rows.length ≤ 2 ^ 47) (hxl : ∀ r ∈ c.rows, r.1.length ≤ 2 ^ 47) (hb : (cfgMay c && within id 0 (IntKind.i64.wrap (c.m - 1))) = false) :
  Call Tryz.prog 69 [.agg (cfgC c rv), .int .i64 id] H (.tup [.agg zeroMem, .str (strOf []), .int .i64 2000]) H := by
 refine call_pure fit mixed Tryz.func69 rfl rfl rfl (by kernel_rfl) rfl fun hM => ?_
 refine wq_seq (wq_line ?_)
 refine l_boxM T26 fun b1 H1 hM => ?_
 refine l_newM (cs := zeroMem) T51 rfl fun b2 H2 hM => ?_
 have c1 := confMay_ H2 c rv (hr.mono hM.pre) hl hxl
 have c2 := confId_ H2 b1 c.m id (by have hrow := hM.row (.there .here); unfold Heap.loadN; rw [hrow]; rfl)
 obtain ⟨q, hq⟩ : ∃ q, cfgMay c = q := ⟨_, rfl⟩
 rw [hq] at c1 hb
 cases q with
 | false =>
  clear hb hq c2
  refine goM ?_
  refine l_callG c1 ?_
  refine goM ?_
  refine l_putM T51 fun H3 hM => ?_
  refine goM ?_
  exact end_3 (by first | exact .inl rfl | exact .inr rfl) ⟨rfl, hM.pre⟩
 | true =>
  rw [Bool.true_and] at hb
  rw [hb] at c2
  clear hb hq
  refine goM ?_
  refine l_callG c1 ?_
  refine goM ?_
  refine l_callG c2 ?_
  refine goM ?_
  refine l_putM T51 fun H3 hM => ?_
  refine goM ?_
  exact end_3 (by first | exact .inl rfl | exact .inr rfl) ⟨rfl, hM.pre⟩
theorem firstKR_fit (c : Cfg) (id : Int) : (firstKR c id).Fit := by
 unfold firstKR
 split
 ·rename_i h
  exact kFits_fit (firstK_fits (firstOk_split h).1 id)
 ·exact ⟨by simp, by simp⟩
theorem member_First (H : Heap) (c : Cfg) (rv : V) (id : Int) (hr : Rows H rv c.rows) (hc : c.Fit) :
  ∃ w H', Call Tryz.prog 69 [.agg (cfgC c rv), .int .i64 id] H w H' ∧ ∃ a b, w = .tup [.agg (mC a b (firstKR c id) 0), .str (strOf (firstSR c id)), .int .i64 (firstER c id)] ∧ Mem H H' [.own 1 intC b (firstKR c id).vs, .own 1 intC a (firstKR c id).ws] := by
 have l1 := hc.rows
 have l2 := hc.row
 unfold firstKR firstSR firstER
 cases hok : firstOk c id with
 | false => exact ⟨_, H, memberFirst_bad H c rv id hr (by omega) (fun r h => by have := l2 r h; omega) hok, .nils, .nils, rfl, ((Mem.start H).nil 1 intC).nil 1 intC⟩
 | true =>
  obtain ⟨h1, h2⟩ := firstOk_split hok
  exact memberFirst_ H c rv id hr h1 h2
def scoresR (s : St) : List Int × Int := if stateMay s = true then (scoreL s, 0) else ([], 2200)
def turnK (c : Cfg) (e : Ev) (k d : Option Chk) : Option Chk := match k with
 | none => none
 | some k =>
  if e.kind = 0 then (if (trainR c e.member k).2 = 0 then some (trainR c e.member k).1 else none)
  else if e.kind = 1 then (match d with
   | none => none
   | some d => some ⟨d.ws, d.vs, d.r, d.m, k.t⟩)
  else some ⟨k.ws, k.vs, e.rate, e.mom, k.t⟩
abbrev Hist := List (List (Option Chk))
def rowH (H : Hist) (m : Int) : List (Option Chk) := H.getD m.toNat []
def nowH (H : Hist) (m : Int) : Option Chk := ((rowH H m)[(rowH H m).length - 1]?).join
def donorH (H : Hist) (e : Ev) : Option Chk := if e.kind = 1 then ((rowH H e.donor)[e.at_.toNat]?).join else none
def stepH (c : Cfg) (H : Hist) (e : Ev) : Hist := H.set e.member.toNat (rowH H e.member ++ [turnK c e (nowH H e.member) (donorH H e)])
def startH (c : Cfg) : Hist := (List.range c.m.toNat).map fun (i : Nat) => [some (firstKR c (i : Int))]
def foldH (c : Cfg) (es : List Ev) : Hist := es.foldl (stepH c) (startH c)
def foldK (c : Cfg) (es : List Ev) (id a : Int) : Option Chk := ((rowH (foldH c es) id)[a.toNat]?).join
def foldOk (c : Cfg) (es : List Ev) (id a : Int) : Bool := cfgMay c && eventsMay es c.m && within id 0 (IntKind.i64.wrap (c.m - 1)) && decide (0 ≤ a) && decide (a ≤ (manyOf es id : Int))
def foldR (c : Cfg) (es : List Ev) (id a : Int) : Chk × Int := if foldOk c es id a = true then (match foldK c es id a with
 | none => (noChk, 2400)
 | some k => (k, 0)) else (noChk, 2400)
theorem foldH_succ {c : Cfg} {es : List Ev} {k : Nat} {e : Ev} (he : es[k]? = some e) : foldH c (es.take (k + 1)) = stepH c (foldH c (es.take k)) e := by
 unfold foldH
 rw [List.take_add_one, he, List.foldl_append]; rfl
theorem foldH_all (c : Cfg) (es : List Ev) : foldH c (es.take es.length) = foldH c es := by rw [List.take_length]
theorem eventsMay_at {es : List Ev} {n : Int} (h : eventsMay es n = true) : (1 ≤ n ∧ n ≤ 8) ∧ es.length ≤ 1024 ∧ ∀ (k : Nat) e, es[k]? = some e → evMay (es.take k) n e = true := by
 unfold eventsMay at h
 simp only [Bool.and_eq_true, decide_eq_true_eq, List.all_eq_true, List.mem_range] at h
 obtain ⟨⟨h1, h2⟩, h3⟩ := h
 refine ⟨within_iff.1 h1, h2, fun k e he => ?_⟩
 have := h3 k (List.getElem?_eq_some_iff.1 he).1
 rw [he] at this
 exact this
theorem eventsMay_take {es : List Ev} {n : Int} (h : eventsMay es n = true) (k : Nat) : eventsMay (es.take k) n = true := by
 obtain ⟨h1, h2, h3⟩ := eventsMay_at h
 refine eventsMay_yes (within_iff.2 h1) (by rw [List.length_take]; omega) fun j e he => ?_
 rw [List.getElem?_take] at he
 by_cases hj : j < k
 ·rw [if_pos hj] at he
  rw [List.take_take, Nat.min_eq_left (by omega)]
  exact h3 j e he
 ·rw [if_neg hj] at he; cases he
theorem evMay_in {es : List Ev} {n : Int} {e : Ev} (h : evMay es n e = true) : (0 ≤ e.member ∧ e.member < n) ∧ (e.kind = 1 → (0 ≤ e.donor ∧ e.donor < n) ∧ e.donor ≠ e.member ∧ e.at_ = (manyOf es e.donor : Int)) ∧ (e.kind = 0 ∨ e.kind = 1 ∨ e.kind = 2) ∧ (e.kind = 2 → hyperMay e.rate e.mom = true) := by
 unfold evMay at h
 rw [Bool.and_eq_true, within_iff] at h
 refine ⟨⟨h.1.1, by omega⟩, fun hk => ?_, ?_, fun hk => ?_⟩
 ·have h2 := h.2
  rw [if_neg (by omega), if_pos hk] at h2
  simp only [Bool.and_eq_true, within_iff, bne_iff_ne, ne_eq, beq_iff_eq] at h2
  exact ⟨⟨h2.1.1.1.1, by omega⟩, h2.1.1.2, h2.1.2⟩
 ·have h2 := h.2
  by_cases h0 : e.kind = 0
  ·exact .inl h0
  ·by_cases h1 : e.kind = 1
   ·exact .inr (.inl h1)
   ·by_cases h3 : e.kind = 2
    ·exact .inr (.inr h3)
    ·rw [if_neg h0, if_neg h1, if_neg h3] at h2; cases h2
 ·have h2 := h.2
  rw [if_neg (by omega), if_neg (by omega), if_pos hk] at h2
  simp only [Bool.and_eq_true] at h2
  exact h2.1.2
structure HistOk (c : Cfg) (es : List Ev) (H : Hist) : Prop where
 len : H.length = c.m.toNat
 row : ∀ m, 0 ≤ m → m < c.m → (rowH H m).length = manyOf es m + 1
theorem rowH_set {H : Hist} {a b : Int} {x : List (Option Chk)} (ha : 0 ≤ a ∧ a.toNat < H.length) (hb : 0 ≤ b) : rowH (H.set a.toNat x) b = if b = a then x else rowH H b := by
 unfold rowH
 rw [List.getD_eq_getElem?_getD, List.getD_eq_getElem?_getD, List.getElem?_set]
 by_cases h : b = a
 ·subst h
  rw [if_pos rfl, if_pos ha.2, if_pos rfl]; rfl
 ·rw [if_neg (by omega), if_neg h]
theorem startH_row {c : Cfg} {m : Int} (h0 : 0 ≤ m) (h : m < c.m) : rowH (startH c) m = [some (firstKR c m)] := by
 unfold rowH startH
 rw [List.getD_eq_getElem?_getD, List.getElem?_map, List.getElem?_range (by omega)]
 simp only [Option.map_some, Option.getD_some]
 rw [show ((m.toNat : Nat) : Int) = m by omega]
theorem foldH_ok {c : Cfg} {es : List Ev} (hm : eventsMay es c.m = true) : ∀ k, k ≤ es.length → HistOk c (es.take k) (foldH c (es.take k))
 | 0, _ => by
  refine ⟨by simp [foldH, startH], fun m h0 h => ?_⟩
  have : foldH c (es.take 0) = startH c := rfl
  rw [this, startH_row h0 h]; rfl
 | k + 1, hk => by
  obtain ⟨h1, h2⟩ := foldH_ok (c := c) hm k (by omega)
  have he : es[k]? = some (es[k]'(by omega)) := by simp
  generalize es[k]'(by omega) = e at he
  obtain ⟨hmb, _⟩ := evMay_in ((eventsMay_at hm).2.2 k e he)
  rw [foldH_succ he]
  refine ⟨by unfold stepH; rw [List.length_set, h1], fun m h0 h => ?_⟩
  unfold stepH
  rw [rowH_set ⟨hmb.1, by omega⟩ h0, manyOf_succ he]
  by_cases hme : m = e.member
  ·subst hme
   rw [if_pos rfl, if_pos rfl, List.length_append, h2 _ hmb.1 hmb.2]; rfl
  ·rw [if_neg hme, if_neg (fun h => hme h.symm), h2 m h0 h, Nat.add_zero]
theorem nowH_step {c : Cfg} {es : List Ev} (hm : eventsMay es c.m = true) {k : Nat} {e : Ev} (he : es[k]? = some e) {m : Int} (h0 : 0 ≤ m) (h : m < c.m) :
  nowH (foldH c (es.take (k + 1))) m = if m = e.member then turnK c e (nowH (foldH c (es.take k)) e.member) (if e.kind = 1 then nowH (foldH c (es.take k)) e.donor else none) else nowH (foldH c (es.take k)) m := by
 have hk := (List.getElem?_eq_some_iff.1 he).1
 obtain ⟨h1, h2⟩ := foldH_ok (c := c) hm k (by omega)
 obtain ⟨hmb, hd, _⟩ := evMay_in ((eventsMay_at hm).2.2 k e he)
 rw [foldH_succ he]
 have hrow := rowH_set (H := foldH c (es.take k)) (a := e.member) (b := m) (x := rowH (foldH c (es.take k)) e.member ++ [turnK c e (nowH (foldH c (es.take k)) e.member) (donorH (foldH c (es.take k)) e)]) ⟨hmb.1, by omega⟩ h0
 have hdon : donorH (foldH c (es.take k)) e = if e.kind = 1 then nowH (foldH c (es.take k)) e.donor else none := by
  unfold donorH
  by_cases hk1 : e.kind = 1
  ·rw [if_pos hk1, if_pos hk1]
   obtain ⟨hdi, _, hat⟩ := hd hk1
   unfold nowH
   rw [h2 _ hdi.1 hdi.2, hat]; rfl
  ·rw [if_neg hk1, if_neg hk1]
 by_cases hme : m = e.member
 ·subst hme
  rw [if_pos rfl] at hrow ⊢
  unfold stepH
  rw [← hdon]
  unfold nowH at hrow ⊢
  rw [hrow, List.length_append, List.length_singleton, Nat.add_sub_cancel, List.getElem?_append_right (Nat.le_refl _), Nat.sub_self]
  rfl
 ·rw [if_neg hme] at hrow ⊢
  unfold stepH
  show ((rowH _ m)[(rowH _ m).length - 1]?).join = _
  rw [hrow]; rfl
theorem rowH_stays {c : Cfg} {es : List Ev} (hm : eventsMay es c.m = true) {m : Int} (h0 : 0 ≤ m) (h : m < c.m) {i : Nat} : ∀ d, i + d ≤ es.length → ∃ l, rowH (foldH c (es.take (i + d))) m = rowH (foldH c (es.take i)) m ++ l
 | 0, _ => ⟨[], by simp⟩
 | d + 1, hd => by
  obtain ⟨l, hl⟩ := rowH_stays hm h0 h (i := i) d (by omega)
  have he : es[i + d]? = some (es[i + d]'(by omega)) := by simp
  generalize es[i + d]'(by omega) = e at he
  obtain ⟨hmb, _⟩ := evMay_in ((eventsMay_at hm).2.2 _ e he)
  obtain ⟨h1, _⟩ := foldH_ok (c := c) hm (i + d) (by omega)
  rw [show i + (d + 1) = i + d + 1 by omega, foldH_succ he]
  unfold stepH
  rw [rowH_set ⟨hmb.1, by omega⟩ h0]
  by_cases hme : m = e.member
  ·subst hme
   rw [if_pos rfl, hl, List.append_assoc]
   exact ⟨_, rfl⟩
  ·rw [if_neg hme]; exact ⟨l, hl⟩
theorem foldK_now {c : Cfg} {es : List Ev} (hm : eventsMay es c.m = true) {id : Int} (h0 : 0 ≤ id) (h : id < c.m) {i : Nat} (hi : i ≤ es.length) : foldK c es id (manyOf (es.take i) id : Nat) = nowH (foldH c (es.take i)) id := by
 obtain ⟨_, h2⟩ := foldH_ok (c := c) hm i hi
 obtain ⟨l, hl⟩ := rowH_stays hm h0 h (i := i) (es.length - i) (by omega)
 rw [show i + (es.length - i) = es.length by omega, foldH_all] at hl
 unfold foldK nowH
 rw [hl, h2 id h0 h, Int.toNat_natCast, List.getElem?_append_left (by rw [h2 id h0 h]; omega)]
 rfl
theorem kFits_span {c : Cfg} {k : Chk} (h : kFits c k = true) : 0 ≤ k.t ∧ k.t ≤ 32 := by
 unfold kFits memFits at h
 rw [Bool.and_eq_true] at h
 obtain ⟨_, _, _, _, _, h0, h1⟩ := chkMay_split h.1
 exact ⟨h0, h1⟩
theorem kFits_hyper {c : Cfg} {k : Chk} {r m : Int} (h : kFits c k = true) (hy : hyperMay r m = true) : kFits c ⟨k.ws, k.vs, r, m, k.t⟩ = true := by
 unfold kFits memFits at h ⊢
 rw [Bool.and_eq_true] at h ⊢
 refine ⟨?_, h.2⟩
 have h1 := h.1
 unfold chkMay at h1 ⊢
 simp only [Bool.and_eq_true, decide_eq_true_eq] at h1 ⊢
 exact ⟨⟨⟨h1.1.1.1, hy⟩, h1.1.2⟩, h1.2⟩
theorem foldOk_split {c : Cfg} {es : List Ev} {id a : Int} (h : foldOk c es id a = true) : cfgMay c = true ∧ eventsMay es c.m = true ∧ (0 ≤ id ∧ id < c.m) ∧ 0 ≤ a ∧ a ≤ (manyOf es id : Int) := by
 unfold foldOk at h
 simp only [Bool.and_eq_true, decide_eq_true_eq] at h
 obtain ⟨⟨⟨⟨h1, h2⟩, h3⟩, h4⟩, h5⟩ := h
 obtain ⟨hm2, _⟩ := cfgMay_split h1
 rw [wrap_m hm2, within_iff] at h3
 exact ⟨h1, h2, ⟨h3.1, by omega⟩, h4, h5⟩
theorem foldR_some {c : Cfg} {es : List Ev} {id a : Int} (h : foldOk c es id a = true) {k : Chk} (hk : foldK c es id a = some k) : foldR c es id a = (k, 0) := by
 unfold foldR
 rw [if_pos h, hk]
theorem foldR_none {c : Cfg} {es : List Ev} {id a : Int} (hk : foldK c es id a = none) : foldR c es id a = (noChk, 2400) := by
 unfold foldR
 split
 ·rw [hk]
 ·rfl
theorem foldR_no {c : Cfg} {es : List Ev} {id a : Int} (h : foldOk c es id a = false) : foldR c es id a = (noChk, 2400) := by
 unfold foldR
 rw [h, if_neg (by decide)]
abbrev paC (p : Pa) : List V := [p.w, p.v, .int .i64 p.k.r, .int .i64 p.k.m, .int .i64 p.k.t, .int .i64 p.n, .bool p.bad]
def pathC (cs : List V) (p : Pa) : Prop := cs = paC p
theorem paths_at {H : Heap} {ps : List Pa} (h : (pack (paths ps)).p H) {i : Nat} {p : Pa} (hp : ps[i]? = some p) : KAt H p.w p.v p.k := by
 have hm := pack_mem h
 have hr : (paths ps)[i]? = some (paPart p) := by unfold paths; rw [List.getElem?_map, hp]; rfl
 exact kPart_at (hm.get (Has.nth hr))
theorem Mem.newPath {B H : Heap} {ps : List Pa} {M : List Res} {p : Pa} {i : Nat} (h : Mem B H (.own 1 intC p.w p.k.ws :: .own 1 intC p.v p.k.vs :: .ro (pack (paths ps)) :: M)) (hi : i < ps.length) : Mem B H (.ro (pack (paths (ps.set i p))) :: M) := by
 have h1 := h.pack2.swap
 have h2 := Mem.repack h1 i (by unfold paths; rw [List.length_map]; exact hi)
 have e : (paths ps).set i (.ro (pack [.own 1 intC p.w p.k.ws, .own 1 intC p.v p.k.vs])) = paths (ps.set i p) := by
  unfold paths; rw [List.map_set]; rfl
 rw [e] at h2
 exact h2
theorem Mem.samePath {B H : Heap} {ps : List Pa} {M : List Res} {p q : Pa} {i : Nat} (h : Mem B H (.ro (pack (paths ps)) :: M)) (hp : ps[i]? = some p) (e1 : q.w = p.w) (e2 : q.v = p.v) (e3 : q.k.ws = p.k.ws) (e4 : q.k.vs = p.k.vs) : Mem B H (.ro (pack (paths (ps.set i q))) :: M) := by
 have e : paths (ps.set i q) = paths ps := by
  unfold paths
  rw [List.map_set]
  have : paPart q = paPart p := by unfold paPart; rw [e1, e2, e3, e4]
  rw [this]
  apply List.ext_getElem?
  intro j
  rw [List.getElem?_set]
  by_cases hj : i = j
  ·subst hj
   rw [List.getElem?_map, hp]
   have := (List.getElem?_eq_some_iff.1 hp).1
   simp [this]
  ·simp [hj]
 rw [e]
 exact h
structure PathsOk (c : Cfg) (es : List Ev) (k : Nat) (ps : List Pa) : Prop where
 len : ps.length = c.m.toNat
 n : ∀ (i : Nat) p, ps[i]? = some p → p.n = (manyOf (es.take k) i : Int)
 fits : ∀ (i : Nat) p, ps[i]? = some p → kFits c p.k = true
 now : ∀ (i : Nat) p, ps[i]? = some p → nowH (foldH c (es.take k)) i = if p.bad = true then none else some p.k
def tookK (c : Cfg) (e : Ev) (p : Pa) (q : Option Pa) : Chk × Bool :=
 if e.kind = 0 then (if (p.bad || (trainR c e.member p.k).2 != 0) = true then (p.k, true) else ((trainR c e.member p.k).1, false))
 else if e.kind = 1 then (match q with
  | none => (p.k, p.bad)
  | some q => (⟨q.k.ws, q.k.vs, q.k.r, q.k.m, p.k.t⟩, p.bad || q.bad))
 else (⟨p.k.ws, p.k.vs, e.rate, e.mom, p.k.t⟩, p.bad)
theorem took_ok {c : Cfg} (hc : cfgMay c = true) {es : List Ev} (hm : eventsMay es c.m = true) {k : Nat} {e : Ev} (he : es[k]? = some e) {ps : List Pa} (h : PathsOk c es k ps) {p p' : Pa} (hp : ps[e.member.toNat]? = some p)
  (h1 : (p'.k, p'.bad) = tookK c e p (if e.kind = 1 then ps[e.donor.toNat]? else none)) (h2 : p'.n = p.n + 1) : PathsOk c es (k + 1) (ps.set e.member.toNat p') := by
 obtain ⟨hl, hn, hf, hw⟩ := h
 have hk := (List.getElem?_eq_some_iff.1 he).1
 obtain ⟨hmb, hd, hkd, hy⟩ := evMay_in ((eventsMay_at hm).2.2 k e he)
 have hmn : ((e.member.toNat : Nat) : Int) = e.member := by omega
 have hi := (List.getElem?_eq_some_iff.1 hp).1
 have get : ∀ (i : Nat) q, (ps.set e.member.toNat p')[i]? = some q → (i = e.member.toNat ∧ q = p') ∨ (i ≠ e.member.toNat ∧ ps[i]? = some q) := by
  intro i q hq
  rw [List.getElem?_set] at hq
  by_cases hie : e.member.toNat = i
  ·subst hie
   rw [if_pos rfl, if_pos hi] at hq
   exact .inl ⟨rfl, (Option.some.inj hq).symm⟩
  ·rw [if_neg hie] at hq
   exact .inr ⟨fun h => hie h.symm, hq⟩
 have hpf := hf _ _ hp
 have hpw := hw _ _ hp
 rw [hmn] at hpw
 obtain ⟨_, _, _, htot, _⟩ := cfgMay_split hc
 obtain ⟨dq, hdq⟩ : ∃ dq, (if e.kind = 1 then ps[e.donor.toNat]? else none) = dq := ⟨_, rfl⟩
 rw [hdq] at h1
 have hdon : e.kind = 1 → ∃ q, dq = some q ∧ kFits c q.k = true ∧ nowH (foldH c (es.take k)) e.donor = if q.bad = true then none else some q.k := fun hk1 => by
  obtain ⟨hdi, _, _⟩ := hd hk1
  have hdn : ((e.donor.toNat : Nat) : Int) = e.donor := by omega
  obtain ⟨q, hq⟩ : ∃ q, ps[e.donor.toNat]? = some q := ⟨ps[e.donor.toNat]'(by omega), by simp⟩
  rw [if_pos hk1] at hdq
  have := hw _ _ hq
  rw [hdn] at this
  exact ⟨q, by rw [← hdq, hq], hf _ _ hq, this⟩
 have key : kFits c p'.k = true ∧ turnK c e (if p.bad = true then none else some p.k) (if e.kind = 1 then nowH (foldH c (es.take k)) e.donor else none) = if p'.bad = true then none else some p'.k := by
  obtain ⟨pw, pv, pk, pn, pb⟩ := p
  obtain ⟨w', v', k', n', b'⟩ := p'
  simp only at h1 hpf hpw ⊢
  unfold tookK at h1
  by_cases hk0 : e.kind = 0
  ·rw [if_pos hk0] at h1
   rw [if_neg (show ¬ e.kind = 1 by omega)]
   unfold turnK
   by_cases ht : pk.t < c.total
   ·rw [trainR_go hc hmb hpf ht] at h1
    simp only [bne_self_eq_false, Bool.or_false] at h1
    have hgo := trainR_go hc hmb hpf ht
    cases pb with
    | true => simp at h1; obtain ⟨rfl, rfl⟩ := h1; exact ⟨hpf, by simp⟩
    | false =>
     simp at h1
     obtain ⟨rfl, rfl⟩ := h1
     refine ⟨train_fits hpf (by omega), ?_⟩
     simp [hk0, hgo]
   ·rw [trainR_done hc hmb hpf (by omega)] at h1
    have hgo := trainR_done hc hmb hpf (by omega)
    simp at h1
    obtain ⟨rfl, rfl⟩ := h1
    refine ⟨hpf, ?_⟩
    cases pb <;> simp [hk0, hgo]
  ·rw [if_neg hk0] at h1
   by_cases hk1 : e.kind = 1
   ·obtain ⟨q, rfl, hqf, hqn⟩ := hdon hk1
    rw [if_pos hk1] at h1
    simp only [Prod.mk.injEq] at h1
    obtain ⟨rfl, rfl⟩ := h1
    rw [if_pos hk1, hqn]
    refine ⟨kFits_t (k := q.k) hqf (kFits_span hpf), ?_⟩
    unfold turnK
    cases pb <;> cases q.bad <;> simp [hk0, hk1]
   ·rw [if_neg hk1] at h1
    simp only [Prod.mk.injEq] at h1
    obtain ⟨rfl, rfl⟩ := h1
    rw [if_neg hk1]
    refine ⟨kFits_hyper hpf (hy (by omega)), ?_⟩
    unfold turnK
    cases b' <;> simp [hk0, hk1]
 refine ⟨by rw [List.length_set]; exact hl, fun i q hq => ?_, fun i q hq => ?_, fun i q hq => ?_⟩
 ·rw [manyOf_succ he]
  rcases get i q hq with ⟨rfl, rfl⟩ | ⟨hne, hq⟩
  ·rw [h2, hn _ _ hp, hmn, if_pos rfl]; omega
  ·rw [if_neg (by omega), hn _ _ hq]; omega
 ·rcases get i q hq with ⟨rfl, rfl⟩ | ⟨hne, hq⟩
  ·exact key.1
  ·exact hf _ _ hq
 ·have hil : i < c.m.toNat := by have := (List.getElem?_eq_some_iff.1 hq).1; rw [List.length_set] at this; omega
  rw [nowH_step hm he (by omega) (by omega)]
  rcases get i q hq with ⟨rfl, rfl⟩ | ⟨hne, hq⟩
  ·rw [if_pos hmn, hpw]
   exact key.2
  ·rw [if_neg (by omega)]
   exact hw _ _ hq
theorem paths_start {c : Cfg} (hc : cfgMay c = true) {es : List Ev} {ps : List Pa} (hl : ps.length = c.m.toNat) (h : ∀ (i : Nat) p, ps[i]? = some p → p.k = firstKR c i ∧ p.n = 0 ∧ p.bad = false) : PathsOk c es 0 ps := by
 refine ⟨hl, fun i p hp => by rw [(h i p hp).2.1]; rfl, fun i p hp => ?_, fun i p hp => ?_⟩
 ·have hi := (List.getElem?_eq_some_iff.1 hp).1
  rw [(h i p hp).1]
  obtain ⟨hm2, _⟩ := cfgMay_split hc
  have hok : firstOk c i = true := by
   unfold firstOk
   rw [hc, wrap_m hm2, within_iff.2 ⟨by omega, by omega⟩]; rfl
  unfold firstKR
  rw [if_pos hok]
  exact firstK_fits hc _
 ·have hi := (List.getElem?_eq_some_iff.1 hp).1
  obtain ⟨h1, _, h3⟩ := h i p hp
  have e : foldH c (es.take 0) = startH c := rfl
  rw [e]
  unfold nowH
  rw [startH_row (by omega) (by omega), h1, h3]; rfl
abbrev foldC (c : Cfg) (rv u : V) : List V := [.int .i64 c.m, .int .i64 c.i, .int .i64 c.h, rv, .int .i64 c.seed, .int .i64 c.total, .int .i64 c.interval, .int .i64 c.cutn, .bool c.pert, u]
theorem path_at {B H : Heap} {L : List Res} {f : Res → List Res} {u : V} {ps : List Pa} (hM : Mem B H L) (hh : Has L (.own 7 pathC u ps) f) {k : Nat} {p : Pa} (hp : ps[k]? = some p) :
  ∃ b o, idxV T 123 u (k : Int) = some (.ptr b o) ∧ loadV T 45 H b o = some (.agg (kC p.w p.v p.k)) ∧ loadV T 3 H b (o + 5) = some (.int .i64 p.n) ∧ loadV T 4 H b (o + 6) = some (.bool p.bad) := by
 obtain ⟨b, o, cs, hi, hc, _, hlo, hlc⟩ := (hM.sl hh).get T123 rfl T129 rfl hp
 rw [hc] at hlo hlc
 refine ⟨b, o, hi, loadV_agg T45 rfl ?_, loadV_one T3 rfl (hlc 5 _ rfl), loadV_one T4 rfl (hlc 6 _ rfl)⟩
 exact loadN_in (j := 0) (n := 5) hlo (by decide)
theorem path_put {B H : Heap} {L : List Res} {f : Res → List Res} {u : V} {ps : List Pa} (hM : Mem B H L) (hh : Has L (.own 7 pathC u ps) f) {k : Nat} {p : Pa} (hp : ps[k]? = some p) {b o : Nat} (hi : idxV T 123 u (k : Int) = some (.ptr b o))
  (off : Nat) {te : Nat} {it : TI} (hTe : T te = some it) (hoff : off + it.size ≤ 7) {w : V} {p' : Pa} (hw : w.isTup = false) (hl : w.cells.length = it.size) (hs : setL (paC p) off w.cells = paC p') :
  ∃ H', storeV T te H b (o + off) w = some H' ∧ Mem B H' (f (.own 7 pathC u (ps.set k p'))) := by
 obtain ⟨b', hix, hput⟩ := hM.elemAt hh T123 rfl T129 rfl hp off hTe hoff
 rw [hi] at hix
 cases hix
 exact hput w p' hw hl fun cs hl hR => by rw [hR]; exact hs
theorem take24_ (B H : Heap) (L : List Res) (c : Cfg) (rv u : V) (ps : List Pa) (fb eb eo : Nat) (e : Ev) (p : Pa)
  (hM : Mem B H (.box fb (foldC c rv u) :: .own 7 pathC u ps :: .ro (pack (paths ps)) :: L)) (hr : Rows B rv c.rows) (cf : c.Fit) (hpf : ∀ (i : Nat) p, ps[i]? = some p → p.k.Fit)
  (e0 : loadV T 3 H eb eo = some (.int .i64 e.kind)) (e1 : loadV T 3 H eb (eo + 1) = some (.int .i64 e.member)) (e2 : loadV T 3 H eb (eo + 2) = some (.int .i64 e.donor)) (e4 : loadV T 43 H eb (eo + 4) = some (.agg [.int .i64 e.rate, .int .i64 e.mom]))
  (hm0 : 0 ≤ e.member) (hp : ps[e.member.toNat]? = some p) (hd : e.kind = 1 → ∃ q, 0 ≤ e.donor ∧ ps[e.donor.toNat]? = some q) (hn : 0 ≤ p.n ∧ p.n ≤ 2000) :
  ∃ w H', Call Tryz.prog 70 [.ptr fb 0, .ptr eb eo] H w H' ∧ w = .tup [] ∧ ∃ p', (p'.k, p'.bad) = tookK c e p (if e.kind = 1 then ps[e.donor.toNat]? else none) ∧ p'.n = p.n + 1 ∧ Mem B H' (.box fb (foldC c rv u) :: .own 7 pathC u (ps.set e.member.toNat p') :: .ro (pack (paths (ps.set e.member.toNat p'))) :: L) := by
 obtain ⟨kd, mb, dn, at_, ra, mo⟩ := e
 simp only at e0 e1 e2 e4 hm0 hp hd ⊢
 obtain ⟨m, rfl⟩ : ∃ m : Nat, mb = m := ⟨mb.toNat, by omega⟩
 rw [Int.toNat_natCast] at hp ⊢
 have hml := (List.getElem?_eq_some_iff.1 hp).1
 have s1 := (hM.sl (.there .here)).cells
 have hk := paths_at (hM.fact (.there (.there .here))) hp
 have kf := hpf _ _ hp
 have t1 := hk.ws.cells
 have t2 := hk.vs.cells
 obtain ⟨b, o, hi, l0, l5, l6⟩ := path_at hM (.there .here) hp
 obtain ⟨pw, pv, pk, pn, pb⟩ := p
 simp only at hk kf hn l0 l5 l6 t1 t2 ⊢
 have wn : IntKind.i64.wrap (pn + 1) = pn + 1 := wrap_i64 (by omega) (by omega)
 clear hn hm0
 by_cases h0 : kd = 0
 ·subst h0
  obtain ⟨a, b2, H1, c1, m1⟩ := one_ H c rv pw pv m pk (hr.mono hM.pre) hk cf kf
  have tk : tookK c ⟨0, (m : Int), dn, at_, ra, mo⟩ ⟨pw, pv, pk, pn, pb⟩ none = if (pb || (trainR c m pk).2 != 0) = true then (pk, true) else ((trainR c m pk).1, false) := rfl
  rw [if_neg (by decide), tk]
  clear tk hd
  generalize trainR c m pk = o1 at *
  obtain ⟨k1, f1⟩ := o1
  simp only at c1 m1 ⊢
  refine call_turn fit mixed hM Tryz.func70 rfl rfl rfl (by kernel_rfl) fun _ => ?_
  refine goM ?_
  refine d_callG c1 (.inl m1.pre) ?_
  have s3 := (m1.sl .here).cells
  have s4 := (m1.sl (.there .here)).cells
  replace hM := hM.call2 m1
  clear c1 m1 l0 l5 l6 hk
  refine goM ?_
  refine d_newM (cs := zeroChk) T45 rfl fun b5 H2 hM => ?_
  refine d_putM T45 fun H3 hM => ?_
  obtain ⟨_, _, hi', l0, l5, l6⟩ := path_at hM (by (repeat (first | exact Has.here | apply Has.there))) hp
  rw [hi] at hi'
  cases hi'
  simp only at l0 l5 l6
  have done1 : ∀ bd : Bool, ∃ H4, storeV T 4 H3 b (o + 6) (.bool bd) = some H4 ∧ Mem B H4 (.box b5 (kC a b2 k1) :: .own 1 intC a k1.ws :: .own 1 intC b2 k1.vs :: .box fb (foldC c rv u) :: .own 7 pathC u (ps.set m ⟨pw, pv, pk, pn, bd⟩) :: .ro (pack (paths ps)) :: L) := fun bd =>
   path_put hM (.there (.there (.there (.there .here)))) hp hi 6 T4 (by decide) rfl rfl rfl
  have bad : ∀ H4 (hM4 : Mem B H4 (.box b5 (kC a b2 k1) :: .own 1 intC a k1.ws :: .own 1 intC b2 k1.vs :: .box fb (foldC c rv u) :: .own 7 pathC u (ps.set m ⟨pw, pv, pk, pn, true⟩) :: .ro (pack (paths ps)) :: L)), ∃ H5, loadV T 4 H4 b (o + 6) = some (.bool true) ∧ loadV T 3 H4 b (o + 5) = some (.int .i64 pn) ∧ storeV T 3 H4 b (o + 5) (.int .i64 (pn + 1)) = some H5 ∧ Mem B H5 (.box fb (foldC c rv u) :: .own 7 pathC u (ps.set m ⟨pw, pv, pk, pn + 1, true⟩) :: .ro (pack (paths (ps.set m ⟨pw, pv, pk, pn + 1, true⟩))) :: L) := fun H4 hM4 => by
   have hp4 : (ps.set m ⟨pw, pv, pk, pn, true⟩)[m]? = some ⟨pw, pv, pk, pn, true⟩ := List.getElem?_set_self hml
   obtain ⟨_, _, hi', _, l5, l6⟩ := path_at hM4 (.there (.there (.there (.there .here)))) hp4
   rw [hi] at hi'
   cases hi'
   obtain ⟨H5, st, hM5⟩ := path_put hM4 (.there (.there (.there (.there .here)))) hp4 hi 5 T3 (by decide) (w := .int .i64 (pn + 1)) (p' := ⟨pw, pv, pk, pn + 1, true⟩) rfl rfl rfl
   rw [List.set_set] at hM5
   have h6 := (hM5.front (r := .ro (pack (paths ps))) (by (repeat (first | exact Take.here | apply Take.there)))).samePath (q := ⟨pw, pv, pk, pn + 1, true⟩) hp rfl rfl rfl rfl
   have h7 := (h6.front (r := .own 7 pathC u (ps.set m ⟨pw, pv, pk, pn + 1, true⟩)) (by (repeat (first | exact Take.here | apply Take.there)))).front (r := .box fb (foldC c rv u)) (by (repeat (first | exact Take.here | apply Take.there)))
   exact ⟨H5, l6, l5, st, h7.sub (by (repeat (first | exact List.Sublist.slnil | exact List.Sublist.refl _ | refine List.Sublist.cons_cons _ ?_ | refine List.Sublist.cons _ ?_)))⟩
  obtain ⟨q, hq⟩ : ∃ q, (f1 != 0) = q := ⟨_, rfl⟩
  cases pb with
  | true =>
   obtain ⟨H4, st4, hM4⟩ := done1 true
   obtain ⟨H5, l6', l5', st5, hM5⟩ := bad H4 hM4
   clear done1 bad
   refine goM ?_
   refine l_stM st4 ?_
   clear hM l0 l5 l6
   have hM := hM4
   refine goM ?_
   refine l_stM st5 ?_
   refine goM ?_
   refine end_normal (by simp only [resRf, resRs, resR]; first | done | rfl) ⟨rfl, ⟨pw, pv, pk, pn + 1, true⟩, rfl, rfl, hM5⟩
  | false =>
   cases q with
   | true =>
    obtain ⟨H4, st4, hM4⟩ := done1 true
    obtain ⟨H5, l6', l5', st5, hM5⟩ := bad H4 hM4
    clear done1 bad
    refine goM ?_
    refine l_stM st4 ?_
    clear hM l0 l5 l6
    have hM := hM4
    refine goM ?_
    refine l_stM st5 ?_
    refine goM ?_
    refine end_normal (by simp only [resRf, resRs, resR]; first | done | rfl) ⟨rfl, ⟨pw, pv, pk, pn + 1, true⟩, by first | rfl | (rw [hq]; rfl), rfl, hM5⟩
   | false =>
    obtain ⟨H4, st4, hM4⟩ := done1 false
    have hp4 : (ps.set m ⟨pw, pv, pk, pn, false⟩)[m]? = some ⟨pw, pv, pk, pn, false⟩ := List.getElem?_set_self hml
    obtain ⟨_, _, hi', _, l5', l6'⟩ := path_at hM4 (by (repeat (first | exact Has.here | apply Has.there))) hp4
    rw [hi] at hi'
    cases hi'
    obtain ⟨H5, st5, hM5⟩ := path_put hM4 (.there (.there (.there (.there .here)))) hp4 hi 0 T45 (by decide) (w := .agg (kC a b2 k1)) (p' := ⟨a, b2, k1, pn, false⟩) rfl rfl rfl
    rw [List.set_set] at hM5
    have hp5 : (ps.set m ⟨a, b2, k1, pn, false⟩)[m]? = some ⟨a, b2, k1, pn, false⟩ := List.getElem?_set_self hml
    obtain ⟨_, _, hi', _, l5'', _⟩ := path_at hM5 (by (repeat (first | exact Has.here | apply Has.there))) hp5
    rw [hi] at hi'
    cases hi'
    obtain ⟨H6, st6, hM6⟩ := path_put hM5 (.there (.there (.there (.there .here)))) hp5 hi 5 T3 (by decide) (w := .int .i64 (pn + 1)) (p' := ⟨a, b2, k1, pn + 1, false⟩) rfl rfl rfl
    rw [List.set_set] at hM6
    have h6 := ((hM6.front (r := .ro (pack (paths ps))) (by (repeat (first | exact Take.here | apply Take.there)))).front (r := .own 1 intC b2 k1.vs) (by (repeat (first | exact Take.here | apply Take.there)))).front (r := .own 1 intC a k1.ws) (by (repeat (first | exact Take.here | apply Take.there)))
    have h7 := h6.newPath (p := ⟨a, b2, k1, pn + 1, false⟩) hml
    have h8 := (h7.front (r := .own 7 pathC u (ps.set m ⟨a, b2, k1, pn + 1, false⟩)) (by (repeat (first | exact Take.here | apply Take.there)))).front (r := .box fb (foldC c rv u)) (by (repeat (first | exact Take.here | apply Take.there)))
    clear done1 bad h6 h7 hM6
    simp only [Nat.add_zero] at st5
    refine goM ?_
    refine l_stM st4 ?_
    clear hM l0 l5 l6
    have hM := hM4
    refine goM ?_
    refine l_stM st5 ?_
    clear hM hM4 l5' l6'
    have hM := hM5
    refine goM ?_
    refine l_stM st6 ?_
    refine goM ?_
    refine end_normal (by simp only [resRf, resRs, resR]; first | done | rfl) ⟨rfl, ⟨a, b2, k1, pn + 1, false⟩, by first | rfl | (rw [hq]; rfl), rfl, h8.sub (by (repeat (first | exact List.Sublist.slnil | exact List.Sublist.refl _ | refine List.Sublist.cons_cons _ ?_ | refine List.Sublist.cons _ ?_)))⟩
 ·have n0 : (kd == 0) = false := by simpa using h0
  by_cases h1 : kd = 1
  ·subst h1
   obtain ⟨q, hd0, hq⟩ := hd rfl
   clear hd h0
   obtain ⟨d, rfl⟩ : ∃ d : Nat, dn = d := ⟨dn.toNat, by omega⟩
   rw [Int.toNat_natCast] at hq ⊢
   rw [if_pos rfl]
   have hk2 := paths_at (hM.fact (.there (.there .here))) hq
   have kf2 := hpf _ _ hq
   obtain ⟨b', o', hi2, j0, _, j6⟩ := path_at hM (.there .here) hq
   obtain ⟨qw, qv, qk, qn, qb⟩ := q
   simp only at hk2 kf2 j0 j6
   have t3 := hk2.ws.cells
   have t4 := hk2.vs.cells
   obtain ⟨_, H1, c1, a, b2, rfl, m1⟩ := checkCopy_ H qw qv qk hk2 kf2
   have tk : tookK c ⟨1, (m : Int), d, at_, ra, mo⟩ ⟨pw, pv, pk, pn, pb⟩ (some ⟨qw, qv, qk, qn, qb⟩) = (⟨qk.ws, qk.vs, qk.r, qk.m, pk.t⟩, pb || qb) := rfl
   rw [hq, tk]
   clear tk n0
   refine call_turn fit mixed hM Tryz.func70 rfl rfl rfl (by kernel_rfl) fun _ => ?_
   refine goM ?_
   refine l_callG c1 ?_
   have s3 := (m1.sl .here).cells
   have s4 := (m1.sl (.there .here)).cells
   replace hM := hM.call2 m1
   clear c1 m1 l0 l5 l6 hk hk2 j0 j6
   refine goM ?_
   refine l_newM (cs := zeroChk) T45 rfl fun b5 H2 hM => ?_
   refine l_putM T45 fun H3 hM => ?_
   obtain ⟨_, _, hi', l0, l5, l6⟩ := path_at hM (by (repeat (first | exact Has.here | apply Has.there))) hp
   rw [hi] at hi'
   cases hi'
   obtain ⟨_, _, hi', _, _, j6⟩ := path_at hM (by (repeat (first | exact Has.here | apply Has.there))) hq
   rw [hi2] at hi'
   cases hi'
   simp only at l0 l5 l6 j6
   obtain ⟨H4, st4, hM4⟩ := path_put hM (.there (.there (.there (.there .here)))) hp hi 0 T27 (by decide) (w := a) (p' := ⟨a, pv, pk, pn, pb⟩) s4.2 (by rw [s4.1]; rfl) (by rw [s4.1]; rfl)
   have hp4 : (ps.set m ⟨a, pv, pk, pn, pb⟩)[m]? = some ⟨a, pv, pk, pn, pb⟩ := List.getElem?_set_self hml
   obtain ⟨H5, st5, hM5⟩ := path_put hM4 (.there (.there (.there (.there .here)))) hp4 hi 1 T27 (by decide) (w := b2) (p' := ⟨a, b2, pk, pn, pb⟩) s3.2 (by rw [s3.1]; rfl) (by rw [s3.1]; rfl)
   rw [List.set_set] at hM5
   have hp5 : (ps.set m ⟨a, b2, pk, pn, pb⟩)[m]? = some ⟨a, b2, pk, pn, pb⟩ := List.getElem?_set_self hml
   obtain ⟨H6, st6, hM6⟩ := path_put hM5 (.there (.there (.there (.there .here)))) hp5 hi 2 T43 (by decide) (w := .agg [.int .i64 qk.r, .int .i64 qk.m]) (p' := ⟨a, b2, ⟨qk.ws, qk.vs, qk.r, qk.m, pk.t⟩, pn, pb⟩) rfl rfl rfl
   rw [List.set_set] at hM6
   have hp6 : (ps.set m ⟨a, b2, ⟨qk.ws, qk.vs, qk.r, qk.m, pk.t⟩, pn, pb⟩)[m]? = some ⟨a, b2, ⟨qk.ws, qk.vs, qk.r, qk.m, pk.t⟩, pn, pb⟩ := List.getElem?_set_self hml
   obtain ⟨H7, st7, hM7⟩ := path_put hM6 (.there (.there (.there (.there .here)))) hp6 hi 6 T4 (by decide) (w := .bool (pb || qb)) (p' := ⟨a, b2, ⟨qk.ws, qk.vs, qk.r, qk.m, pk.t⟩, pn, pb || qb⟩) rfl rfl rfl
   rw [List.set_set] at hM7
   have hp7 : (ps.set m ⟨a, b2, ⟨qk.ws, qk.vs, qk.r, qk.m, pk.t⟩, pn, pb || qb⟩)[m]? = some ⟨a, b2, ⟨qk.ws, qk.vs, qk.r, qk.m, pk.t⟩, pn, pb || qb⟩ := List.getElem?_set_self hml
   obtain ⟨_, _, hi', _, l5', _⟩ := path_at hM7 (by (repeat (first | exact Has.here | apply Has.there))) hp7
   rw [hi] at hi'
   cases hi'
   obtain ⟨H8, st8, hM8⟩ := path_put hM7 (.there (.there (.there (.there .here)))) hp7 hi 5 T3 (by decide) (w := .int .i64 (pn + 1)) (p' := ⟨a, b2, ⟨qk.ws, qk.vs, qk.r, qk.m, pk.t⟩, pn + 1, pb || qb⟩) rfl rfl rfl
   rw [List.set_set] at hM8
   have h6 := ((hM8.front (r := .ro (pack (paths ps))) (by (repeat (first | exact Take.here | apply Take.there)))).front (r := .own 1 intC b2 qk.vs) (by (repeat (first | exact Take.here | apply Take.there)))).front (r := .own 1 intC a qk.ws) (by (repeat (first | exact Take.here | apply Take.there)))
   have h7 := h6.newPath (p := ⟨a, b2, ⟨qk.ws, qk.vs, qk.r, qk.m, pk.t⟩, pn + 1, pb || qb⟩) hml
   have h8 := (h7.front (r := .own 7 pathC u (ps.set m ⟨a, b2, ⟨qk.ws, qk.vs, qk.r, qk.m, pk.t⟩, pn + 1, pb || qb⟩)) (by (repeat (first | exact Take.here | apply Take.there)))).front (r := .box fb (foldC c rv u)) (by (repeat (first | exact Take.here | apply Take.there)))
   clear h6 h7 hM8 hp4 hp5 hp6 hp7 hp hq hpf
   simp only [Nat.add_zero, List.length_cons, List.length_nil] at st4
   cases pb with
   | true =>
    simp only [Bool.true_or] at st7 l5' h8 ⊢
    have und : V.under H3.length b2 = true := (hM.sl (.there .here)).under
    refine goM ?_
    refine wq_late ?_
    have np := no_pend (T := T) H3
    repeat (first | (refine e_pl ?_; refine e_goM ?_) | refine e_nil ?_)
    refine e_lateG np und ?_
    clear np
    refine e_np (one_pend (pend_box (off := 1) hM .here T27 rfl rfl)) fun np => ?_
    repeat (first | (refine e_pl ?_; refine e_goM ?_) | refine e_nil ?_)
    refine e_lateG np (v := .agg [.int .i64 qk.r, .int .i64 qk.m]) rfl ?_
    clear np
    refine e_np (two_pend (pend_boxS (off := 2) hM .here T43 rfl rfl rfl) (pend_box (off := 1) hM .here T27 rfl rfl)) fun np => ?_
    repeat (first | (refine e_pl ?_; refine e_goM ?_) | (refine e_gd ?_; first | refine e_onG ?_ | refine e_offG ?_))
    refine e_stM st4 ⟨two_pend (pend_boxS (off := 2) hM4 .here T43 rfl rfl rfl) (pend_box (off := 1) hM4 .here T27 rfl rfl), ?_⟩
    clear np
    refine e_np (two_pend (pend_boxS (off := 2) hM4 .here T43 rfl rfl rfl) (pend_box (off := 1) hM4 .here T27 rfl rfl)) fun np => ?_
    repeat (first | (refine e_pl ?_; refine e_goM ?_) | refine e_nil ?_)
    refine e_stM st5 ⟨two_pend (pend_boxS (off := 2) hM5 .here T43 rfl rfl rfl) (pend_box (off := 1) hM5 .here T27 rfl rfl), ?_⟩
    clear np
    refine e_np (two_pend (pend_boxS (off := 2) hM5 .here T43 rfl rfl rfl) (pend_box (off := 1) hM5 .here T27 rfl rfl)) fun np => ?_
    repeat (first | (refine e_pl ?_; refine e_goM ?_) | refine e_nil ?_)
    refine e_stM st6 ⟨two_pend (pend_boxS (off := 2) hM6 .here T43 rfl rfl rfl) (pend_box (off := 1) hM6 .here T27 rfl rfl), ?_⟩
    clear np
    refine e_np (two_pend (pend_boxS (off := 2) hM6 .here T43 rfl rfl rfl) (pend_box (off := 1) hM6 .here T27 rfl rfl)) fun np => ?_
    repeat (first | (refine e_pl ?_; refine e_goM ?_) | refine e_nil ?_)
    refine e_stM st7 ⟨two_pend (pend_boxS (off := 2) hM7 .here T43 rfl rfl rfl) (pend_box (off := 1) hM7 .here T27 rfl rfl), ?_⟩
    clear np
    refine e_np (two_pend (pend_boxS (off := 2) hM7 .here T43 rfl rfl rfl) (pend_box (off := 1) hM7 .here T27 rfl rfl)) fun np => ?_
    repeat (first | (refine e_pl ?_; refine e_goM ?_) | refine e_nil ?_)
    clear np
    clear hM l0 l5 l6
    have hM := hM7
    refine goM ?_
    refine l_stM st8 ?_
    refine goM ?_
    refine end_normal (by simp only [resRf, resRs, resR]; first | done | rfl) ⟨rfl, ⟨a, b2, ⟨qk.ws, qk.vs, qk.r, qk.m, pk.t⟩, pn + 1, true⟩, rfl, rfl, h8.sub (by (repeat (first | exact List.Sublist.slnil | exact List.Sublist.refl _ | refine List.Sublist.cons_cons _ ?_ | refine List.Sublist.cons _ ?_)))⟩
   | false =>
    simp only [Bool.false_or] at st7 l5' h8 ⊢
    have und : V.under H3.length b2 = true := (hM.sl (.there .here)).under
    refine goM ?_
    refine wq_late ?_
    have np := no_pend (T := T) H3
    repeat (first | (refine e_pl ?_; refine e_goM ?_) | refine e_nil ?_)
    refine e_lateG np und ?_
    clear np
    refine e_np (one_pend (pend_box (off := 1) hM .here T27 rfl rfl)) fun np => ?_
    repeat (first | (refine e_pl ?_; refine e_goM ?_) | refine e_nil ?_)
    refine e_lateG np (v := .agg [.int .i64 qk.r, .int .i64 qk.m]) rfl ?_
    clear np
    refine e_np (two_pend (pend_boxS (off := 2) hM .here T43 rfl rfl rfl) (pend_box (off := 1) hM .here T27 rfl rfl)) fun np => ?_
    repeat (first | (refine e_pl ?_; refine e_goM ?_) | (refine e_gd ?_; first | refine e_onG ?_ | refine e_offG ?_))
    refine e_stM st4 ⟨two_pend (pend_boxS (off := 2) hM4 .here T43 rfl rfl rfl) (pend_box (off := 1) hM4 .here T27 rfl rfl), ?_⟩
    clear np
    refine e_np (two_pend (pend_boxS (off := 2) hM4 .here T43 rfl rfl rfl) (pend_box (off := 1) hM4 .here T27 rfl rfl)) fun np => ?_
    repeat (first | (refine e_pl ?_; refine e_goM ?_) | refine e_nil ?_)
    refine e_stM st5 ⟨two_pend (pend_boxS (off := 2) hM5 .here T43 rfl rfl rfl) (pend_box (off := 1) hM5 .here T27 rfl rfl), ?_⟩
    clear np
    refine e_np (two_pend (pend_boxS (off := 2) hM5 .here T43 rfl rfl rfl) (pend_box (off := 1) hM5 .here T27 rfl rfl)) fun np => ?_
    repeat (first | (refine e_pl ?_; refine e_goM ?_) | refine e_nil ?_)
    refine e_stM st6 ⟨two_pend (pend_boxS (off := 2) hM6 .here T43 rfl rfl rfl) (pend_box (off := 1) hM6 .here T27 rfl rfl), ?_⟩
    clear np
    refine e_np (two_pend (pend_boxS (off := 2) hM6 .here T43 rfl rfl rfl) (pend_box (off := 1) hM6 .here T27 rfl rfl)) fun np => ?_
    repeat (first | (refine e_pl ?_; refine e_goM ?_) | refine e_nil ?_)
    refine e_stM st7 ⟨two_pend (pend_boxS (off := 2) hM7 .here T43 rfl rfl rfl) (pend_box (off := 1) hM7 .here T27 rfl rfl), ?_⟩
    clear np
    refine e_np (two_pend (pend_boxS (off := 2) hM7 .here T43 rfl rfl rfl) (pend_box (off := 1) hM7 .here T27 rfl rfl)) fun np => ?_
    repeat (first | (refine e_pl ?_; refine e_goM ?_) | refine e_nil ?_)
    clear np
    clear hM l0 l5 l6
    have hM := hM7
    refine goM ?_
    refine l_stM st8 ?_
    refine goM ?_
    refine end_normal (by simp only [resRf, resRs, resR]; first | done | rfl) ⟨rfl, ⟨a, b2, ⟨qk.ws, qk.vs, qk.r, qk.m, pk.t⟩, pn + 1, qb⟩, rfl, rfl, h8.sub (by (repeat (first | exact List.Sublist.slnil | exact List.Sublist.refl _ | refine List.Sublist.cons_cons _ ?_ | refine List.Sublist.cons _ ?_)))⟩
  ·have n1 : (kd == 1) = false := by simpa using h1
   rw [if_neg h1]
   have tk : tookK c ⟨kd, (m : Int), dn, at_, ra, mo⟩ ⟨pw, pv, pk, pn, pb⟩ none = (⟨pk.ws, pk.vs, ra, mo, pk.t⟩, pb) := by
    unfold tookK
    simp only
    rw [if_neg h0, if_neg h1]
   rw [tk]
   clear tk hd h0 h1
   obtain ⟨H4, st4, hM4⟩ := path_put hM (.there .here) hp hi 2 T43 (by decide) (w := .agg [.int .i64 ra, .int .i64 mo]) (p' := ⟨pw, pv, ⟨pk.ws, pk.vs, ra, mo, pk.t⟩, pn, pb⟩) rfl rfl rfl
   have hp4 : (ps.set m ⟨pw, pv, ⟨pk.ws, pk.vs, ra, mo, pk.t⟩, pn, pb⟩)[m]? = some ⟨pw, pv, ⟨pk.ws, pk.vs, ra, mo, pk.t⟩, pn, pb⟩ := List.getElem?_set_self hml
   obtain ⟨_, _, hi', _, l5', _⟩ := path_at hM4 (by (repeat (first | exact Has.here | apply Has.there))) hp4
   rw [hi] at hi'
   cases hi'
   obtain ⟨H5, st5, hM5⟩ := path_put hM4 (.there .here) hp4 hi 5 T3 (by decide) (w := .int .i64 (pn + 1)) (p' := ⟨pw, pv, ⟨pk.ws, pk.vs, ra, mo, pk.t⟩, pn + 1, pb⟩) rfl rfl rfl
   rw [List.set_set] at hM5
   have h6 := (hM5.front (r := .ro (pack (paths ps))) (by (repeat (first | exact Take.here | apply Take.there)))).samePath (q := ⟨pw, pv, ⟨pk.ws, pk.vs, ra, mo, pk.t⟩, pn + 1, pb⟩) hp rfl rfl rfl rfl
   have h7 := (h6.front (r := .own 7 pathC u (ps.set m ⟨pw, pv, ⟨pk.ws, pk.vs, ra, mo, pk.t⟩, pn + 1, pb⟩)) (by (repeat (first | exact Take.here | apply Take.there)))).front (r := .box fb (foldC c rv u)) (by (repeat (first | exact Take.here | apply Take.there)))
   clear h6 hM5 hp hp4 hpf
   refine call_turn fit mixed hM Tryz.func70 rfl rfl rfl (by kernel_rfl) fun _ => ?_
   refine goM ?_
   refine l_stM st4 ?_
   clear hM l0 l5 l6
   have hM := hM4
   refine goM ?_
   refine l_stM st5 ?_
   refine goM ?_
   refine end_normal (by simp only [resRf, resRs, resR]; first | done | rfl) ⟨rfl, ⟨pw, pv, ⟨pk.ws, pk.vs, ra, mo, pk.t⟩, pn + 1, pb⟩, rfl, rfl, h7.sub (by (repeat (first | exact List.Sublist.slnil | exact List.Sublist.refl _ | refine List.Sublist.cons_cons _ ?_ | refine List.Sublist.cons _ ?_)))⟩
theorem controlScores_ (H : Heap) (s : St) (rv mv ev sv : V) (xs : List MR) (ha : StAt H rv mv ev sv xs s) (hf : s.Fit) :
  ∃ w H', Call Tryz.prog 26 [.agg (stC s.c rv mv ev sv)] H w H' ∧ ∃ u, w = .tup [u, .int .i64 (scoresR s).2] ∧ Mem H H' [.own 1 intC u (scoresR s).1] := by
 have s1 : rv.cells = [rv] ∧ rv.isTup = false := by obtain ⟨_, h, _⟩ := ha.rows; exact h.cells
 have s2 := ha.ms.cells
 have s3 := ha.es.cells
 have s4 := ha.st.cells
 refine call_mem fit mixed Tryz.func26 rfl rfl rfl (by kernel_rfl) fun hM => ?_
 refine wq_seq (wq_line ?_)
 refine l_boxM T33 fun b1 H1 hM => ?_
 have c1 := controlMay_ H1 s rv mv ev sv xs (ha.mono hM.pre) hf
 unfold scoresR
 obtain ⟨q, hq⟩ : ∃ q, stateMay s = q := ⟨_, rfl⟩
 rw [hq] at c1 ⊢
 cases q with
 | false =>
  rw [if_neg (by decide)]
  refine goM ?_
  refine l_callG c1 ?_
  refine goM ?_
  exact end_2 (by first | exact .inl rfl | exact .inr rfl) ⟨.nils, rfl, (hM.sub (L' := []) (by (repeat (first | exact List.Sublist.slnil | exact List.Sublist.refl _ | refine List.Sublist.cons_cons _ ?_ | refine List.Sublist.cons _ ?_)))).nil 1 intC⟩
 | true =>
  rw [if_pos rfl]
  obtain ⟨u, H2, c2, m2⟩ := all_ H1 b1 s rv mv ev sv xs (hM.ldA .here T26 rfl (by show 0 + 9 ≤ 12; decide) rfl) (hM.ld .here T29 rfl rfl) (ha.mono hM.pre) hf
  have s5 := (m2.sl .here).cells
  refine goM ?_
  refine l_callG c1 ?_
  refine goM ?_
  refine l_callG c2 ?_
  replace hM := hM.call1 m2
  refine goM ?_
  exact end_2 (by first | exact .inl rfl | exact .inr rfl) ⟨u, rfl, hM.subG⟩
theorem controlNew_ (H : Heap) (c : Cfg) (rv : V) (hr : Rows H rv c.rows) (hf : c.Fit) :
  ∃ w H', Call Tryz.prog 47 [.agg (cfgC c rv)] H w H' ∧ ∃ u mv sv rvs xs, w = .tup [.agg (stC (newR c).1.c u mv .nils sv), .int .i64 (newR c).2] ∧ Like rvs (newR c).1.c.rows ∧ xs.map MR.val = (newR c).1.ms ∧ Mem H H' (stOwn u mv .nils sv rvs xs (newR c).1) := by
 have l1 := hf.rows
 have l2 := hf.row
 have s0 : rv.cells = [rv] ∧ rv.isTup = false := by obtain ⟨_, h, _⟩ := hr; exact h.cells
 refine call_mem fit mixed Tryz.func47 rfl rfl rfl (by kernel_rfl) fun hM => ?_
 refine wq_seq (wq_line ?_)
 refine l_boxM T26 fun b1 H1 hM => ?_
 refine l_newM (cs := zeroSt) T33 rfl fun b2 H2 hM => ?_
 have c1 := confMay_ H2 c rv (hr.mono hM.pre) (by omega) (fun r hr => by have := l2 r hr; omega)
 unfold newR
 cases hc : cfgMay c with
 | false =>
  rw [hc] at c1
  rw [if_neg (by decide)]
  clear hc
  refine goM ?_
  refine l_callG c1 ?_
  refine goM ?_
  refine l_putM T33 fun H3 hM => ?_
  refine goM ?_
  exact end_2 (by first | exact .inl rfl | exact .inr rfl) ⟨.nils, .nils, .nils, [], [], rfl, ⟨rfl, by simp⟩, rfl, (no_state (H := H3)).low' hM.pre⟩
 | true =>
  rw [hc] at c1
  rw [if_pos rfl]
  obtain ⟨hm2, _⟩ := cfgMay_split hc
  obtain ⟨n, hn⟩ : ∃ n : Nat, c.m = n := ⟨c.m.toNat, by omega⟩
  have hn8 : n ≤ 8 := by omega
  have hlt : ∀ k : Nat, k < n → firstOk c k = true := fun k h => firstR_of hc (by omega)
  have hnew := fun i h => (new_ok hc i h).1
  have hnat : c.m.toNat = n := by omega
  have hS : newS c = ⟨c, (newF c n).1, [], (newF c n).2⟩ := by unfold newS; rw [hnat]
  rw [hS]
  clear hS hnat
  replace hn : Held (c.m = n) := hn
  refine goM ?_
  refine l_callG c1 ?_
  clear c1
  refine goM ?_
  obtain ⟨_, H3, c1, u, rvs, rfl, hlk, m1⟩ := configCopy_ H2 c rv (hr.mono hM.pre) hf
  refine l_callG c1 ?_
  have s1 : u.cells = [u] ∧ u.isTup = false := by obtain ⟨_, h, _⟩ := rows_pack (m1.fact .here) hlk; exact h.cells
  replace hM := hM.call1 m1
  clear c1 m1
  refine goM ?_
  refine l_newM (cs := zeroSt) T33 rfl fun b4 H4 hM => ?_
  refine l_putM T33 fun H5 hM => ?_
  refine goM ?_
  have hM0 : Mem H H5 [.box b4 (stC c u .nils .nils .nils), .ro (pack (mems [])), .own 6 mrC .nils [], .own 3 entC .nils [], .ro (pack (rowsR u rvs c.rows)), .box b2 zeroSt, .box b1 (cfgC c rv)] := by
   have h1 := Mem.packed (L := []) ((hM.nil 3 entC).nil 6 mrC)
   exact (h1.front (r := .box b4 (stC c u .nils .nils .nils)) (.there (.there (.there .here)))).sub (by (repeat (first | exact List.Sublist.slnil | exact List.Sublist.refl _ | refine List.Sublist.cons_cons _ ?_ | refine List.Sublist.cons _ ?_)))
  refine wq_loop (fun cc ρ h => ∃ (k : Nat) (mv sv : V) (xs : List MR), k ≤ n ∧ cc = n - k ∧ xs.map MR.val = (newF c k).1 ∧ Mem H h [.box b4 (stC c u mv .nils sv), .ro (pack (mems xs)), .own 6 mrC mv xs, .own 3 entC sv (newF c k).2, .ro (pack (rowsR u rvs c.rows)), .box b2 zeroSt, .box b1 (cfgC c rv)] ∧ ρ 1 = .ptr b1 0 ∧ ρ 2 = .ptr b2 0 ∧ ρ 4 = .ptr b4 0 ∧ ρ 17 = .int .i64 (n : Int) ∧ ρ 18 = .int .i64 (k : Int)) ⟨0, .nils, .nils, [], Nat.zero_le _, rfl, rfl, hM0, by have hn' : c.m = n := hn; simp [put_app, put_none, rho0_app, *]⟩ ?_
  repeat clear hM
  clear hM0
  rintro _ ρ h ⟨k, mv, sv, xs, hk, rfl, hval, hM, g1, g2, g4, g17, g18⟩
  have t1 := (hM.sl (v := mv) (xs := xs) (by (repeat (first | exact Has.here | apply Has.there)))).cells
  have t2 := (hM.sl (v := sv) (xs := (newF c k).2) (by (repeat (first | exact Has.here | apply Has.there)))).cells
  have hxl : xs.length = k := by rw [← List.length_map (f := MR.val), hval]; exact (hnew k (by omega)).len
  have hsl := (hnew k (by omega)).stl
  refine goM ?_
  refine cond_go (fun hb => ?_) (fun hb => ?_)
  ·have hk' : k < n := by simpa using hb
   clear hb
   have hw := wrap_succ (n := k) (by omega)
   obtain ⟨_, H6, c1, a, b', rfl, m1⟩ := member_First h c rv k (hr.mono hM.pre) hf
   have hfk : firstKR c k = firstK c k := by unfold firstKR; rw [if_pos (hlt k hk')]
   have hfs : strOf (firstSR c k) = textK (firstK c k) := by unfold firstSR; rw [if_pos (hlt k hk')]; rfl
   have hfe : firstER c k = 0 := by unfold firstER; rw [if_pos (hlt k hk')]
   rw [hfk] at m1
   rw [hfk, hfs, hfe] at c1
   have s3 := (m1.sl .here).cells
   have s4 := (m1.sl (.there .here)).cells
   have hsucc : newF c (k + 1) = ((newF c k).1 ++ [(firstK c (k : Int), (putS (newF c k).2 (textK (firstK c (k : Int)))).2.1)], (putS (newF c k).2 (textK (firstK c (k : Int)))).1) := rfl
   clear hfk hfs hfe
   generalize hK : firstK c (k : Int) = K at *
   refine goM ?_
   refine l_callG c1 ?_
   replace hM := hM.call2 m1
   clear c1 m1
   refine goM ?_
   refine l_newM (cs := zeroMem) T51 rfl fun b6 H7 hM => ?_
   refine l_putM T51 fun H8 hM => ?_
   refine goM ?_
   obtain ⟨_, H9, c1, sv', rfl, m1⟩ := put15_ H8 sv (newF c k).2 (textK K) (hM.sl (v := sv) (xs := (newF c k).2) (by (repeat (first | exact Has.here | apply Has.there)))) (by omega)
   refine l_callG c1 ?_
   have s5 := (m1.sl .here).cells
   replace hM := hM.call1 m1
   clear c1 m1
   generalize putS (newF c k).2 (textK K) = o at *
   obtain ⟨st', id', er'⟩ := o
   simp only at hsucc hM ⊢
   refine goM ?_
   refine l_putM T31 fun H10 hM => ?_
   refine goM ?_
   refine l_putM T3 fun H11 hM => ?_
   refine goM ?_
   refine l_sliceM mrC [⟨a, b', K, id'⟩] (mC a b' K id') T29 rfl T51 rfl (cells_mrs [⟨a, b', K, id'⟩]) (by decide) fun e1 H12 hM => ?_
   refine goM ?_
   refine l_appM (hM.sl .here) (xs := xs) (hh := by (repeat (first | exact Has.here | apply Has.there))) (hb := by rw [hxl]; show (k + 1) * 80 ≤ _ ∧ k + 1 ≤ _; omega) fun mv' H13 hM => ?_
   have s6 := (hM.sl (v := mv') (xs := xs ++ [⟨a, b', K, id'⟩]) (by (repeat (first | exact Has.here | apply Has.there)))).cells
   refine goM ?_
   refine l_putM T29 fun H14 hM => ?_
   refine goM ?_
   have h1 := ((hM.front (r := .ro (pack (mems xs))) (by (repeat (first | exact Take.here | apply Take.there)))).front (r := .own 1 intC b' K.vs) (by (repeat (first | exact Take.here | apply Take.there)))).front (r := .own 1 intC a K.ws) (by (repeat (first | exact Take.here | apply Take.there)))
   have h2 := Mem.memsMore (x := ⟨a, b', K, id'⟩) h1
   have h3 := (((h2.front (r := .own 3 entC sv' st') (by (repeat (first | exact Take.here | apply Take.there)))).front (r := .own 6 mrC mv' (xs ++ [⟨a, b', K, id'⟩])) (by (repeat (first | exact Take.here | apply Take.there)))).front (r := .ro (pack (mems (xs ++ [⟨a, b', K, id'⟩])))) (by (repeat (first | exact Take.here | apply Take.there)))).front (r := .box b4 (stC c u mv' .nils sv')) (by (repeat (first | exact Take.here | apply Take.there)))
   refine ⟨n - (k + 1), by omega, k + 1, mv', sv', xs ++ [⟨a, b', K, id'⟩], hk', rfl, ?_, ?_, by simp [put_app, put_none, *]⟩
   ·rw [hsucc, List.map_append, hval]; rfl
   ·rw [hsucc]
    exact h3.sub (by (repeat (first | exact List.Sublist.slnil | exact List.Sublist.refl _ | refine List.Sublist.cons_cons _ ?_ | refine List.Sublist.cons _ ?_)))
  ·have hk' : k = n := by have : ¬ k < n := by simpa using hb
                          omega
   subst hk'
   clear hb
   refine goM ?_
   refine l_putM T33 fun H6 hM => ?_
   refine goM ?_
   refine end_2 (by first | exact .inl rfl | exact .inr rfl) ⟨u, mv, sv, rvs, xs, rfl, hlk, hval, ?_⟩
   have h1 := ((hM.front (r := .own 3 entC sv (newF c k).2) (by (repeat (first | exact Take.here | apply Take.there)))).nil 6 evC)
   exact (((h1.front (r := .own 6 mrC mv xs) (by (repeat (first | exact Take.here | apply Take.there)))).front (r := .ro (pack (mems xs))) (by (repeat (first | exact Take.here | apply Take.there)))).front (r := .ro (pack (rowsR u rvs c.rows))) (by (repeat (first | exact Take.here | apply Take.there)))).sub (by unfold stOwn; (repeat (first | exact List.Sublist.slnil | exact List.Sublist.refl _ | refine List.Sublist.cons_cons _ ?_ | refine List.Sublist.cons _ ?_)))
theorem newP_ (H : Heap) (c : Cfg) (rv : V) (hr : Rows H rv c.rows) (hf : c.Fit) : ∃ w H', Call Tryz.prog 47 [.agg (cfgC c rv)] H w H' ∧ AnsS H (newR c) w H' := by
 obtain ⟨w, H', h, u, mv, sv, rvs, xs, rfl, h1, h2, h3⟩ := controlNew_ H c rv hr hf
 exact ⟨_, H', h, ⟨u, mv, .nils, sv, rvs, xs⟩, rfl, ⟨h1, h2⟩, h3.svN⟩
theorem sumT_nonneg : ∀ (ms : List (Chk × Int)), (∀ m ∈ ms, 0 ≤ m.1.t) → 0 ≤ sumT ms
 | [], _ => Int.le_refl _
 | a :: ms, h => by
  have := sumT_nonneg ms fun m hm => h m (List.mem_cons_of_mem _ hm)
  have h1 := h a (List.mem_cons_self ..)
  show 0 ≤ a.1.t + sumT ms
  omega
theorem runSt_new {c : Cfg} (hc : cfgMay c = true) : RunSt c (newS c) := by
 refine ⟨stOk_of (newS_may hc), rfl, ?_⟩
 have := sumT_nonneg (newS c).ms fun m hm => (span_k ((stOk_of (newS_may hc)).fits m hm)).1
 show ((0 : Nat) : Int) ≤ _
 omega
def runO (c : Cfg) (ps : List Int) : Option St := ps.foldlM stepO (newS c)
def runOk (c : Cfg) (ps : List Int) : Bool := cfgMay c && decide (ps.length ≤ 256)
def runR (c : Cfg) (ps : List Int) : St × Int := if runOk c ps = true then (match runO c ps with | none => (noSt, 2501) | some s => (s, 0)) else (noSt, 2500)
theorem runO_snoc (c : Cfg) (ps : List Int) (x : Int) : runO c (ps ++ [x]) = (runO c ps).bind fun s => stepO s x := by
 unfold runO
 rw [List.foldlM_append]
 show (List.foldlM stepO (newS c) ps >>= fun s => (stepO s x >>= fun t => pure t)) = _
 simp
theorem runO_step {c : Cfg} {ps : List Int} {k : Nat} {x : Int} (h : ps[k]? = some x) : runO c (ps.take (k + 1)) = (runO c (ps.take k)).bind fun s => stepO s x := by
 rw [List.take_add_one, h]
 exact runO_snoc c _ x
theorem runO_none {c : Cfg} {ps : List Int} {k : Nat} (h : runO c (ps.take k) = none) : runO c ps = none := by
 have : runO c (ps.take k ++ ps.drop k) = none := by
  unfold runO at h ⊢
  rw [List.foldlM_append, h]; rfl
 rwa [List.take_append_drop] at this
theorem runSt_step {c : Cfg} {s t : St} (h : RunSt c s) {x : Int} (hs : stepO s x = some t) : RunSt c t ∧ t.es.take s.es.length = s.es := by
 rcases step_cases h x with ⟨p, o, rfl, pk, _, e⟩ | ⟨p, o, rfl, _, _, _, e⟩ | ⟨_, _, e⟩
 ·rw [e] at hs; cases hs
  exact ⟨runSt_do h pk, (do_turned pk).same⟩
 ·rw [e] at hs; cases hs
  exact ⟨h, List.take_length⟩
 ·rw [e] at hs; cases hs
theorem run_all {c : Cfg} : ∀ (ps : List Int) (s t : St), RunSt c s → ps.foldlM stepO s = some t → RunSt c t ∧ s.es.length ≤ t.es.length ∧ t.es.take s.es.length = s.es
 | [], s, t, h, e => by
  cases e
  exact ⟨h, Nat.le_refl _, List.take_length⟩
 | x :: ps, s, t, h, e => by
  rw [List.foldlM_cons] at e
  cases hx : stepO s x with
  | none => rw [hx] at e; cases e
  | some u =>
   rw [hx] at e
   obtain ⟨h1, h2⟩ := runSt_step h hx
   obtain ⟨h3, h4, h5⟩ := run_all ps u t h1 e
   have hlu : s.es.length ≤ u.es.length := by
    have := congrArg List.length h2
    rw [List.length_take] at this
    omega
   refine ⟨h3, by omega, ?_⟩
   have := congrArg (List.take s.es.length) h5
   rw [List.take_take, Nat.min_eq_left hlu, h2] at this
   exact this
theorem runO_ok {c : Cfg} (hc : cfgMay c = true) {ps : List Int} {s : St} (h : runO c ps = some s) : RunSt c s := (run_all ps _ _ (runSt_new hc) h).1
theorem run_goes {c : Cfg} : ∀ (ps : List Int) (s : St), RunSt c s → (∀ x ∈ ps, 0 ≤ x ∧ x < c.m) → ∃ t, ps.foldlM stepO s = some t
 | [], s, _, _ => ⟨s, rfl⟩
 | x :: ps, s, h, hx => by
  have h1 := hx x (List.mem_cons_self ..)
  have go : ∀ u, stepO s x = some u → ∃ t, (x :: ps).foldlM stepO s = some t := fun u hu => by
   rw [List.foldlM_cons, hu]
   exact run_goes ps u (runSt_step h hu).1 fun y hy => hx y (List.mem_cons_of_mem _ hy)
  rcases step_cases h x with ⟨p, o, rfl, pk, _, e⟩ | ⟨p, o, rfl, _, _, _, e⟩ | ⟨ho, _, e⟩
  ·exact go _ e
  ·exact go _ e
  ·omega
def tAt (s : St) (q : Nat) : Int := (msAt s.ms q).1.t
theorem tAt_some {s : St} {q : Nat} {o : Chk × Int} (h : s.ms[q]? = some o) : tAt s q = o.1.t := by unfold tAt; rw [msAt_some h]
theorem tAt_le {s : St} (h : StOk s) {q : Nat} (hq : q < s.ms.length) : tAt s q ≤ s.c.total := by
 have e := List.getElem?_eq_getElem hq
 rw [tAt_some e]
 exact h.tot _ (List.mem_of_getElem? e)
theorem doS_at {s : St} {p : Nat} {o : Chk × Int} (h : Picks s p o) : (doS s p).ms[p]? = some (chk2 s p, head2 s p) ∧ (chk2 s p).t = o.1.t + 1 := by
 have hl := (List.getElem?_eq_some_iff.1 h.at_).1
 have e : (doS s p).ms[p]? = some (chk2 s p, head2 s p) := List.getElem?_set_self hl
 exact ⟨e, by rw [chk2_t]; exact (trained h.ok h.at_ h.t).2.1⟩
theorem step_t {c : Cfg} {s u : St} (h : RunSt c s) {x : Int} (hs : stepO s x = some u) {q : Nat} (hq : q < s.ms.length) : tAt u q = if x = (q : Int) then min c.total (tAt s q + 1) else tAt s q := by
 have eq := List.getElem?_eq_getElem hq
 rcases step_cases h x with ⟨p, o, rfl, pk, _, e⟩ | ⟨p, o, rfl, ho, ht, _, e⟩ | ⟨_, _, e⟩
 ·rw [e] at hs; cases hs
  obtain ⟨e1, e2⟩ := doS_at pk
  have := (trained pk.ok pk.at_ pk.t).2.2.1
  rw [h.c] at this
  by_cases hpq : p = q
  ·subst hpq
   rw [if_pos rfl, tAt_some e1, tAt_some pk.at_]
   simp only
   omega
  ·rw [if_neg (by omega), tAt_some ((do_turned pk).rest q (Ne.symm hpq) |>.trans eq), tAt_some eq]
 ·rw [e] at hs; cases hs
  rw [h.c] at ht
  by_cases hpq : p = q
  ·subst hpq
   rw [if_pos rfl, tAt_some ho]; omega
  ·rw [if_neg (by omega)]
 ·rw [e] at hs; cases hs
theorem step_len {c : Cfg} {s u : St} (h : RunSt c s) {x : Int} (hs : stepO s x = some u) : u.ms.length = s.ms.length := by
 have h1 := (runSt_step h hs).1
 have e1 := h1.ok.len
 have e2 := h.ok.len
 rw [h1.c] at e1
 rw [h.c] at e2
 omega
def timesIn (q : Nat) (ps : List Int) : Nat := (ps.filter fun x => decide (x = (q : Int))).length
theorem run_t {c : Cfg} : ∀ (ps : List Int) (s t : St), RunSt c s → ps.foldlM stepO s = some t → ∀ q, q < s.ms.length → tAt t q = min c.total (tAt s q + timesIn q ps)
 | [], s, t, h, e, q, hq => by
  cases e
  have := tAt_le h.ok hq
  rw [h.c] at this
  simp [timesIn]; omega
 | x :: ps, s, t, h, e, q, hq => by
  rw [List.foldlM_cons] at e
  cases hx : stepO s x with
  | none => rw [hx] at e; cases e
  | some u =>
   rw [hx] at e
   have ih := run_t ps u t (runSt_step h hx).1 e q (by rw [step_len h hx]; exact hq)
   rw [ih, step_t h hx hq]
   have hle := tAt_le h.ok hq
   rw [h.c] at hle
   unfold timesIn
   rw [List.filter_cons]
   by_cases hxq : x = (q : Int)
   ·simp only [hxq, decide_true, if_true, List.length_cons]
    omega
   ·simp only [hxq, decide_false, if_false, Bool.false_eq_true]
def sweepR (s : St) : St × Int := if stateMay s = true then (sweptS s, 0) else (noSt, 2500)
theorem swept_ok {s : St} (h : StOk s) : StOk (sweptS s) := by
 have hs := store_filter h.st (fun e => decide (e.n ≠ 0))
 refine ⟨h.c, h.len, h.fits, h.tot, h.es, hs, fun m hm => ?_, fun e he => h.held e (List.mem_filter.1 he).1⟩
 obtain ⟨e, he, e1, e2⟩ := getS_mem (h.head m hm)
 have hp : 1 ≤ countOf s.ms m.2 := countOf_pos hm
 have hn : e.n ≠ 0 := by have := h.held e he; rw [e1] at this; omega
 have := get_mem hs (List.mem_filter.2 ⟨he, by simpa using hn⟩)
 rw [e1, e2] at this
 exact this
theorem runSt_swept {c : Cfg} {s : St} (h : RunSt c s) : RunSt c (sweptS s) := ⟨swept_ok h.ok, h.c, h.evs⟩
theorem newPQ_ {c : Cfg} {a : St} {e : Int} (h : newR c = (a, e)) (H : Heap) (rv : V) (hr : Rows H rv c.rows) (hf : c.Fit) : ∃ w H', Call Tryz.prog 47 [.agg (cfgC c rv)] H w H' ∧ ∃ q : SV, w = .tup [.agg (q.c a), .int .i64 e] ∧ q.Ok a ∧ Mem H H' [q.own a] := by
 have := newP_ H c rv hr hf
 rw [h] at this
 exact this
theorem ansS_bad {B H' : Heap} {L : List Res} {r : St × Int} {e : Int} (hM : Mem B H' L) (hr : r = (noSt, e)) : AnsS B r (.tup [.agg zeroSt, .int .i64 e]) H' := by
 rw [hr]
 exact ⟨⟨.nils, .nils, .nils, .nils, [], []⟩, rfl, no_ok, (no_own H').low' hM.pre⟩
theorem runR_bad {c : Cfg} {ps : List Int} (h : runOk c ps = false) : runR c ps = (noSt, 2500) := by unfold runR; rw [h, if_neg (by decide)]
theorem runOk_of {c : Cfg} {ps : List Int} (h1 : cfgMay c = true) (h2 : ps.length ≤ 256) : runOk c ps = true := by unfold runOk; rw [h1, decide_eq_true h2]; rfl
theorem newR_may {c : Cfg} (h : cfgMay c = true) : newR c = (newS c, 0) := by unfold newR; rw [h, if_pos rfl]
theorem newR_not {c : Cfg} (h : cfgMay c = false) : newR c = (noSt, 2200) := by unfold newR; rw [h, if_neg (by decide)]
theorem runP_ (H : Heap) (c : Cfg) (rv pv : V) (ps : List Int) (hr : Rows H rv c.rows) (cf : c.Fit) (hp : Sl 1 intC H pv ps) (hl : ps.length ≤ 2 ^ 47) :
  ∃ w H', Call Tryz.prog 19 [.agg (cfgC c rv), pv] H w H' ∧ AnsS H (runR c ps) w H' := by
 have s0 : rv.cells = [rv] ∧ rv.isTup = false := by obtain ⟨_, h, _⟩ := hr; exact h.cells
 have hlen := hp.len T27 rfl
 obtain ⟨n, hn⟩ : ∃ n, ps.length = n := ⟨_, rfl⟩
 rw [hn] at hlen
 refine call_mem fit mixed Tryz.func19 rfl rfl rfl (by kernel_rfl) fun hM => ?_
 refine wq_seq (wq_line ?_)
 refine l_boxM T26 fun b2 H1 hM => ?_
 refine l_newM (cs := zeroSt) T33 rfl fun b4 H2 hM => ?_
 cases hc : cfgMay c with
 | false =>
  have hn := newR_not hc
  have hbad := runR_bad (ps := ps) (show runOk c ps = false by unfold runOk; rw [hc]; rfl)
  refine goM ?_
  obtain ⟨_, H3, c1, q, rfl, k1, m1⟩ := newPQ_ hn H2 rv (hr.mono hM.pre) cf
  refine l_callG c1 ?_
  replace hM := hM.call1 m1
  clear c1 m1 hn hc
  refine goM ?_
  refine l_newM (cs := zeroSt) T33 rfl fun b6 H4 hM => ?_
  refine l_putM T33 fun H5 hM => ?_
  refine goM ?_
  refine l_putM T33 fun H6 hM => ?_
  refine goM ?_
  exact end_2 (by first | exact .inl rfl | exact .inr rfl) (ansS_bad hM hbad)
 | true =>
  have hne := newR_may hc
  have nf := newR_fit cf
  rw [hne] at nf
  simp only at nf
  refine goM ?_
  obtain ⟨_, H3, c1, q, rfl, k1, m1⟩ := newPQ_ hne H2 rv (hr.mono hM.pre) cf
  refine l_callG c1 ?_
  replace hM := hM.call1 m1
  clear c1 m1 hne
  refine goM ?_
  refine l_newM (cs := zeroSt) T33 rfl fun b6 H4 hM => ?_
  refine l_putM T33 fun H5 hM => ?_
  by_cases h256 : n ≤ 256
  ·have d1 : decide ((n : Int) > 256) = false := decide_eq_false (by omega)
   have hok := runOk_of hc (ps := ps) (by omega)
   have hrn : ∀ {s}, runO c ps = some s → runR c ps = (s, 0) := fun h => by unfold runR; rw [hok, if_pos rfl, h]
   have hrx : runO c ps = none → runR c ps = (noSt, 2501) := fun h => by unfold runR; rw [hok, if_pos rfl, h]
   have hM0 : Mem H H5 [.box b6 (q.c (newS c)), q.own (newS c), .box b4 zeroSt] := hM.subG
   have hr0 := runSt_new hc
   clear hok
   refine goM ?_
   refine wq_loop (fun cc ρ h => ∃ (k : Nat) (s : St) (q : SV), k ≤ n ∧ cc = n - k ∧ runO c (ps.take k) = some s ∧ RunSt c s ∧ s.Fit ∧ q.Ok s ∧ Mem H h [.box b6 (q.c s), q.own s, .box b4 zeroSt] ∧ ρ 4 = .ptr b4 0 ∧ ρ 6 = .ptr b6 0 ∧ ρ 25 = pv ∧ ρ 26 = .int .i64 (n : Int) ∧ ρ 27 = .int .i64 (k : Int)) ⟨0, newS c, q, Nat.zero_le _, rfl, rfl, hr0, nf, k1, hM0, by simp [put_app, put_none, rho0_app, *]⟩ ?_
   repeat clear hM
   clear hM0 hr0 nf k1 d1
   rintro _ ρ h ⟨k, s, q, hk, rfl, hrk, hrs, sf, hq, hM, g4, g6, g25, g26, g27⟩
   refine goM ?_
   refine cond_go (fun hb => ?_) (fun hb => ?_)
   ·have hk' : k < n := by simpa using hb
    clear hb
    obtain ⟨x, hx⟩ : ∃ x, ps[k]? = some x := ⟨ps[k]'(by omega), by simp⟩
    obtain ⟨bo, oo, _, ji, rfl, _, jlo, _⟩ := (hp.mono hM.pre).get T27 rfl T3 rfl hx
    have jl := loadV_one T3 rfl jlo
    have hw := wrap_succ (n := k) (by omega)
    have hstep := runO_step (c := c) hx
    rw [hrk, Option.bind_some] at hstep
    clear jlo hx hrk
    rcases step_cases hrs x with ⟨p, o, rfl, pk, hd, hs⟩ | ⟨p, o, rfl, _, _, hd, hs⟩ | ⟨_, hd, hs⟩
    ·rw [hs] at hstep
     have hrs2 := runSt_do hrs pk
     have sf2 := do_fit pk sf
     clear pk hs
     generalize doS s p = s2 at *
     refine goM ?_
     obtain ⟨_, H6, c1, q2, rfl, k2, m1⟩ := doP_ hd h (hq.at_ hM) sf
     refine l_callG c1 ?_
     replace hM := hM.call1 m1
     clear c1 m1 hd
     refine goM ?_
     refine l_newM (cs := zeroSt) T33 rfl fun b10 H7 hM => ?_
     refine l_putM T33 fun H8 hM => ?_
     refine goM ?_
     refine l_putM T33 fun H9 hM => ?_
     refine goM ?_
     exact ⟨n - (k + 1), by omega, k + 1, s2, q2, hk', rfl, hstep, hrs2, sf2, k2, ((hM.front (r := q2.own s2) (by (repeat (first | exact Take.here | apply Take.there)))).front (r := .box b6 (q2.c s2)) (by (repeat (first | exact Take.here | apply Take.there)))).sub (by (repeat (first | exact List.Sublist.slnil | exact List.Sublist.refl _ | refine List.Sublist.cons_cons _ ?_ | refine List.Sublist.cons _ ?_))), by simp [put_app, put_none, *]⟩
    ·rw [hs] at hstep
     clear hs
     refine goM ?_
     obtain ⟨_, H6, c1, q2, rfl, k2, m1⟩ := doP_ hd h (hq.at_ hM) sf
     refine l_callG c1 ?_
     replace hM := hM.call1 m1
     clear c1 m1 hd
     refine goM ?_
     refine l_newM (cs := zeroSt) T33 rfl fun b10 H7 hM => ?_
     refine l_putM T33 fun H8 hM => ?_
     refine goM ?_
     exact ⟨n - (k + 1), by omega, k + 1, s, q, hk', rfl, hstep, hrs, sf, hq, hM.subG, by simp [put_app, put_none, *]⟩
    ·rw [hs] at hstep
     have hno := hrx (runO_none hstep)
     clear hs hstep hrx
     refine goM ?_
     obtain ⟨_, H6, c1, q2, rfl, k2, m1⟩ := doP_ hd h (hq.at_ hM) sf
     refine l_callG c1 ?_
     replace hM := hM.call1 m1
     clear c1 m1 hd
     refine goM ?_
     refine l_newM (cs := zeroSt) T33 rfl fun b10 H7 hM => ?_
     refine l_putM T33 fun H8 hM => ?_
     refine goM ?_
     refine l_putM T33 fun H9 hM => ?_
     refine goM ?_
     exact end_2 (by first | exact .inl rfl | exact .inr rfl) (ansS_bad hM hno)
   ·have hk' : k = n := by have : ¬ k < n := by simpa using hb
                           omega
    clear hb
    rw [List.take_of_length_le (by omega)] at hrk
    have hend := hrn hrk
    clear hrk hrx hk
    refine goM ?_
    refine l_putM T33 fun H6 hM => ?_
    refine goM ?_
    refine end_2 (by first | exact .inl rfl | exact .inr rfl) ?_
    rw [hend]
    exact ⟨q, rfl, hq, hM.subG⟩
  ·have d1 : decide ((n : Int) > 256) = true := decide_eq_true (by omega)
   have hbad := runR_bad (c := c) (ps := ps) (by unfold runOk; rw [decide_eq_false (by omega), Bool.and_false])
   clear h256 hc
   refine goM ?_
   refine l_putM T33 fun H6 hM => ?_
   refine goM ?_
   exact end_2 (by first | exact .inl rfl | exact .inr rfl) (ansS_bad hM hbad)
theorem sweepR_may {s : St} (h : stateMay s = true) : sweepR s = (sweptS s, 0) := by unfold sweepR; rw [h, if_pos rfl]
theorem sweepR_not {s : St} (h : stateMay s = false) : sweepR s = (noSt, 2500) := by unfold sweepR; rw [h, if_neg (by decide)]
theorem sweepP_ (H : Heap) (s : St) (rv mv ev sv : V) (xs : List MR) (ha : StAt H rv mv ev sv xs s) (hf : s.Fit) :
  ∃ w H', Call Tryz.prog 44 [.agg (stC s.c rv mv ev sv)] H w H' ∧ AnsS H (sweepR s) w H' := by
 obtain ⟨z1, z2, z3, z4⟩ := ha.celled
 refine call_mem fit mixed Tryz.func44 rfl rfl rfl (by kernel_rfl) fun hM => ?_
 refine wq_seq (wq_line ?_)
 refine l_boxM T33 fun b1 H1 hM => ?_
 refine l_newM (cs := zeroSt) T33 rfl fun b2 H2 hM => ?_
 have c1 := controlMay_ H2 s rv mv ev sv xs (ha.mono hM.pre) hf
 cases hm : stateMay s with
 | false =>
  rw [hm] at c1
  have hbad := sweepR_not hm
  clear hm
  refine goM ?_
  refine l_callG c1 ?_
  refine goM ?_
  refine l_putM T33 fun H3 hM => ?_
  refine goM ?_
  exact end_2 (by first | exact .inl rfl | exact .inr rfl) (ansS_bad hM hbad)
 | true =>
  rw [hm] at c1
  have hok := stOk_of hm
  have hres := sweepR_may hm
  have hsl := hok.st.len
  obtain ⟨_, H3, c2, u, mv1, ev1, sv1, rvs, ys, rfl, hlk, hval, m1⟩ := controlCopy_ H2 s rv mv ev sv xs (ha.mono hM.pre) hf (by omega)
  have hat := st_at (L := []) (by simpa using m1) hlk hval
  obtain ⟨q1, q2, q3, q4⟩ := hat.celled
  clear hm hat
  refine goM ?_
  refine l_callG c1 ?_
  refine goM ?_
  refine l_callG c2 ?_
  replace hM : Mem H H3 (stOwn u mv1 ev1 sv1 rvs ys s ++ _) := hM.call m1
  clear c1 c2 m1
  unfold stOwn at hM
  simp only [List.cons_append, List.nil_append] at hM
  refine goM ?_
  refine l_newM (cs := zeroSt) T33 rfl fun b4 H4 hM => ?_
  refine l_putM T33 fun H5 hM => ?_
  refine goM ?_
  obtain ⟨_, H6, c1, x, rfl, m1⟩ := sweep15_ H5 sv1 s.st (hM.sl (v := sv1) (xs := s.st) (by (repeat (first | exact Has.here | apply Has.there)))) (by omega)
  rw [sweep_ok hok.st] at c1 m1
  simp only at c1 m1
  have t1 := (m1.sl .here).cells
  refine l_callG c1 ?_
  replace hM := hM.call1 m1
  clear c1 m1
  refine goM ?_
  refine l_putM T31 fun H7 hM => ?_
  refine goM ?_
  refine l_putM T33 fun H8 hM => ?_
  refine goM ?_
  refine end_2 (by first | exact .inl rfl | exact .inr rfl) ?_
  rw [hres]
  have h1 := ((hM.front (r := .own 3 entC x (s.st.filter fun e => decide (e.n ≠ 0))) (by (repeat (first | exact Take.here | apply Take.there)))).front (r := .own 6 evC ev1 s.es) (by (repeat (first | exact Take.here | apply Take.there)))).front (r := .own 6 mrC mv1 ys) (by (repeat (first | exact Take.here | apply Take.there)))
  have h2 := (h1.front (r := .ro (pack (mems ys))) (by (repeat (first | exact Take.here | apply Take.there)))).front (r := .ro (pack (rowsR u rvs s.c.rows))) (by (repeat (first | exact Take.here | apply Take.there)))
  exact ⟨⟨u, mv1, ev1, x, rvs, ys⟩, rfl, ⟨hlk, hval⟩, Mem.svN (s := sweptS s) (h2.sub (by unfold stOwn; (repeat (first | exact List.Sublist.slnil | exact List.Sublist.refl _ | refine List.Sublist.cons_cons _ ?_ | refine List.Sublist.cons _ ?_))))⟩
def Folds (s : St) : Prop := ∀ (q : Nat) m, s.ms[q]? = some m → nowH (foldH s.c s.es) (q : Int) = some m.1
theorem now_snoc {c : Cfg} {es : List Ev} {e : Ev} (hm : eventsMay (es ++ [e]) c.m = true) {m : Int} (h0 : 0 ≤ m) (h : m < c.m) :
  nowH (foldH c (es ++ [e])) m = if m = e.member then turnK c e (nowH (foldH c es) e.member) (if e.kind = 1 then nowH (foldH c es) e.donor else none) else nowH (foldH c es) m := by
 have := nowH_step hm (k := es.length) (e := e) (by simp) h0 h
 rw [List.take_of_length_le (by simp), List.take_left] at this
 exact this
theorem folds_new {c : Cfg} (hc : cfgMay c = true) : Folds (newS c) := fun q m hq => by
 obtain ⟨hm2, _⟩ := cfgMay_split hc
 have hl := (stOk_of (newS_may hc)).len
 have hlt := (List.getElem?_eq_some_iff.1 hq).1
 have hq2 : (q : Int) < c.m := by
  have : ((newS c).ms.length : Int) = c.m := hl
  omega
 obtain ⟨o, ho, hof⟩ := new_at hc hq2
 rw [ho] at hq
 cases hq
 have hok : firstOk c (q : Int) = true := by
  unfold firstOk
  rw [hc, wrap_m hm2, within_iff.2 ⟨by omega, by omega⟩]; rfl
 show nowH (startH c) (q : Int) = _
 unfold nowH
 rw [startH_row (by omega) hq2, hof]
 show some (firstKR c (q : Int)) = _
 unfold firstKR
 rw [if_pos hok]
theorem folds_es1 {s : St} (h : Folds s) {p : Nat} {o : Chk × Int} (hp : Picks s p o) (hm : eventsMay (es1 s p) s.c.m = true) : ∀ (q : Nat) m, (ms1 s p)[q]? = some m → nowH (foldH s.c (es1 s p)) (q : Int) = some m.1 := fun q m hq => by
 have hl := hp.ok.len
 have hpl := (List.getElem?_eq_some_iff.1 hp.at_).1
 have hql : q < s.ms.length := by
  have := (List.getElem?_eq_some_iff.1 hq).1
  simpa [ms1] using this
 unfold es1 at hm ⊢
 rw [now_snoc hm (by omega) (by omega)]
 rw [ms1_at hpl] at hq
 by_cases hqp : q = p
 ·subst hqp
  rw [if_pos rfl] at hq
  cases hq
  rw [if_pos rfl]
  simp only
  rw [h q o hp.at_]
  unfold turnK
  simp only [if_true]
  have hom := List.mem_of_getElem? hp.at_
  have ht := hp.ok.tot o hom
  have := hp.t
  rw [trainR_go hp.ok.c (by omega) (hp.ok.fits o hom) (by omega)]
  simp only [if_true]
  rw [doTrain_eq hp.at_]
 ·rw [if_neg hqp] at hq
  rw [if_neg (by simp only; omega)]
  exact h q m hq
theorem folds_do {s : St} (h : Folds s) {p : Nat} {o : Chk × Int} (hp : Picks s p o) : Folds (doS s p) := by
 have hl := hp.ok.len
 have hpl := (List.getElem?_eq_some_iff.1 hp.at_).1
 have may2 := es2_may hp.ok hp.at_ hp.room
 by_cases htk : takes s p = true
 ·obtain ⟨d, h1, h2, h3, h4⟩ := donor_at hpl htk
  have e2 : es2 s p = (es1 s p ++ [⟨1, (p : Int), (donor1 s p).1, (manyOf (es1 s p) (donor1 s p).1 : Nat), 0, 0⟩]) ++ [⟨2, p, 0, 0, (hyp2 s p).1, (hyp2 s p).2⟩] := by
   unfold es2
   rw [if_pos htk]; simp
  rw [e2] at may2
  have mid := eventsMay_take may2 ((es1 s p).length + 1)
  rw [List.take_append_of_le_length (by simp), List.take_of_length_le (by simp)] at mid
  have lo := eventsMay_take may2 (es1 s p).length
  rw [List.take_append_of_le_length (by simp), List.take_left] at lo
  have f1 := folds_es1 h hp lo
  have hdm : (ms1 s p)[d]? = some (msAt (ms1 s p) d) := by
   rw [ms1_at hpl, if_neg h3]; exact h4
  have fd := f1 d _ hdm
  have fp := f1 p (doTrain s p, (msAt s.ms p).2) (by rw [ms1_at hpl, if_pos rfl])
  intro q m hq
  have hq' : (s.ms.set p (chk2 s p, head2 s p))[q]? = some m := hq
  have hql : q < s.ms.length := by
   have := (List.getElem?_eq_some_iff.1 hq').1
   simpa using this
  show nowH (foldH s.c (es2 s p)) (q : Int) = some m.1
  rw [e2, now_snoc may2 (by omega) (by omega)]
  by_cases hqp : q = p
  ·subst hqp
   rw [List.getElem?_set_self hpl] at hq'
   cases hq'
   rw [if_pos rfl]
   simp only
   rw [now_snoc mid (by omega) (by omega), if_pos rfl]
   simp only [if_true, h1]
   rw [fp, fd]
   have hd : dChk s q = (msAt (ms1 s q) d).1 := by unfold dChk; rw [h1]; rfl
   unfold chk2
   rw [if_pos htk, hd]
   rfl
  ·rw [List.getElem?_set_ne (Ne.symm hqp)] at hq'
   rw [if_neg (by simp only; omega), now_snoc mid (by omega) (by omega), if_neg (by simp only; omega)]
   exact f1 q m (by rw [ms1_at hpl, if_neg hqp]; exact hq')
 ·have e2 : es2 s p = es1 s p := by unfold es2; rw [if_neg htk]
  rw [e2] at may2
  have f1 := folds_es1 h hp may2
  intro q m hq
  have hq' : (s.ms.set p (chk2 s p, head2 s p))[q]? = some m := hq
  show nowH (foldH s.c (es2 s p)) (q : Int) = some m.1
  rw [e2]
  by_cases hqp : q = p
  ·subst hqp
   rw [List.getElem?_set_self hpl] at hq'
   cases hq'
   have := f1 q (doTrain s q, (msAt s.ms q).2) (by rw [ms1_at hpl, if_pos rfl])
   unfold chk2
   rw [if_neg htk]
   exact this
  ·rw [List.getElem?_set_ne (Ne.symm hqp)] at hq'
   exact f1 q m (by rw [ms1_at hpl, if_neg hqp]; exact hq')
theorem folds_step {c : Cfg} {s t : St} (hs : RunSt c s) (h : Folds s) {x : Int} (hx : stepO s x = some t) : Folds t := by
 rcases step_cases hs x with ⟨p, o, rfl, pk, _, e⟩ | ⟨p, o, rfl, _, _, _, e⟩ | ⟨_, _, e⟩
 ·rw [e] at hx; cases hx
  exact folds_do h pk
 ·rw [e] at hx; cases hx
  exact h
 ·rw [e] at hx; cases hx
theorem folds_run {c : Cfg} : ∀ (ps : List Int) (s t : St), RunSt c s → Folds s → ps.foldlM stepO s = some t → Folds t
 | [], s, t, hs, h, e => by cases e; exact h
 | x :: ps, s, t, hs, h, e => by
  rw [List.foldlM_cons] at e
  cases hx : stepO s x with
  | none => rw [hx] at e; cases e
  | some u =>
   rw [hx] at e
   exact folds_run ps u t (runSt_step hs hx).1 (folds_step hs h hx) e
theorem folds_of {c : Cfg} {s : St} (hs : RunSt c s) (h : Folds s) {q : Nat} {m : Chk × Int} (hq : s.ms[q]? = some m) : foldR c s.es (q : Int) (manyOf s.es (q : Int) : Nat) = (m.1, 0) := by
 have hl := hs.ok.len
 have hql := (List.getElem?_eq_some_iff.1 hq).1
 have hc := hs.ok.c
 have hev := hs.ok.es
 rw [hs.c] at hc hev hl
 obtain ⟨hm2, _⟩ := cfgMay_split hc
 have hok : foldOk c s.es (q : Int) (manyOf s.es (q : Int) : Nat) = true := by
  unfold foldOk
  rw [hc, hev, wrap_m hm2, within_iff.2 ⟨by omega, by omega⟩, decide_eq_true (by omega), decide_eq_true (by omega)]; rfl
 have hk := foldK_now hev (id := (q : Int)) (by omega) (by omega) (i := s.es.length) (Nat.le_refl _)
 rw [List.take_length] at hk
 have hf := h q m hq
 rw [hs.c] at hf
 unfold foldR
 rw [if_pos hok, hk, hf]
theorem runR_ok {c : Cfg} (hc : cfgMay c = true) {ps : List Int} (hl : ps.length ≤ 256) (h : ∀ x ∈ ps, 0 ≤ x ∧ x < c.m) : ∃ s, runO c ps = some s ∧ runR c ps = (s, 0) ∧ RunSt c s ∧ Folds s := by
 obtain ⟨s, hs⟩ := run_goes ps (newS c) (runSt_new hc) h
 have hs' : runO c ps = some s := hs
 refine ⟨s, hs', ?_, runO_ok hc hs', folds_run ps _ _ (runSt_new hc) (folds_new hc) hs⟩
 unfold runR runOk
 rw [hc, decide_eq_true hl, hs']; rfl
def zeroPa : Pa := ⟨.nils, .nils, noChk, 0, false⟩
theorem Mem.zeroPaths {B H : Heap} {M : List Res} (h : Mem B H M) : ∀ n, Mem B H (paths (List.replicate n zeroPa) ++ M)
 | 0 => h
 | n + 1 => by
  have ih := Mem.zeroPaths h n
  exact (((ih.nil 1 intC).nil 1 intC).pack2)
theorem Mem.takePath {B H : Heap} {ps : List Pa} {M : List Res} {i : Nat} {p : Pa} (h : Mem B H (.ro (pack (paths ps)) :: M)) (hp : ps[i]? = some p) : Mem B H [.own 1 intC p.v p.k.vs, .own 1 intC p.w p.k.ws] := by
 have h1 := h.unpacked
 have hm : paPart p ∈ paths ps := by unfold paths; exact List.mem_map_of_mem (List.mem_of_getElem? hp)
 have h2 : Mem B H [paPart p] := h1.sub (List.singleton_sublist.2 (List.mem_append_left _ hm))
 exact (Mem.unpack2 h2).swap
theorem foldOf_bad (H : Heap) (c : Cfg) (rv v : V) (es : List Ev) (id at_ : Int) (hr : Rows H rv c.rows) (cf : c.Fit) (hes : Sl 6 evC H v es) (hl : es.length ≤ 2 ^ 42) (hb : foldOk c es id at_ = false) :
  Call Tryz.prog 23 [.agg (cfgC c rv), v, .int .i64 id, .int .i64 at_] H (.tup [.agg (kC .nils .nils noChk), .int .i64 2400]) H := by
 have l1 := cf.rows
 have l2 := cf.row
 have s1 := hes.cells
 refine call_pure fit mixed Tryz.func23 rfl rfl rfl (by kernel_rfl) rfl fun hM => ?_
 refine wq_seq (wq_line ?_)
 refine l_boxM T26 fun b1 H1 hM => ?_
 refine l_newM (cs := zeroChk) T45 rfl fun b2 H2 hM => ?_
 have c1 := confMay_ H2 c rv (hr.mono hM.pre) (by omega) (fun r hr => by have := l2 r hr; omega)
 have c2 := lineageMay H2 v es c.m (hes.mono hM.pre) (by omega)
 have c3 := confId_ H2 b1 c.m id (by have hrow := hM.row (.there .here); unfold Heap.loadN; rw [hrow]; rfl)
 have c4 := many H2 v es id (hes.mono hM.pre) (by omega)
 unfold foldOk at hb
 obtain ⟨q1, e1⟩ : ∃ q, cfgMay c = q := ⟨_, rfl⟩
 obtain ⟨q2, e2⟩ : ∃ q, eventsMay es c.m = q := ⟨_, rfl⟩
 obtain ⟨q3, e3⟩ : ∃ q, within id 0 (IntKind.i64.wrap (c.m - 1)) = q := ⟨_, rfl⟩
 obtain ⟨q4, e4⟩ : ∃ q, decide (at_ < 0) = q := ⟨_, rfl⟩
 obtain ⟨q5, e5⟩ : ∃ q, decide (at_ > (manyOf es id : Int)) = q := ⟨_, rfl⟩
 have n4 : decide (0 ≤ at_) = !q4 := by rw [← e4]; by_cases h : at_ < 0 <;> simp [h] <;> omega
 have n5 : decide (at_ ≤ (manyOf es id : Int)) = !q5 := by rw [← e5]; by_cases h : at_ > (manyOf es id : Int) <;> simp [h] <;> omega
 rw [e1] at c1 hb
 rw [e2] at c2 hb
 rw [e3] at c3 hb
 rw [n4, n5] at hb
 clear e1 e2 e3 n4 n5 l1 l2 cf hr hl
 cases q1 with
 | false =>
  clear hb
  refine goM ?_
  refine l_callG c1 ?_
  refine goM ?_
  refine l_putM T45 fun H3 hM => ?_
  refine goM ?_
  exact end_2 (by first | exact .inl rfl | exact .inr rfl) ⟨rfl, hM.pre⟩
 | true =>
  refine goM ?_
  refine l_callG c1 ?_
  refine goM ?_
  cases q2 with
  | false =>
   clear hb
   refine l_callG c2 ?_
   refine goM ?_
   refine l_putM T45 fun H3 hM => ?_
   refine goM ?_
   exact end_2 (by first | exact .inl rfl | exact .inr rfl) ⟨rfl, hM.pre⟩
  | true =>
   refine l_callG c2 ?_
   refine goM ?_
   cases q3 with
   | false =>
    clear hb
    refine l_callG c3 ?_
    refine goM ?_
    refine l_putM T45 fun H3 hM => ?_
    refine goM ?_
    exact end_2 (by first | exact .inl rfl | exact .inr rfl) ⟨rfl, hM.pre⟩
   | true =>
    refine l_callG c3 ?_
    cases q4 with
    | true =>
     clear hb
     refine goM ?_
     refine l_putM T45 fun H3 hM => ?_
     refine goM ?_
     exact end_2 (by first | exact .inl rfl | exact .inr rfl) ⟨rfl, hM.pre⟩
    | false =>
     have e5' : q5 = true := by simpa using hb
     subst e5'
     clear hb
     refine goM ?_
     refine l_callG c4 ?_
     refine goM ?_
     refine l_putM T45 fun H3 hM => ?_
     refine goM ?_
     exact end_2 (by first | exact .inl rfl | exact .inr rfl) ⟨rfl, hM.pre⟩
theorem foldOf_good (H : Heap) (c : Cfg) (rv v : V) (es : List Ev) (id at_ : Int) (hr : Rows H rv c.rows) (cf : c.Fit) (hes : Sl 6 evC H v es) (hl : es.length ≤ 2 ^ 42) (hok : foldOk c es id at_ = true) :
  ∃ w H', Call Tryz.prog 23 [.agg (cfgC c rv), v, .int .i64 id, .int .i64 at_] H w H' ∧ ∃ a b, w = .tup [.agg (kC a b (foldR c es id at_).1), .int .i64 (foldR c es id at_).2] ∧ Mem H H' [.own 1 intC b (foldR c es id at_).1.vs, .own 1 intC a (foldR c es id at_).1.ws] := by
 have l1 := cf.rows
 have l2 := cf.row
 have s1 := hes.cells
 have s2 : rv.cells = [rv] ∧ rv.isTup = false := by obtain ⟨_, h, _⟩ := hr; exact h.cells
 obtain ⟨hc, hev, hid, ha0, ham⟩ := foldOk_split hok
 obtain ⟨hm2, _⟩ := cfgMay_split hc
 obtain ⟨_, hel, _⟩ := eventsMay_at hev
 obtain ⟨id, rfl⟩ : ∃ d : Nat, id = d := ⟨id.toNat, by omega⟩
 obtain ⟨n, hn⟩ : ∃ n : Nat, c.m = n := ⟨c.m.toNat, by omega⟩
 refine call_mem fit mixed Tryz.func23 rfl rfl rfl (by kernel_rfl) fun hM => ?_
 refine wq_seq (wq_line ?_)
 refine l_boxM T26 fun b1 H1 hM => ?_
 refine l_newM (cs := zeroChk) T45 rfl fun b2 H2 hM => ?_
 have c1 := confMay_ H2 c rv (hr.mono hM.pre) (by omega) (fun r hr => by have := l2 r hr; omega)
 have c2 := lineageMay H2 v es c.m (hes.mono hM.pre) (by omega)
 have c3 := confId_ H2 b1 c.m id (by have hrow := hM.row (.there .here); unfold Heap.loadN; rw [hrow]; rfl)
 have c4 := many H2 v es id (hes.mono hM.pre) (by omega)
 rw [hc] at c1
 rw [hev] at c2
 rw [wrap_m hm2, within_iff.2 ⟨hid.1, by omega⟩] at c3
 have d1 : decide (at_ < 0) = false := decide_eq_false (by omega)
 have d2 : decide (at_ > (manyOf es id : Int)) = false := decide_eq_false (by omega)
 have hn8 : n ≤ 8 := by omega
 have hidn : id < n := by omega
 replace hn : Held (c.m = n) := hn
 refine goM ?_
 refine l_callG c1 ?_
 refine goM ?_
 refine l_callG c2 ?_
 refine goM ?_
 refine l_callG c3 ?_
 refine goM ?_
 refine l_callG c4 ?_
 clear c1 c2 c3 c4
 refine goM ?_
 refine d_makeM 7 pathC T123 rfl T129 (n := n) (z := zeroPa) rfl rfl rfl rfl rfl (hx := by rw [← (show c.m = (n : Int) from hn)]; exact eLk) (hy := by rw [← (show c.m = (n : Int) from hn)]; exact eLk) ⟨by show (88 : Int) * _ ≤ _; have : c.m = n := hn; omega, by have : c.m = n := hn; omega⟩ fun u H3 hM => ?_
 have s3 := (hM.sl .here).cells
 have hlen := (hM.sl .here).len T123 rfl
 rw [List.length_replicate] at hlen
 refine goM ?_
 refine d_boxM T125 (cs := foldC c rv u) fun fb H4 hM => ?_
 replace hM := hM.zeroPaths n
 replace hM := (hM.packed).sub (L' := [.ro (pack (paths (List.replicate n zeroPa))), .box fb (foldC c rv u), .own 7 pathC u (List.replicate n zeroPa), .box b2 zeroChk, .box b1 (cfgC c rv)]) (by (repeat (first | exact List.Sublist.slnil | exact List.Sublist.refl _ | refine List.Sublist.cons_cons _ ?_ | refine List.Sublist.cons _ ?_)))
 refine goM ?_
 -- each member at first
 refine wq_loop (fun cc ρ h => ∃ (k : Nat) (ps : List Pa), k ≤ n ∧ cc = n - k ∧ ps.length = n ∧ (∀ (i : Nat) p, ps[i]? = some p → p.n = 0 ∧ p.bad = false ∧ p.k.Fit ∧ (i < k → p.k = firstKR c i)) ∧ Mem H h [.ro (pack (paths ps)), .box fb (foldC c rv u), .own 7 pathC u ps, .box b2 zeroChk, .box b1 (cfgC c rv)] ∧ ρ 1 = v ∧ ρ 2 = .int .i64 (id : Int) ∧ ρ 3 = .int .i64 at_ ∧ ρ 4 = .ptr b1 0 ∧ ρ 8 = .ptr b2 0 ∧ ρ 10 = .ptr fb 0 ∧ ρ 53 = .int .i64 (n : Int) ∧ ρ 54 = .int .i64 (k : Int)) ⟨0, List.replicate n zeroPa, Nat.zero_le _, rfl, by simp, fun i p hp => ?_, hM, by simp [put_app, put_none, rho0_app, *]⟩ ?_
 ·rw [List.getElem?_replicate] at hp
  split at hp
  ·cases hp
   exact ⟨rfl, rfl, ⟨by decide, by decide⟩, fun h => by omega⟩
  ·cases hp
 repeat clear hM
 rintro _ ρ h ⟨k, ps, hk, rfl, hps, hpa, hM, g1, g2, g3, g4, g8, g10, g53, g54⟩
 refine goM ?_
 refine cond_go (fun hb => ?_) (fun hb => ?_)
 ·have hk' : k < n := by simpa using hb
  clear hb
  obtain ⟨p, hp⟩ : ∃ p, ps[k]? = some p := ⟨ps[k]'(by omega), by simp⟩
  obtain ⟨_, H5, c1, a1, a2, rfl, m1⟩ := member_First h c rv k (hr.mono hM.pre) cf
  have s4 := (m1.sl .here).cells
  have s5 := (m1.sl (.there .here)).cells
  have hw := wrap_succ (n := k) (by omega)
  refine goM ?_
  refine l_callG c1 ?_
  replace hM := hM.call2 m1
  clear c1 m1
  refine goM ?_
  refine l_newM (cs := zeroMem) T51 rfl fun b5 H6 hM => ?_
  refine l_putM T51 fun H7 hM => ?_
  refine goM ?_
  obtain ⟨b, o, hi, _⟩ := path_at hM (by (repeat (first | exact Has.here | apply Has.there))) hp
  obtain ⟨H8, st, hM8⟩ := path_put hM (.there (.there (.there (.there (.there .here))))) hp hi 0 T45 (by decide) (w := .agg (kC a1 a2 (firstKR c k))) (p' := ⟨a1, a2, firstKR c k, p.n, p.bad⟩) rfl rfl rfl
  simp only [Nat.add_zero] at st
  have h1 := ((hM8.front (r := .ro (pack (paths ps))) (by (repeat (first | exact Take.here | apply Take.there)))).front (r := .own 1 intC a2 (firstKR c k).vs) (by (repeat (first | exact Take.here | apply Take.there)))).front (r := .own 1 intC a1 (firstKR c k).ws) (by (repeat (first | exact Take.here | apply Take.there)))
  have h2 := Mem.newPath (p := ⟨a1, a2, firstKR c k, p.n, p.bad⟩) h1 (by rw [hps]; exact hk')
  clear h1 hM8
  refine goM ?_
  refine d_stM st ?_
  refine goM ?_
  refine ⟨n - (k + 1), by omega, k + 1, ps.set k ⟨a1, a2, firstKR c k, p.n, p.bad⟩, hk', rfl, by rw [List.length_set]; exact hps, fun i q hq => ?_, h2.sub (by (repeat (first | exact List.Sublist.slnil | exact List.Sublist.refl _ | refine List.Sublist.cons_cons _ ?_ | refine List.Sublist.cons _ ?_))), by simp [put_app, put_none, *]⟩
  rw [List.getElem?_set] at hq
  split at hq
  ·rename_i e
   subst e
   rw [if_pos (by omega)] at hq
   cases hq
   obtain ⟨e1, e2, _⟩ := hpa _ _ hp
   exact ⟨e1, e2, firstKR_fit c k, fun _ => rfl⟩
  ·rename_i e
   obtain ⟨e1, e2, e3, e4⟩ := hpa _ _ hq
   exact ⟨e1, e2, e3, fun h => e4 (by omega)⟩
 ·have hk' : k = n := by have : ¬ k < n := by simpa using hb
                         omega
  subst hk'
  clear hb hk
  have hcm : c.m = (k : Int) := hn
  have hok0 : PathsOk c es 0 ps := paths_start hc (by omega) fun i p hp => by
   obtain ⟨e1, e2, _, e4⟩ := hpa i p hp
   exact ⟨e4 (by have := (List.getElem?_eq_some_iff.1 hp).1; omega), e1, e2⟩
  clear hpa
  clear hcm
  refine goM ?_
  refine wq_loop (fun cc ρ h => ∃ (i : Nat) (ps : List Pa), i ≤ es.length ∧ cc = es.length - i ∧ (manyOf (es.take i) id : Int) ≤ at_ ∧ PathsOk c es i ps ∧ Mem H h [.ro (pack (paths ps)), .box fb (foldC c rv u), .own 7 pathC u ps, .box b2 zeroChk, .box b1 (cfgC c rv)] ∧ ρ 1 = v ∧ ρ 2 = .int .i64 (id : Int) ∧ ρ 3 = .int .i64 at_ ∧ ρ 8 = .ptr b2 0 ∧ ρ 10 = .ptr fb 0 ∧ ρ 15 = .int .i64 (i : Int)) ⟨0, ps, Nat.zero_le _, rfl, by show (0 : Int) ≤ _; omega, hok0, hM, by simp [put_app, put_none, *]⟩ ?_
  repeat clear hM
  clear hok0 hps g1 g2 g3 g4 g8 g10 g53 g54
  rintro _ ρ h ⟨i, ps, hie, rfl, hma, hpo, hM, g1, g2, g3, g8, g10, g15⟩
  have hpl : ps.length = k := by have : c.m = (k : Int) := hn; have := hpo.len; omega
  obtain ⟨p, hp⟩ : ∃ p, ps[id]? = some p := ⟨ps[id]'(by omega), by simp⟩
  obtain ⟨b, o, hi, l0, l5, l6⟩ := path_at hM (by (repeat (first | exact Has.here | apply Has.there))) hp
  have hpn := hpo.n _ _ hp
  have hpw := hpo.now _ _ hp
  obtain ⟨pw, pv, pk, pn, pb⟩ := p
  simp only at l0 l5 l6 hpn hpw
  by_cases hlt : pn < at_
  ·have dlt : decide (pn < at_) = true := decide_eq_true hlt
   have hil : i < es.length := by
    by_cases h : i < es.length
    ·exact h
    ·rw [List.take_of_length_le (by omega)] at hpn
     omega
   obtain ⟨e, he⟩ : ∃ e, es[i]? = some e := ⟨es[i]'(by omega), by simp⟩
   obtain ⟨eb, eo, ecs, hix, hec, _, hlo, hlc⟩ := (hes.mono hM.pre).get T30 rfl T61 rfl he
   rw [hec] at hlo hlc
   obtain ⟨hmb, hd, hkd, hy⟩ := evMay_in ((eventsMay_at hev).2.2 i e he)
   have hcm : c.m = (k : Int) := hn
   obtain ⟨q, hq⟩ : ∃ q, ps[e.member.toNat]? = some q := ⟨ps[e.member.toNat]'(by omega), by simp⟩
   have hqn := hpo.n _ _ hq
   have hqn2 := manyOf_le (es.take i) ((e.member.toNat : Nat) : Int)
   rw [List.length_take] at hqn2
   have hfr : Mem H h (.box fb (foldC c rv u) :: .own 7 pathC u ps :: .ro (pack (paths ps)) :: [.box b2 zeroChk, .box b1 (cfgC c rv)]) := ((hM.front (r := .own 7 pathC u ps) (by (repeat (first | exact Take.here | apply Take.there)))).front (r := .box fb (foldC c rv u)) (by (repeat (first | exact Take.here | apply Take.there)))).sub (by (repeat (first | exact List.Sublist.slnil | exact List.Sublist.refl _ | refine List.Sublist.cons_cons _ ?_ | refine List.Sublist.cons _ ?_)))
   obtain ⟨w, H5, c1, rfl, p', hp1, hp2, hM2⟩ := take24_ H h [.box b2 zeroChk, .box b1 (cfgC c rv)] c rv u ps fb eb eo e q hfr hr cf (fun i p hp => kFits_fit (hpo.fits i p hp)) (loadV_one T3 rfl (hlc 0 _ rfl)) (loadV_one T3 rfl (hlc 1 _ rfl)) (loadV_one T3 rfl (hlc 2 _ rfl)) (loadV_agg T43 rfl (loadN_in hlo (by decide))) hmb.1 hq
    (fun h1 => by
     obtain ⟨hdi, _⟩ := hd h1
     exact ⟨ps[e.donor.toNat]'(by omega), hdi.1, by simp⟩) (by rw [hqn]; omega)
   have hpo2 := took_ok hc hev he hpo hq hp1 hp2
   have hw := wrap_succ (n := i) (by omega)
   have hms := manyOf_succ (m := (id : Int)) he
   have hma2 : (manyOf (es.take (i + 1)) id : Int) ≤ at_ := by rw [hms]; split <;> omega
   clear hcm hpn hpw hqn hqn2 hfr hlc hlo hp1 hp2 hq hp he hd hmb hms
   refine goM ?_
   refine l_callG c1 ?_
   refine goM ?_
   exact ⟨es.length - (i + 1), by omega, i + 1, _, hil, rfl, hma2, hpo2, (hM2.front (r := .ro (pack (paths (ps.set e.member.toNat p')))) (by (repeat (first | exact Take.here | apply Take.there)))), by simp [put_app, put_none, *]⟩
  ·have dlt : decide (pn < at_) = false := decide_eq_false hlt
   have hpe : at_ = (manyOf (es.take i) id : Int) := by omega
   have hfn := foldK_now (c := c) hev hid.1 hid.2 hie
   rw [← hpe, hpw] at hfn
   have hkat := paths_at (hM.factG) hp
   have t1 := hkat.ws.cells
   have t2 := hkat.vs.cells
   simp only at t1 t2
   clear hpn hpw hpe hlt hkat
   cases pb with
   | true =>
    rw [if_pos rfl] at hfn
    rw [foldR_none hfn]
    clear hfn
    refine goM ?_
    refine l_putM T45 fun H5 hM => ?_
    refine goM ?_
    exact end_2 (by first | exact .inl rfl | exact .inr rfl) ⟨.nils, .nils, rfl, ((hM.sub (L' := []) (by (repeat (first | exact List.Sublist.slnil | exact List.Sublist.refl _ | refine List.Sublist.cons_cons _ ?_ | refine List.Sublist.cons _ ?_)))).nil 1 intC).nil 1 intC⟩
   | false =>
    rw [if_neg (by decide)] at hfn
    rw [foldR_some hok hfn]
    clear hfn
    refine goM ?_
    refine l_putM T45 fun H5 hM => ?_
    refine goM ?_
    exact end_2 (by first | exact .inl rfl | exact .inr rfl) ⟨pw, pv, rfl, hM.takePath hp⟩
theorem foldOf_ (H : Heap) (c : Cfg) (rv v : V) (es : List Ev) (id at_ : Int) (hr : Rows H rv c.rows) (cf : c.Fit) (hes : Sl 6 evC H v es) (hl : es.length ≤ 2 ^ 42) :
  ∃ w H', Call Tryz.prog 23 [.agg (cfgC c rv), v, .int .i64 id, .int .i64 at_] H w H' ∧ ∃ a b, w = .tup [.agg (kC a b (foldR c es id at_).1), .int .i64 (foldR c es id at_).2] ∧ Mem H H' [.own 1 intC b (foldR c es id at_).1.vs, .own 1 intC a (foldR c es id at_).1.ws] := by
 cases hok : foldOk c es id at_ with
 | false =>
  rw [foldR_no hok]
  exact ⟨_, H, foldOf_bad H c rv v es id at_ hr cf hes hl hok, .nils, .nils, rfl, ((Mem.start H).nil 1 intC).nil 1 intC⟩
 | true => exact foldOf_good H c rv v es id at_ hr cf hes hl hok
theorem smallT_ (H : Heap) : ∃ w H', Call Tryz.prog 56 [] H w H' ∧ ∃ rv xv, w = .agg (cfgC smallC rv) ∧ Mem H H' [.ro (rowsFact rv xv smallC.rows)] := by
 refine call_mem fit mixed Tryz.func56 rfl rfl rfl (by kernel_rfl) fun hM => ?_
 refine wq_seq (wq_line ?_)
 refine l_newM (cs := zeroCfg) T26 rfl fun b0 H1 hM => ?_
 refine goM ?_
 refine l_sliceM intC [65536] [.int .i64 65536] T27 rfl T3 rfl (cells_ints [65536]) (by decide) (fun x1 H2 hM => ?_)
 have t1 := (hM.sl .here).cells
 refine goM ?_
 refine l_sliceM intC [-65536] [.int .i64 (-65536)] T27 rfl T3 rfl (cells_ints [-65536]) (by decide) (fun x2 H3 hM => ?_)
 have t2 := (hM.sl .here).cells
 refine goM ?_
 refine l_sliceM rowC [(x1, 32768), (x2, 0)] [x1, .int .i64 32768, x2, .int .i64 0] T24 rfl T144 rfl (cells_rows [(x1, 32768), (x2, 0)]) (by decide) (fun rv H4 hM => ?_)
 have t3 := (hM.sl .here).cells
 refine goM ?_
 refine l_putM T26 fun H5 hM => ?_
 refine goM ?_
 refine end_1 (by first | exact .inl rfl | exact .inr rfl) ⟨rv, [(x1, 32768), (x2, 0)], rfl, Mem.mkro hM.pre ⟨hM.slG, rfl, fun k p r hp hr => ?_⟩ fun c hc => ?_⟩
 ·match k, hp, hr with
  | 0, hp, hr => cases hp; cases hr; exact ⟨hM.slG, rfl⟩
  | 1, hp, hr => cases hp; cases hr; exact ⟨hM.slG, rfl⟩
 ·rcases hc with hc | ⟨q, hq, hc⟩
  ·exact hM.low (.own 2 rowC rv [(x1, 32768), (x2, 0)]) (by simp) c hc
  ·simp at hq
   rcases hq with rfl | rfl
   ·exact hM.low (.own 1 intC x1 [65536]) (by simp) c hc
   ·exact hM.low (.own 1 intC x2 [-65536]) (by simp) c hc
theorem ansQ {H H' : Heap} {w : V} {a : St} {e : Int} {r : St × Int} (h : r = (a, e)) (ha : AnsS H r w H') : ∃ q : SV, w = .tup [.agg (q.c a), .int .i64 e] ∧ q.Ok a ∧ Mem H H' [q.own a] := by
 rw [h] at ha
 exact ha
theorem runQ_ {c : Cfg} {ps : List Int} {a : St} {e : Int} (h : runR c ps = (a, e)) (H : Heap) {rv pv : V} (hr : Rows H rv c.rows) (cf : c.Fit) (hp : Sl 1 intC H pv ps) (hl : ps.length ≤ 2 ^ 47) :
  ∃ w H', Call Tryz.prog 19 [.agg (cfgC c rv), pv] H w H' ∧ ∃ q : SV, w = .tup [.agg (q.c a), .int .i64 e] ∧ q.Ok a ∧ Mem H H' [q.own a] := by
 obtain ⟨w, H', h1, h2⟩ := runP_ H c rv pv ps hr cf hp hl
 exact ⟨w, H', h1, ansQ h h2⟩
theorem sweepQ_ {s a : St} {e : Int} (h : sweepR s = (a, e)) (H : Heap) {rv mv ev sv : V} {xs : List MR} (ha : StAt H rv mv ev sv xs s) (hf : s.Fit) :
  ∃ w H', Call Tryz.prog 44 [.agg (stC s.c rv mv ev sv)] H w H' ∧ ∃ q : SV, w = .tup [.agg (q.c a), .int .i64 e] ∧ q.Ok a ∧ Mem H H' [q.own a] := by
 obtain ⟨w, H', h1, h2⟩ := sweepP_ H s rv mv ev sv xs ha hf
 exact ⟨w, H', h1, ansQ h h2⟩
theorem run_fit {c : Cfg} {s : St} (cf : c.Fit) (h : RunSt c s) : s.Fit := ok_fit h.ok (by rw [h.c]; exact cf)
theorem run_len {c : Cfg} {s : St} (h : RunSt c s) : (s.ms.length : Int) = c.m := by rw [h.ok.len, h.c]
structure Woke (c : Cfg) (A B : St) : Prop where
 run : runR c [0, 1, 0, 0, 0] = (A, 0)
 fit : A.Fit
 go : doR A 1 = (B, 0)
 bfit : B.Fit
 len : A.ms.length = 2
 blen : B.ms.length = 2
 es : A.es.length ≤ 1024
 zero : ∃ m, A.ms[0]? = some m ∧ m.1.t = 3 ∧ m.1.Fit ∧ foldR c A.es 0 (manyOf A.es 0 : Nat) = (m.1, 0)
 one : ∃ m, B.ms[1]? = some m ∧ m.1.t = 2
theorem woke : ∃ A B, Woke smallC A B := by
 have hin : ∀ x ∈ ([0, 1, 0, 0, 0] : List Int), 0 ≤ x ∧ x < smallC.m := by intro x hx; simp at hx; rcases hx with rfl | rfl | rfl <;> decide
 obtain ⟨A, hr, hR, hst, hfo⟩ := runR_ok small_may (ps := [0, 1, 0, 0, 0]) (by decide) hin
 have hl : A.ms.length = 2 := by have := run_len hst; have e : smallC.m = 2 := rfl; omega
 have hn := runSt_new small_may
 have hnl : (newS smallC).ms.length = 2 := by have := run_len hn; have e : smallC.m = 2 := rfl; omega
 have ht := run_t _ _ _ hn hr
 obtain ⟨o0, ho0, ht0⟩ := small_at 0 (by decide)
 obtain ⟨o1, ho1, ht1⟩ := small_at 1 (by decide)
 have t0 := ht 0 (by omega)
 have t1 := ht 1 (by omega)
 rw [tAt_some ho0, ht0, show timesIn 0 [0, 1, 0, 0, 0] = 4 from by decide, show smallC.total = 3 from rfl] at t0
 rw [tAt_some ho1, ht1, show timesIn 1 [0, 1, 0, 0, 0] = 1 from by decide, show smallC.total = 3 from rfl] at t1
 obtain ⟨m0, hm0⟩ : ∃ m, A.ms[0]? = some m := ⟨A.ms[0]'(by omega), by simp⟩
 obtain ⟨m1, hm1⟩ : ∃ m, A.ms[1]? = some m := ⟨A.ms[1]'(by omega), by simp⟩
 rw [tAt_some hm0] at t0
 rw [tAt_some hm1] at t1
 have room := runSt_room hst
 have pk : Picks A 1 m1 := ⟨hst.ok, hm1, by rw [hst.c, t1]; decide, room⟩
 have hd := do_turned pk
 obtain ⟨x, hx, hxt⟩ := hd.own
 have hf := run_fit small_fit hst
 have hfold := folds_of hst hfo hm0
 exact ⟨A, doS A 1, ⟨hR, hf, doR_of pk, do_fit pk hf, hl, by rw [hd.len]; exact hl, by omega, ⟨m0, hm0, by rw [t0]; decide, kFits_fit (hst.ok.fits _ (List.mem_of_getElem? hm0)), hfold⟩, ⟨x, hx, by rw [hxt, t1]; decide⟩⟩⟩
theorem foldQ_ {c : Cfg} {es : List Ev} {id at_ : Int} {k : Chk} {e : Int} (h : foldR c es id at_ = (k, e)) (H : Heap) {rv v : V} (hr : Rows H rv c.rows) (cf : c.Fit) (hes : Sl 6 evC H v es) (hl : es.length ≤ 2 ^ 42) :
  ∃ w H', Call Tryz.prog 23 [.agg (cfgC c rv), v, .int .i64 id, .int .i64 at_] H w H' ∧ ∃ a b, w = .tup [.agg (kC a b k), .int .i64 e] ∧ Mem H H' [.own 1 intC b k.vs, .own 1 intC a k.ws] := by
 have := foldOf_ H c rv v es id at_ hr cf hes hl
 rw [h] at this
 exact this
theorem awakeT_ (K : Heap) : Call Tryz.prog 17 [] K (.bool true) K := by
 have hsm := smallT_
 have hcf := small_fit
 obtain ⟨A, B, W⟩ := woke
 generalize smallC = c at *
 obtain ⟨⟨⟨kws, kvs, kr, km, kt⟩, mh⟩, hm0, ht0, hf0, hfold⟩ := W.zero
 simp only at ht0 hf0 hfold
 subst ht0
 obtain ⟨m1, hm1, ht1⟩ := W.one
 have hR := W.run
 have hG := W.go
 have hal := W.len
 have hbl := W.blen
 have hel := W.es
 have Af := W.fit
 have Bf := W.bfit
 clear W
 refine call_pure fit mixed Tryz.func17 rfl rfl rfl (by kernel_rfl) rfl fun hM => ?_
 obtain ⟨_, H1, c1, rv, xv, rfl, m0'⟩ := hsm K
 refine wq_seq (wq_line ?_)
 refine goM ?_
 refine l_callG c1 ?_
 replace hM := hM.call1 m0'
 clear c1 m0'
 refine goM ?_
 refine l_sliceM intC [0, 1, 0, 0, 0] [.int .i64 0, .int .i64 1, .int .i64 0, .int .i64 0, .int .i64 0] T27 rfl T3 rfl (cells_ints [0, 1, 0, 0, 0]) (by decide) (fun x1 H2 hM => ?_)
 obtain ⟨_, H3, c1, qa, rfl, ka, m1⟩ := runQ_ hR H2 (rows_of (hM.fact (F := rowsFact rv xv c.rows) (by (repeat (first | exact Has.here | apply Has.there))))) hcf (hM.sl .here) (by decide)
 refine goM ?_
 refine l_callG c1 ?_
 replace hM := hM.call1 m1
 clear c1 m1
 refine goM ?_
 refine l_newM (cs := zeroSt) T33 rfl fun b1 H4 hM => ?_
 refine l_putM T33 fun H5 hM => ?_
 refine goM ?_
 obtain ⟨_, H6, c1, rv2, xv2, rfl, m0'⟩ := hsm H5
 refine d_callG c1 (.inl m0'.pre) ?_
 replace hM := hM.call1 m0'
 clear c1 m0' hsm
 have hat := ka.at_ hM
 have c2 := many H6 qa.ev A.es 0 hat.es (by omega)
 obtain ⟨_, H7, c3, a, b, rfl, m2⟩ := foldQ_ hfold H6 (rows_of (hM.fact (F := rowsFact rv2 xv2 c.rows) .here)) hcf hat.es (by omega)
 clear hat
 refine goM ?_
 refine d_call0G c2 ?_
 refine goM ?_
 refine d_callG c3 (.inl m2.pre) ?_
 have s3 := (m2.sl .here).cells
 have s4 := (m2.sl (.there .here)).cells
 replace hM := hM.call2 m2
 clear c2 c3 m2
 refine goM ?_
 refine d_newM (cs := zeroChk) T45 rfl fun b3 H8 hM => ?_
 refine d_putM T45 fun H9 hM => ?_
 refine goM ?_
 obtain ⟨_, H10, c1, qb, rfl, kb, m1⟩ := doP_ hG H9 (ka.at_ hM) Af
 refine l_callG c1 ?_
 replace hM := hM.call1 m1
 clear c1 m1
 refine goM ?_
 refine l_newM (cs := zeroSt) T33 rfl fun b5 H11 hM => ?_
 refine l_putM T33 fun H12 hM => ?_
 have ata := ka.at_ hM
 have atb := kb.at_ hM
 have g1 := ata.ms.len T29 rfl
 rw [ata.len, hal] at g1
 have g2 := atb.ms.len T29 rfl
 rw [atb.len, hbl] at g2
 obtain ⟨y0, hy0, hv0⟩ := val_at ata.val hm0
 obtain ⟨y1, hy1, hv1⟩ := val_at atb.val hm1
 obtain ⟨bo, oo, hi0, _⟩ := mr_at ata.ms hy0
 obtain ⟨lo0, _⟩ := mr_in ata.ms hi0 hy0
 obtain ⟨bo1, oo1, hi1, _⟩ := mr_at atb.ms hy1
 obtain ⟨_, _, lo1, _⟩ := mr_in atb.ms hi1 hy1
 replace hi0 : idxV T 29 qa.mv 0 = some (.ptr bo oo) := hi0
 replace hi1 : idxV T 29 qb.mv 1 = some (.ptr bo1 oo1) := hi1
 have hk0 := ata.ks y0 (List.mem_of_getElem? hy0)
 have hyk : y0.k = ⟨kws, kvs, kr, km, 3⟩ := congrArg Prod.fst hv0
 have hyk1 : y1.k = m1.1 := congrArg Prod.fst hv1
 rw [hyk1, ht1] at lo1
 have c1 := sameK_ H12 a b y0.w y0.v ⟨kws, kvs, kr, km, 3⟩ y0.k ⟨hM.sl (v := a) (xs := kws) (by (repeat (first | exact Has.here | apply Has.there))), hM.sl (v := b) (xs := kvs) (by (repeat (first | exact Has.here | apply Has.there)))⟩ hk0 hf0
 rw [hyk, kEq_self] at c1
 rw [hyk] at lo0
 clear ata atb hal hbl hm0 hm1 hy0 hy1 hv0 hv1 hk0 hyk hyk1
 refine goM ?_
 refine d_call0G (num_ _ _) ?_
 refine goM ?_
 refine d_call0G c1 ?_
 refine goM ?_
 refine d_call0G (num_ _ _) ?_
 refine goM ?_
 refine d_call0G (num_ _ _) ?_
 refine goM ?_
 exact end_1 (by first | exact .inl rfl | exact .inr rfl) ⟨rfl, hM.pre⟩
theorem score_ok {c : Cfg} {k : Chk} (hc : cfgMay c = true) (hk : kFits c k = true) : (scoreR c k).2 = 0 := by unfold scoreR; rw [hc, hk]; rfl
end Go.Proofs.YtaofdhgkgklppaaGreat.VM
