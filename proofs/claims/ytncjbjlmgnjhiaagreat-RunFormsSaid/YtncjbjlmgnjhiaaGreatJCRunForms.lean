/- Joined texts: VmW, IntA, StepU, LawI. -/
import Derived.Test.YtncjbjlmgnjhiaaGreatJC1
import Derived.Test.YtncjbjlmgnjhiaaGreatJC2
import Derived.Test.YtncjbjlmgnjhiaaGreatJC3
import Derived.Test.YtncjbjlmgnjhiaaGreatJC4
import Derived.Test.YtncjbjlmgnjhiaaGreatJC5
import Derived.Test.YtncjbjlmgnjhiaaGreatJC6
import Derived.Test.YtncjbjlmgnjhiaaGreatJC7
import Derived.Test.YtncjbjlmgnjhiaaGreatJC8
import Derived.Test.YtncjbjlmgnjhiaaGreatJC9
import Derived.Test.YtncjbjlmgnjhiaaGreatJC10
import Derived.Test.YtncjbjlmgnjhiaaGreatJC11
import Derived.Test.YtncjbjlmgnjhiaaGreatJC12
import Derived.Test.YtncjbjlmgnjhiaaGreatJC13
import Derived.Test.YtncjbjlmgnjhiaaGreatJCRunAllp0
import Derived.Test.YtncjbjlmgnjhiaaGreatJCRunAll
namespace Go.Proofs.YtncjbjlmgnjhiaaGreat.VM
open Go
set_option linter.unusedVariables false
set_option linter.unusedSimpArgs false
variable {T : Tab} {α : Type} {D : Type}
theorem Un {K : Heap} {t : Nat} {ts : List Nat} {vs : List V} {ds : List (DataW D)} (h : RdAll T K (t :: ts) vs ds) : ∃ v vs' d ds', vs = v :: vs' ∧ ds = d :: ds' ∧ RdV T K t v d ∧ RdAll T K ts vs' ds' := by
 match vs, ds, h with
 | v :: vs', d :: ds', ⟨h1, h2⟩ => exact ⟨v, vs', d, ds', rfl, rfl, h1, h2⟩
theorem XQ {K : Heap} {vs : List V} {ds : List (DataW D)} (h : RdAll T K [] vs ds) : vs = [] ∧ ds = [] := by
 match vs, ds, h with
 | [], [], _ => exact ⟨rfl, rfl⟩
end Go.Proofs.YtncjbjlmgnjhiaaGreat.VM
namespace Go.Proofs.YtncjbjlmgnjhiaaGreat.VM
open Go
set_option linter.unusedVariables false
set_option linter.unusedSimpArgs false
attribute [local irreducible] wq wqL wqD wqE wqO Th Bk EndR
set_option maxHeartbeats 8000000
theorem iN (x : Int) (m : Nat) (hm : m < 2 ^ 62) (hmb : (BitVec.ofInt IntKind.i64.bits (m : Int)).toNat = m) : ∃ y : Int, IntKind.i64.wrap ((BitVec.ofInt IntKind.i64.bits x &&& BitVec.ofInt IntKind.i64.bits (m : Int)).toNat : Int) = y ∧ 0 ≤ y ∧ y ≤ m := by
 have h : (BitVec.ofInt IntKind.i64.bits x &&& BitVec.ofInt IntKind.i64.bits (m : Int)).toNat ≤ m := by
  rw [BitVec.toNat_and]
  exact Nat.le_trans Nat.and_le_right (by rw [hmb]; exact Nat.le_refl _)
 exact ⟨((BitVec.ofInt IntKind.i64.bits x &&& BitVec.ofInt IntKind.i64.bits (m : Int)).toNat : Int), Am (by omega), by omega, by omega⟩
theorem lA : EF (BB (CQ Bv 0)) (BB (CQ Bv 1)) = false := by decide +kernel
theorem lB {es : List Ent} (h : Bx es) {t : ByteArray} (ht : DX t = true) (hno : ∀ e ∈ es, EF e.tx t = false) (hl : es.length < 64) : putS es t = (JJ es t 1, (Bh es : Int), 0) := by
 have hN : Bj es t = es.length := SS fun j x hx => hno x (List.mem_of_getElem? hx)
 unfold putS
 rw [EV h, ht, if_neg (by decide), hN, List.getElem?_eq_none (Nat.le_refl _)]
 simp only
 rw [if_neg (by omega)]; rfl
theorem kU : FX Bv = ⟨Bv, [(CQ Bv 0, 0), (CQ Bv 1, 1)], [], [⟨0, BB (CQ Bv 0), 1⟩, ⟨1, BB (CQ Bv 1), 1⟩]⟩ := by
 have hd := lA
 have t0 := Tk (Ff IJ 0)
 have t1 := Tk (Ff IJ 1)
 have hst := (ML IJ 1 (by decide)).1.store
 have e1 : newF Bv 1 = ([(CQ Bv 0, 0)], [⟨0, BB (CQ Bv 0), 1⟩]) := by
  have := lB Te t0 (fun e he => by cases he) (by decide)
  show ([] ++ [(CQ Bv ((0 : Nat) : Int), (putS [] (BB (CQ Bv ((0 : Nat) : Int)))).2.1)], (putS [] (BB (CQ Bv ((0 : Nat) : Int)))).1) = _
  rw [show ((0 : Nat) : Int) = 0 from rfl, this]; rfl
 rw [e1] at hst
 have e2 : newF Bv 2 = ([(CQ Bv 0, 0), (CQ Bv 1, 1)], [⟨0, BB (CQ Bv 0), 1⟩, ⟨1, BB (CQ Bv 1), 1⟩]) := by
  have := lB hst t1 (fun e he => by rw [List.mem_singleton] at he; subst he; exact hd) (by simp)
  show ((newF Bv 1).1 ++ [(CQ Bv ((1 : Nat) : Int), (putS (newF Bv 1).2 (BB (CQ Bv ((1 : Nat) : Int)))).2.1)], (putS (newF Bv 1).2 (BB (CQ Bv ((1 : Nat) : Int)))).1) = _
  rw [e1, show ((1 : Nat) : Int) = 1 from rfl, this]; rfl
 unfold FX
 rw [show Bv.m.toNat = 2 from rfl, e2]
theorem kT : BZ { FX Bv with st := [⟨0, BB (CQ Bv 0), 2⟩, ⟨1, BB (CQ Bv 1), 1⟩] } = false := by
 rw [Bool.eq_false_iff]
 intro h
 have := (Eh h).held ⟨0, BB (CQ Bv 0), 2⟩ (by simp)
 rw [kU] at this
 simp [BQ] at this
def kX (c : Cfg) : Cfg := { c with cutn := 2 }
def kS (t0 t1 : ByteArray) : List Ent := [⟨0, t0, 2⟩, ⟨1, t1, 1⟩]
theorem kW : Al (kX Bv) = false := by decide +kernel
theorem lE {c : Cfg} {ps : List Int} (h : Al c = false) : FH c ps = (DN, 2500) := Lb (by unfold JS; rw [h]; rfl)
theorem lC {c : Cfg} {ps : List Int} (h : 256 < ps.length) : FH c ps = (DN, 2500) := Lb (by unfold JS; rw [decide_eq_false (by omega), Bool.and_false])
theorem lD {x : Int} (h : x < 0 ∨ 2 ≤ x) : FH Bv [0, x] = (DN, 2501) := by
 have hok : JS Bv [0, x] = true := TR IJ (by simp)
 have hn : GA Bv [0, x] = none := by
  cases hO : GA Bv [0] with
  | none => exact QI (k := 1) hO
  | some s =>
   have hs := bT IJ hO
   have hl := hs.ok.len
   rw [hs.c] at hl
   have e2 : Bv.m = 2 := rfl
   have e := TE (s := s) (pick := x) (by omega)
   rw [show ([0, x] : List Int) = [0] ++ [x] from rfl, MU, hO]
   show DA s x = none
   unfold DA
   rw [e]; rfl
 unfold FH
 rw [hok, if_pos rfl, hn]
theorem kZ {x : Int} (h : x < 0 ∨ 8 ≤ x) : Fw [0, x] = ([], 2501) := Ua (by
 rw [List.all_eq_false]
 exact ⟨x, by simp, by
  intro hw
  have := within_iff.1 hw
  omega⟩)
theorem kV {n : Nat} (h : 256 < n) : Fw (List.replicate n 0) = ([], 2500) := Sf (by
 rw [List.all_eq_true]
 intro x hx
 rw [List.eq_of_mem_replicate hx]; rfl) (by rw [List.length_replicate]; exact h)
theorem kY {n : Nat} (h : 0 < n) : Fw ((List.replicate n 0).set 0 (-1)) = ([], 2501) := Ua (by
 rw [List.all_eq_false]
 exact ⟨-1, by
  match n, h with
  | n + 1, _ => rw [List.replicate_succ]; simp, by decide⟩)
set_option maxRecDepth 4000 in
theorem law_runForms {D : Type} (K : Heap) (vs : List V) (ds : List (DataW D)) (ro : Ro K) (h : RdAll T K [3, 3] vs ds) : ∃ K', Call Tryz.prog 4 vs K (.bool true) K' := by
 obtain ⟨z1, vs, d1, ds, rfl, rfl, hv1, h⟩ := Un h
 obtain ⟨z2, vs, d2, ds, rfl, rfl, hv2, h⟩ := Un h
 obtain ⟨rfl, rfl⟩ := XQ h
 obtain ⟨n, rfl, _⟩ := hv1.int T3 rfl
 obtain ⟨x, rfl, _⟩ := hv2.int T3 rfl
 clear hv1 hv2 h
 obtain ⟨y, hy, hy0, hy1⟩ := iN x 1023 (by decide) (by decide)
 replace hy : IntKind.i64.wrap ((BitVec.ofInt IntKind.i64.bits x &&& BitVec.ofInt IntKind.i64.bits 1023).toNat : Int) = y := hy
 obtain ⟨o, ho, ho0, ho1⟩ := iN n 1 (by decide) (by decide)
 replace ho : IntKind.i64.wrap ((BitVec.ofInt IntKind.i64.bits n &&& BitVec.ofInt IntKind.i64.bits 1).toNat : Int) = o := ho
 obtain ⟨o, rfl⟩ : ∃ j : Nat, o = j := ⟨o.toNat, by omega⟩
 obtain ⟨d, hd⟩ : ∃ d : Nat, 1 + y = d := ⟨(1 + y).toNat, by omega⟩
 have hd1 : IntKind.i64.wrap (1 + y) = (d : Int) := by rw [hd]; exact wrap_i64 (by omega) (by omega)
 have wn : IntKind.i64.wrap (0 - (d : Int)) = -(d : Int) := by rw [wrap_i64 (by omega) (by omega)]; omega
 have w1 : IntKind.i64.wrap (1 + (d : Int)) = 1 + (d : Int) := wrap_i64 (by omega) (by omega)
 have w7 : IntKind.i64.wrap (7 + (d : Int)) = 7 + (d : Int) := wrap_i64 (by omega) (by omega)
 have w256 : IntKind.i64.wrap (256 + (d : Int)) = ((256 + d : Nat) : Int) := by rw [wrap_i64 (by omega) (by omega)]; omega
 have hdb : 1 ≤ d ∧ d ≤ 1024 := by omega
 have ho2 : o = 0 ∨ o = 1 := by omega
 clear hd hy0 hy1 ho0 ho1
 obtain ⟨pv, hpv, hpo⟩ : ∃ pv, ([-(d : Int), 1 + (d : Int)] : List Int)[o]? = some pv ∧ (pv < 0 ∨ 2 ≤ pv) := by
  rcases ho2 with rfl | rfl
  ·exact ⟨_, rfl, .inl (by omega)⟩
  ·exact ⟨_, rfl, .inr (by omega)⟩
 obtain ⟨qv, hqv, hqo⟩ : ∃ qv, ([-(d : Int), 7 + (d : Int)] : List Int)[o]? = some qv ∧ (qv < 0 ∨ 8 ≤ qv) := by
  rcases ho2 with rfl | rfl
  ·exact ⟨_, rfl, .inl (by omega)⟩
  ·exact ⟨_, rfl, .inr (by omega)⟩
 have hB := lE (ps := []) kW
 have hL := lC (c := Bv) (ps := List.replicate (256 + d) 0) (by rw [List.length_replicate]; omega)
 have hP := lD hpo
 have hRb := RQ (t := []) kW
 have hJb := kZ hqo
 have hJl := kV (n := 256 + d) (by omega)
 have hJm := kY (n := 256 + d) (by omega)
 have hS : Gw ⟨Bv, (FX Bv).ms, [], kS (BB (CQ Bv 0)) (BB (CQ Bv 1))⟩ = (DN, 2500) := Oy kT
 have hD : Hn ⟨Bv, (FX Bv).ms, [], kS (BB (CQ Bv 0)) (BB (CQ Bv 1))⟩ = (false, 2500) := Lv kT
 have hne := Sx IJ
 have hsn : (FX Bv).st = [⟨0, BB (CQ Bv 0), 1⟩, ⟨1, BB (CQ Bv 1), 1⟩] := by rw [kU]
 have hen : (FX Bv).es = [] := rfl
 have hcn : (FX Bv).c = Bv := rfl
 have hcf := Jo
 have cf2 : (kX Bv).Fit := ⟨hcf.rows, hcf.row⟩
 have nf := Sw hcf
 rw [hne] at nf
 simp only at nf
 have hsm := Zl
 have hlr : (List.replicate (256 + d) (0 : Int)).length ≤ 2 ^ 47 := by rw [List.length_replicate]; omega
 clear hpo hqo ho2
 refine ⟨K, ?_⟩
 refine AQ fit mixed Tryz.func4 rfl rfl rfl (by kernel_rfl) rfl fun hM => ?_
 refine goM ?_
 refine AA (YB _) ?_
 generalize FX Bv = S at *
 generalize BB (CQ Bv 0) = t0 at *
 generalize BB (CQ Bv 1) = t1 at *
 generalize Bv = c at *
 refine goM ?_
 obtain ⟨_, H1, c1, rv, xv, rfl, m0⟩ := hsm K
 refine AA c1 ?_
 replace hM := hM.BH m0
 clear c1 m0
 refine goM ?_
 refine Aj (cs := Cj) T26 rfl fun b6 H2 hM => ?_
 refine AM T26 fun H3 hM => ?_
 refine goM ?_
 refine AM T3 fun H4 hM => ?_
 replace hM : Mem K H4 [.box b6 (BJ (kX c) rv), .ro (EY rv xv c.rows)] := hM
 obtain ⟨_, H5, c1, qa, rfl, ka, m1⟩ := Zb hB H4 (rv := rv) (Jl (hM.fact (F := EY rv xv c.rows) hsG)) cf2 ((hM.nil 1 AH).sl .here) (by simp)
 refine goM ?_
 refine AA c1 ?_
 replace hM := hM.BH m1
 clear c1 m1 hB
 refine goM ?_
 refine Aj (cs := Au) T32 rfl fun b7 H6 hM => ?_
 refine AM T32 fun H7 hM => ?_
 have hM0 : Mem K H7 [.box b6 (BJ (kX c) rv), .ro (EY rv xv c.rows)] := hM.Ea
 clear hM
 have hM := hM0
 clear hM0
 refine goM ?_
 obtain ⟨_, H8, c1, rv2, xv2, rfl, m0⟩ := hsm H7
 refine Be c1 (.inl m0.pre) ?_
 replace hM := hM.BH m0
 clear c1 m0
 refine goM ?_
 refine Qf (n := 256 + d) (z := (0 : Int)) 1 AH T27 rfl T3 rfl rfl rfl rfl rfl (by show (8 : Int) * ((256 + d : Nat) : Int) ≤ _ ∧ _; omega) fun z1 H9 hM => ?_
 obtain ⟨_, H10, c1, qb, rfl, kb, m1⟩ := Zb hL H9 (Jl (hM.fact (F := EY rv2 xv2 c.rows) hsG)) hcf (hM.sl .here) hlr
 refine goM ?_
 refine Be c1 (.inl m1.pre) ?_
 replace hM := hM.BH m1
 clear c1 m1 hL hlr
 refine goM ?_
 refine IZ (cs := Au) T32 rfl fun b9 H11 hM => ?_
 refine DT T32 fun H12 hM => ?_
 have hM0 : Mem K H12 [.box b6 (BJ (kX c) rv), .ro (EY rv xv c.rows)] := hM.Ea
 clear hM
 have hM := hM0
 clear hM0
 refine goM ?_
 obtain ⟨_, H13, c1, rv3, xv3, rfl, m0⟩ := hsm H12
 refine Be c1 (.inl m0.pre) ?_
 replace hM := hM.BH m0
 clear c1 m0
 refine goM ?_
 refine SD AH [-(d : Int), 1 + (d : Int)] [.int .i64 (-(d : Int)), .int .i64 (1 + (d : Int))] T27 rfl T3 rfl (Ba [-(d : Int), 1 + (d : Int)]) (by decide) fun e1 H14 hM => ?_
 obtain ⟨bo, oo, _, ji, rfl, _, jlo, _⟩ := (hM.sl .here).get T27 rfl T3 rfl hpv
 have jl := AF T3 rfl jlo
 clear jlo
 refine goM ?_
 refine SD AH [0, pv] [.int .i64 0, .int .i64 pv] T27 rfl T3 rfl (Ba [0, pv]) (by decide) fun e2 H15 hM => ?_
 clear ji jl
 obtain ⟨_, H16, c1, qc, rfl, kc, m1⟩ := Zb hP H15 (Jl (hM.fact (F := EY rv3 xv3 c.rows) hsG)) hcf (hM.sl .here) (by simp)
 refine goM ?_
 refine Be c1 (.inl m1.pre) ?_
 replace hM := hM.BH m1
 clear c1 m1 hP
 refine goM ?_
 refine IZ (cs := Au) T32 rfl fun b11 H17 hM => ?_
 refine DT T32 fun H18 hM => ?_
 have hM0 : Mem K H18 [.box b6 (BJ (kX c) rv), .ro (EY rv xv c.rows)] := hM.Ea
 clear hM
 have hM := hM0
 clear hM0
 obtain ⟨_, H19, c1, qd, rfl, kd, m1⟩ := gJ hRb H18 (rv := rv) (Jl (hM.fact (F := EY rv xv c.rows) hsG)) cf2 (fun b hb => by cases hb) (by simp)
 refine goM ?_
 refine AA c1 ?_
 replace hM := hM.BH m1
 clear c1 m1 hRb
 refine goM ?_
 refine Aj (cs := Au) T32 rfl fun b13 H20 hM => ?_
 refine AM T32 fun H21 hM => ?_
 have hM0 : Mem K H21 [.box b6 (BJ (kX c) rv)] := hM.Ea
 clear hM
 have hM := hM0
 clear hM0
 refine goM ?_
 refine Aa AH [-(d : Int), 7 + (d : Int)] [.int .i64 (-(d : Int)), .int .i64 (7 + (d : Int))] T27 rfl T3 rfl (Ba [-(d : Int), 7 + (d : Int)]) (by decide) fun e3 H22 hM => ?_
 obtain ⟨bo, oo, _, ji, rfl, _, jlo, _⟩ := (hM.sl .here).get T27 rfl T3 rfl hqv
 have jl := AF T3 rfl jlo
 clear jlo
 refine goM ?_
 refine Aa AH [0, qv] [.int .i64 0, .int .i64 qv] T27 rfl T3 rfl (Ba [0, qv]) (by decide) fun e4 H23 hM => ?_
 clear ji jl
 have c1 := Pp H23 e4 [0, qv] (hM.sl .here) (by simp)
 rw [hJb] at c1
 simp only at c1
 refine goM ?_
 refine AA c1 ?_
 clear c1 hJb
 refine goM ?_
 refine Vl (n := 256 + d) (z := (0 : Int)) 1 AH T27 rfl T3 rfl rfl rfl rfl rfl (by show (8 : Int) * ((256 + d : Nat) : Int) ≤ _ ∧ _; omega) fun z2 H24 hM => ?_
 have c1 := Pp H24 z2 (List.replicate (256 + d) 0) (hM.sl .here) (by rw [List.length_replicate]; omega)
 rw [hJl] at c1
 simp only at c1
 refine goM ?_
 refine AA c1 ?_
 clear c1 hJl
 refine goM ?_
 refine Vl (n := 256 + d) (z := (0 : Int)) 1 AH T27 rfl T3 rfl rfl rfl rfl rfl (by show (8 : Int) * ((256 + d : Nat) : Int) ≤ _ ∧ _; omega) fun z3 H25 hM => ?_
 have x0 : (List.replicate (256 + d) (0 : Int))[0]? = some 0 := by rw [List.getElem?_replicate, if_pos (by omega)]
 obtain ⟨be, ie, hput⟩ := hM.elemAt (sz := 1) (R := AH) (v := z3) .here T27 rfl T3 rfl x0 0 T3 (by decide)
 obtain ⟨H26, st, hM2⟩ := hput (.int .i64 (-1)) (-1) rfl rfl (fun cs hl hR => by rw [hR]; rfl)
 replace ie : idxV T 27 z3 0 = some (.ptr be 0) := ie
 replace st : storeV T 3 H25 be 0 (.int .i64 (-1)) = some H26 := st
 have ts := (hM.sl .here).cells
 clear hput x0
 refine goM ?_
 refine Dc st ?_
 clear hM st
 have hM := hM2
 clear hM2
 have c1 := Pp H26 z3 ((List.replicate (256 + d) 0).set 0 (-1)) (hM.sl .here) (by rw [List.length_set, List.length_replicate]; omega)
 rw [hJm] at c1
 simp only at c1
 refine goM ?_
 refine AA c1 ?_
 clear c1 hJm ie
 refine goM ?_
 obtain ⟨_, H27, c1, rv4, xv4, rfl, m0⟩ := hsm H26
 refine AA c1 ?_
 obtain ⟨_, H28, c2, q, rfl, k0, m1⟩ := dC hne H27 rv4 (Jl (m0.fact .here)) hcf
 replace hM := hM.grow m0.pre
 clear c1 m0
 refine goM ?_
 refine AA c2 ?_
 obtain ⟨y1', y2', y3', y4'⟩ := (k0.at_ m1).Ga
 replace hM := hM.BH m1
 clear c2 m1 hsm hne
 refine goM ?_
 refine Aj (cs := Au) T32 rfl fun b22 H29 hM => ?_
 refine AM T32 fun H30 hM => ?_
 have hlk := k0.lk
 have hvl := k0.val
 rw [hcn] at hlk
 obtain ⟨u, mv, ev, sv, rvs, xs⟩ := q
 simp only at hlk hvl y1' y2' y3' y4' hM
 replace hM : Mem K H30 (Cz u mv ev sv rvs xs S ++ [.box b22 (stC S.c u mv ev sv)]) := Mem.Fu (L := Cz u mv ev sv rvs xs S) ((hM.front (r := .ro (pack (Cz u mv ev sv rvs xs S))) tkG).sub sbG)
 unfold Cz at hM
 simp only [List.cons_append, List.nil_append] at hM
 rw [hen, hsn, hcn] at hM
 obtain ⟨be, ie, hput⟩ := hM.elemAt (sz := 3) (R := BE) (v := sv) (xs := [⟨0, t0, 1⟩, ⟨1, t1, 1⟩]) hsG T30 rfl T63 rfl (k := 0) rfl 2 T3 (by decide)
 obtain ⟨H31, st9, hM9⟩ := hput (.int .i64 2) ⟨0, t0, 2⟩ rfl rfl (fun cs hl hR => by rw [hR]; rfl)
 replace ie : idxV T 30 sv 0 = some (.ptr be (0 * 3)) := ie
 clear hput
 refine goM ?_
 refine Dc st9 ?_
 clear hM st9
 have hM := hM9
 clear hM9
 have hat : Da H31 u mv ev sv xs ⟨c, S.ms, [], kS t0 t1⟩ := ⟨DL (hM.fact (F := pack (Bl u rvs c.rows)) hsG) hlk, hM.sl (v := mv) (xs := xs) hsG, hvl, GH (hM.fact (F := pack (Bn xs)) hsG), hM.sl (v := ev) (xs := []) hsG, hM.sl (v := sv) (xs := List.set [(⟨0, t0, 1⟩ : Ent), (⟨1, t1, 1⟩ : Ent)] 0 (⟨0, t0, 2⟩ : Ent)) hsG⟩
 have sf : St.Fit ⟨c, S.ms, [], kS t0 t1⟩ := ⟨hcf, nf.2, nf.3, by simp, by simp [kS]⟩
 clear ie
 obtain ⟨_, H32, c1, qs, rfl, ks, m1⟩ := cG hS H31 hat sf
 clear hat hS
 refine goM ?_
 refine AA c1 ?_
 replace hM := hM.BH m1
 clear c1 m1
 refine goM ?_
 refine Aj (cs := Au) T32 rfl fun b24 H33 hM => ?_
 refine AM T32 fun H34 hM => ?_
 have hat2 : Da H34 u mv ev sv xs ⟨c, S.ms, [], kS t0 t1⟩ := ⟨DL (hM.fact (F := pack (Bl u rvs c.rows)) hsG) hlk, hM.sl (v := mv) (xs := xs) hsG, hvl, GH (hM.fact (F := pack (Bn xs)) hsG), hM.sl (v := ev) (xs := []) hsG, hM.sl (v := sv) (xs := List.set [(⟨0, t0, 1⟩ : Ent), (⟨1, t1, 1⟩ : Ent)] 0 (⟨0, t0, 2⟩ : Ent)) hsG⟩
 have c3 := UJ H34 _ u mv ev sv xs hat2 sf
 rw [hD] at c3
 simp only at c3
 clear hat2 hD hvl hlk
 refine goM ?_
 refine AA c3 ?_
 clear c3
 refine goM ?_
 refine AA (MM _ _) ?_
 refine goM ?_
 refine AA (MM _ _) ?_
 refine goM ?_
 refine AA (MM _ _) ?_
 refine goM ?_
 refine AA (MM _ _) ?_
 refine goM ?_
 refine AA (MM _ _) ?_
 refine goM ?_
 refine AA (MM _ _) ?_
 refine goM ?_
 refine AA (MM _ _) ?_
 refine goM ?_
 refine AA (MM _ _) ?_
 refine goM ?_
 refine AA (MM _ _) ?_
 refine goM ?_
 exact AY ⟨rfl, hM.pre⟩
end Go.Proofs.YtncjbjlmgnjhiaaGreat.VM
