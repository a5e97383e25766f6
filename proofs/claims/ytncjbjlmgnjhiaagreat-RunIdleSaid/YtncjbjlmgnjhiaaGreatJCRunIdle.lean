/- Joined texts: VmW, MemB, IntA, RunQ, LawF. -/
import Derived.Test.YtncjbjlmgnjhiaaGreatJC1
import Derived.Test.YtncjbjlmgnjhiaaGreatJC2
import Derived.Test.YtncjbjlmgnjhiaaGreatJC3
import Derived.Test.YtncjbjlmgnjhiaaGreatJC4
import Derived.Test.YtncjbjlmgnjhiaaGreatJC5
import Derived.Test.YtncjbjlmgnjhiaaGreatJC6
import Derived.Test.YtncjbjlmgnjhiaaGreatJC7
import Derived.Test.YtncjbjlmgnjhiaaGreatJC8
import Derived.Test.YtncjbjlmgnjhiaaGreatJC9
import Derived.Test.YtncjbjlmgnjhiaaGreatJC10
import Derived.Test.YtncjbjlmgnjhiaaGreatJC11
import Derived.Test.YtncjbjlmgnjhiaaGreatJC12
import Derived.Test.YtncjbjlmgnjhiaaGreatJC13
import Derived.Test.YtncjbjlmgnjhiaaGreatJCRunAllp0
import Derived.Test.YtncjbjlmgnjhiaaGreatJCRunAll
namespace Go.Proofs.YtncjbjlmgnjhiaaGreat.VM
open Go
set_option linter.unusedVariables false
set_option linter.unusedSimpArgs false
variable {T : Tab} {α : Type} {D : Type}
theorem Un {K : Heap} {t : Nat} {ts : List Nat} {vs : List V} {ds : List (DataW D)} (h : RdAll T K (t :: ts) vs ds) : ∃ v vs' d ds', vs = v :: vs' ∧ ds = d :: ds' ∧ RdV T K t v d ∧ RdAll T K ts vs' ds' := by
 match vs, ds, h with
 | v :: vs', d :: ds', ⟨h1, h2⟩ => exact ⟨v, vs', d, ds', rfl, rfl, h1, h2⟩
theorem XQ {K : Heap} {vs : List V} {ds : List (DataW D)} (h : RdAll T K [] vs ds) : vs = [] ∧ ds = [] := by
 match vs, ds, h with
 | [], [], _ => exact ⟨rfl, rfl⟩
end Go.Proofs.YtncjbjlmgnjhiaaGreat.VM
namespace Go.Proofs.YtncjbjlmgnjhiaaGreat.VM
open Go
set_option linter.unusedVariables false
set_option linter.unusedSimpArgs false
variable {P : Program} {T : Tab} {α β : Type}
section steps
variable {ops : Array Oper} {rest : List Oper} {Q : Rho → Heap → Prop} {ρ : Rho} {h h' B : Heap} {v a w : V} {k : Nat} {d : Option Nat} {op : Op} {t t' : Nat} {p : String} {af : Array Edge} {L : List Res} {f : Res → List Res} {x y : Operand} {cs ds cs' : List V} {i ie : TI} {ps : List DZ}
end steps
theorem iV {c : Code} {id : Nat} {n : Rho → Heap → Prop} {Q : Exit → Rho → Heap → Prop} {ρ : Rho} {h : Heap} (I : Rho → Heap → Prop) (h1 : wq P T c (Bk id (Th I fun _ _ _ => False)) ρ h) (h2 : ∀ ρ h, I ρ h → n ρ h) : wq P T c (Bk id (Th n Q)) ρ h :=
 Bt c (fun x ρ h hx => by
  cases x with
  | normal => exact AS (AR (h2 ρ h hx))
  | exit id' =>
   simp only [Bk] at hx ⊢
   split at hx
   ·rename_i e
    rw [if_pos e]; exact AR (h2 ρ h hx)
   ·exact hx.elim
  | _ => exact hx.elim) h1
end Go.Proofs.YtncjbjlmgnjhiaaGreat.VM
namespace Go.Proofs.YtncjbjlmgnjhiaaGreat.VM
open Go
set_option linter.unusedVariables false
set_option linter.unusedSimpArgs false
attribute [local irreducible] wq wqL wqD wqE wqO Th Bk EndR
set_option maxHeartbeats 8000000
theorem iN (x : Int) (m : Nat) (hm : m < 2 ^ 62) (hmb : (BitVec.ofInt IntKind.i64.bits (m : Int)).toNat = m) : ∃ y : Int, IntKind.i64.wrap ((BitVec.ofInt IntKind.i64.bits x &&& BitVec.ofInt IntKind.i64.bits (m : Int)).toNat : Int) = y ∧ 0 ≤ y ∧ y ≤ m := by
 have h : (BitVec.ofInt IntKind.i64.bits x &&& BitVec.ofInt IntKind.i64.bits (m : Int)).toNat ≤ m := by
  rw [BitVec.toNat_and]
  exact Nat.le_trans Nat.and_le_right (by rw [hmb]; exact Nat.le_refl _)
 exact ⟨((BitVec.ofInt IntKind.i64.bits x &&& BitVec.ofInt IntKind.i64.bits (m : Int)).toNat : Int), Am (by omega), by omega, by omega⟩
def tAt (s : St) (q : Nat) : Int := (DB s.ms q).1.t
theorem Eb {s : St} {q : Nat} {o : Chk × Int} (h : s.ms[q]? = some o) : tAt s q = o.1.t := by unfold tAt; rw [Ep h]
theorem Zp {s : St} (h : It s) {q : Nat} (hq : q < s.ms.length) : tAt s q ≤ s.c.total := by
 have e := List.getElem?_eq_getElem hq
 rw [Eb e]
 exact h.tot _ (List.mem_of_getElem? e)
theorem dU {s : St} {p : Nat} {o : Chk × Int} (h : EN s p o) : (doS s p).ms[p]? = some (Ci s p, GC s p) ∧ (Ci s p).t = o.1.t + 1 := by
 have hl := (List.getElem?_eq_some_iff.1 h.at_).1
 have e : (doS s p).ms[p]? = some (Ci s p, GC s p) := List.getElem?_set_self hl
 exact ⟨e, by rw [UA]; exact (HW h.ok h.at_ h.t).2.1⟩
theorem fD {c : Cfg} {s u : St} (h : DO c s) {x : Int} (hs : DA s x = some u) {q : Nat} (hq : q < s.ms.length) : tAt u q = if x = (q : Int) then min c.total (tAt s q + 1) else tAt s q := by
 have eq := List.getElem?_eq_getElem hq
 rcases En h x with ⟨p, o, rfl, pk, _, e⟩ | ⟨p, o, rfl, ho, ht, _, e⟩ | ⟨_, _, e⟩
 ·rw [e] at hs; cases hs
  obtain ⟨e1, e2⟩ := dU pk
  have := (HW pk.ok pk.at_ pk.t).2.2.1
  rw [h.c] at this
  by_cases hpq : p = q
  ·subst hpq
   rw [if_pos rfl, Eb e1, Eb pk.at_]
   simp only
   omega
  ·rw [if_neg (by omega), Eb ((GP pk).rest q (Ne.symm hpq) |>.trans eq), Eb eq]
 ·rw [e] at hs; cases hs
  rw [h.c] at ht
  by_cases hpq : p = q
  ·subst hpq
   rw [if_pos rfl, Eb ho]; omega
  ·rw [if_neg (by omega)]
 ·rw [e] at hs; cases hs
theorem Zm {c : Cfg} {s u : St} (h : DO c s) {x : Int} (hs : DA s x = some u) : u.ms.length = s.ms.length := by
 have h1 := (Gs h hs).1
 have e1 := h1.ok.len
 have e2 := h.ok.len
 rw [h1.c] at e1
 rw [h.c] at e2
 omega
def Ll (q : Nat) (ps : List Int) : Nat := (ps.filter fun x => decide (x = (q : Int))).length
theorem dF {c : Cfg} : ∀ (ps : List Int) (s t : St), DO c s → ps.foldlM DA s = some t → ∀ q, q < s.ms.length → tAt t q = min c.total (tAt s q + Ll q ps)
 | [], s, t, h, e, q, hq => by
  cases e
  have := Zp h.ok hq
  rw [h.c] at this
  simp [Ll]; omega
 | x :: ps, s, t, h, e, q, hq => by
  rw [List.foldlM_cons] at e
  cases hx : DA s x with
  | none => rw [hx] at e; cases e
  | some u =>
   rw [hx] at e
   have ih := dF ps u t (Gs h hx).1 e q (by rw [Zm h hx]; exact hq)
   rw [ih, fD h hx hq]
   have hle := Zp h.ok hq
   rw [h.c] at hle
   unfold Ll
   rw [List.filter_cons]
   by_cases hxq : x = (q : Int)
   ·simp only [hxq, decide_true, if_true, List.length_cons]
    omega
   ·simp only [hxq, decide_false, if_false, Bool.false_eq_true]
theorem jJ {s : St} : Ir s = true ↔ ∀ q, q < s.ms.length → tAt s q = s.c.total := by
 unfold Ir
 rw [List.all_eq_true]
 constructor
 ·intro h q hq
  have e := List.getElem?_eq_getElem hq
  rw [Eb e]
  exact of_decide_eq_true (h _ (List.mem_of_getElem? e))
 ·intro h m hm
  obtain ⟨q, hq⟩ := List.mem_iff_getElem?.1 hm
  have := h q (List.getElem?_eq_some_iff.1 hq).1
  rw [Eb hq] at this
  exact decide_eq_true this
theorem jN {c : Cfg} {s : St} (h : DO c s) (hd : Ir s = true) : ∀ ps : List Int, (∀ x ∈ ps, 0 ≤ x ∧ x < c.m) → ps.foldlM DA s = some s
 | [], _ => rfl
 | x :: ps, hx => by
  have h1 := hx x (List.mem_cons_self ..)
  have ih := jN h hd ps fun y hy => hx y (List.mem_cons_of_mem _ hy)
  rw [List.foldlM_cons]
  rcases En h x with ⟨p, o, rfl, pk, _, e⟩ | ⟨p, o, rfl, _, _, _, e⟩ | ⟨ho, _, e⟩
  ·have := jJ.1 hd p (List.getElem?_eq_some_iff.1 pk.at_).1
   rw [Eb pk.at_] at this
   exact absurd this pk.t
  ·rw [e]; exact ih
  ·omega
theorem kP (c : Cfg) (ps qs : List Int) {s : St} (h : GA c ps = some s) : GA c (ps ++ qs) = qs.foldlM DA s := by
 unfold GA at h ⊢
 rw [List.foldlM_append, h]; rfl
theorem jW {c : Cfg} (hc : Al c = true) {ps qs : List Int} {s : St} (h : GA c ps = some s) (hd : Ir s = true) (hq : ∀ x ∈ qs, 0 ≤ x ∧ x < c.m) : GA c (ps ++ qs) = some s := by
 rw [kP c ps qs h]
 exact jN (bT hc h) hd qs hq
theorem kG {c : Cfg} (hc : Al c = true) {ps : List Int} {s : St} (h : GA c ps = some s) (hall : ∀ q : Nat, (q : Int) < c.m → c.total ≤ (Ll q ps : Int)) : Ir s = true := by
 have hs := bT hc h
 have h0 := GU hc
 have l0 := h0.ok.len
 have ls := hs.ok.len
 rw [hs.c] at ls
 have l0' : ((FX c).ms.length : Int) = c.m := l0
 refine jJ.2 fun q hq => ?_
 have hq' : q < (FX c).ms.length := by omega
 have := dF ps _ _ h0 h q hq'
 have h1 := hall q (by omega)
 have h2 : 0 ≤ tAt (FX c) q := by
  have e := List.getElem?_eq_getElem hq'
  rw [Eb e]
  exact (Ou (h0.ok.fits _ (List.mem_of_getElem? e))).1
 rw [this, hs.c]; omega
theorem jP (q : Nat) (a b : List Int) : Ll q (a ++ b) = Ll q a + Ll q b := by unfold Ll; rw [List.filter_append, List.length_append]
theorem jU (H : Heap) {rv : V} (hr : Rows H rv Bv.rows) : Call Tryz.prog 40 [.agg (BJ Bv rv)] H (.bool true) H := by
 have := EA H Bv rv hr (by decide) (fun r hr => by
  have h2 := Jo.row r hr
  omega)
 rw [IJ] at this
 exact this
theorem jS {a b : List Int} (ha : ∀ x ∈ a, 0 ≤ x ∧ x ≤ 1) (hb : ∀ x ∈ b, 0 ≤ x ∧ x ≤ 1) (la : a.length ≤ 20) (lb : b.length ≤ 31) :
  ∃ A, FH Bv (a ++ [0, 0, 0, 1, 1, 1]) = (A, 0) ∧ FH Bv (a ++ [0, 0, 0, 1, 1, 1] ++ b) = (A, 0) ∧ Hn A = (true, 0) ∧ A.Fit := by
 have e2 : Bv.m = 2 := rfl
 have e3 : Bv.total = 3 := rfl
 have hin : ∀ x ∈ a ++ [0, 0, 0, 1, 1, 1], 0 ≤ x ∧ x < Bv.m := fun x hx => by
  rw [e2]
  rcases List.mem_append.1 hx with hx | hx
  ·have := ha x hx; omega
  ·simp at hx; rcases hx with rfl | rfl <;> omega
 have hinb : ∀ x ∈ b, 0 ≤ x ∧ x < Bv.m := fun x hx => by rw [e2]; have := hb x hx; omega
 obtain ⟨A, hO, hR, hst, _⟩ := RW IJ (ps := a ++ [0, 0, 0, 1, 1, 1]) (by rw [List.length_append]; show a.length + 6 ≤ 256; omega) hin
 have hd : Ir A = true := kG IJ hO fun q hq => by
  rw [jP, e3]
  have hq2 : q = 0 ∨ q = 1 := by rw [e2] at hq; omega
  have : Ll q [0, 0, 0, 1, 1, 1] = 3 := by rcases hq2 with rfl | rfl <;> decide
  omega
 have hO2 := jW IJ hO hd hinb
 refine ⟨A, hR, ?_, by rw [Lu (RL hst.ok), hd], Uf hst.ok (by rw [hst.c]; exact Jo)⟩
 have hok : JS Bv (a ++ [0, 0, 0, 1, 1, 1] ++ b) = true := TR IJ (by rw [List.length_append, List.length_append]; show a.length + 6 + b.length ≤ 256; omega)
 unfold FH
 rw [hok, if_pos rfl, hO2]
theorem law_runIdle {D : Type} (K : Heap) (vs : List V) (ds : List (DataW D)) (ro : Ro K) (h : RdAll T K [27, 3] vs ds) : ∃ K', Call Tryz.prog 10 vs K (.bool true) K' := by
 obtain ⟨v1, vs, d1, ds, rfl, rfl, hv1, h⟩ := Un h
 obtain ⟨v2, vs, d2, ds, rfl, rfl, hv2, h⟩ := Un h
 obtain ⟨rfl, rfl⟩ := XQ h
 obtain ⟨ps, hps, hpl⟩ := RO hv1
 obtain ⟨more, rfl, _⟩ := hv2.int T3 rfl
 clear hv1 hv2 h
 replace hpl : ps.length * 8 ≤ 140737488351232 := Nat.le_trans hpl (by decide)
 have hlen := hps.len T27 rfl
 obtain ⟨n, hn⟩ : ∃ n, ps.length = n := ⟨_, rfl⟩
 rw [hn] at hlen hpl
 obtain ⟨mi, hmi, hmi0, hmi1⟩ := iN more 31 (by decide) (by decide)
 replace hmi : IntKind.i64.wrap ((BitVec.ofInt IntKind.i64.bits more &&& BitVec.ofInt IntKind.i64.bits 31).toNat : Int) = mi := hmi
 obtain ⟨m, rfl⟩ : ∃ m : Nat, mi = m := ⟨mi.toNat, by omega⟩
 refine ⟨K, ?_⟩
 refine AQ fit mixed Tryz.func10 rfl rfl rfl (by kernel_rfl) rfl fun hM => ?_
 refine goM ?_
 refine AA (YB _) ?_
 refine goM ?_
 replace hM := hM.nil 1 AH
 refine iV (fun ρ h => ∃ (v : V) (a : List Int), a.length ≤ 20 ∧ (∀ x ∈ a, 0 ≤ x ∧ x ≤ 1) ∧ Mem K h [.own 1 AH v a] ∧ ρ 1 = .int .i64 more ∧ ρ 5 = v) ?_ ?_
 ·refine AT (fun cc ρ h => ∃ (k : Nat) (v : V) (a : List Int), k ≤ n ∧ k ≤ 20 ∧ cc = 20 - k ∧ a.length = k ∧ (∀ x ∈ a, 0 ≤ x ∧ x ≤ 1) ∧ Mem K h [.own 1 AH v a] ∧ ρ 0 = v1 ∧ ρ 1 = .int .i64 more ∧ ρ 5 = v ∧ ρ 6 = .int .i64 (k : Int)) ⟨0, .AN, [], Nat.zero_le _, Nat.zero_le _, rfl, rfl, (fun x hx => by cases hx), hM, by simp [AD, AB, BT, *]⟩ ?_
  clear hM
  rintro _ ρ h ⟨k, v, a, hk, hk20, rfl, hal, hain, hM, g0, g1, g5, g6⟩
  by_cases hgo : k < n ∧ k < 20
  ·obtain ⟨hk', hk2⟩ := hgo
   have dk : decide ((k : Int) < (n : Int)) = true := decide_eq_true (by omega)
   have d2 : decide ((k : Int) < 20) = true := decide_eq_true (by omega)
   have hw := AG (n := k) (by omega)
   obtain ⟨x, hx⟩ : ∃ x, ps[k]? = some x := ⟨ps[k]'(by omega), by simp⟩
   obtain ⟨bo, oo, _, ji, rfl, _, jlo, _⟩ := (hps.mono hM.pre).get T27 rfl T3 rfl hx
   have jl := AF T3 rfl jlo
   obtain ⟨y, hy, hy0, hy1⟩ := iN x 1 (by decide) (by decide)
   replace hy : IntKind.i64.wrap ((BitVec.ofInt IntKind.i64.bits x &&& BitVec.ofInt IntKind.i64.bits 1).toNat : Int) = y := hy
   have hain2 : ∀ z ∈ a ++ [y], 0 ≤ z ∧ z ≤ 1 := fun z hz => by
    rcases List.mem_append.1 hz with hz | hz
    ·exact hain z hz
    ·simp at hz; subst hz; exact ⟨hy0, by omega⟩
   clear hx jlo hain hmi
   refine goM ?_
   refine Aa AH [y] [.int .i64 y] T27 rfl T3 rfl (Ba [y]) (by decide) fun e1 H4 hM => ?_
   refine goM ?_
   refine Bg (hM.sl .here) (xs := a) (hh := .there .here) (hb := by simp only [List.length_cons, List.length_nil]; omega) fun v2 H5 hM => ?_
   replace hM := hM.drop
   refine goM ?_
   exact ⟨20 - (k + 1), by omega, k + 1, v2, a ++ [y], by omega, by omega, rfl, by rw [List.length_append, hal]; rfl, hain2, hM, by simp [AD, AB, *]⟩
  ·by_cases hkn : k < n
   ·have dk : decide ((k : Int) < (n : Int)) = true := decide_eq_true (by omega)
    have d2 : decide ((k : Int) < 20) = false := decide_eq_false (by omega)
    clear hgo
    refine goM ?_
    exact ⟨v, a, by omega, hain, hM, by simp [AD, AB, *]⟩
   ·have dk : decide ((k : Int) < (n : Int)) = false := decide_eq_false (by omega)
    clear hgo
    refine goM ?_
    exact ⟨v, a, by omega, hain, hM, by simp [AD, AB, *]⟩
 ·clear hM hlen hps hpl
  rintro ρ h ⟨v, a, hal, hain, hM, g1, g5⟩
  have hI := fun b hb lb => jS hain (b := b) hb hal lb
  have hsm := Zl
  have hcf := Jo
  have hcm : ∀ (H : Heap) {rv : V}, Rows H rv Bv.rows → Call Tryz.prog 40 [.agg (BJ Bv rv)] H (.bool true) H := jU
  generalize Bv = c at *
  clear hain
  refine goM ?_
  refine Aa AH [0, 0, 0, 1, 1, 1] [.int .i64 0, .int .i64 0, .int .i64 0, .int .i64 1, .int .i64 1, .int .i64 1] T27 rfl T3 rfl (Ba [0, 0, 0, 1, 1, 1]) (by decide) fun e1 H1 hM => ?_
  refine goM ?_
  refine Bg (hM.sl .here) (xs := a) (hh := .there .here) (hb := by simp only [List.length_cons, List.length_nil]; omega) fun w H2 hM => ?_
  replace hM := hM.drop
  obtain ⟨A, hR, _, hD, Af⟩ := hI [] (fun x hx => by cases hx) (by decide)
  have hpl : (a ++ [0, 0, 0, 1, 1, 1]).length ≤ 26 := by rw [List.length_append]; show a.length + 6 ≤ 26; omega
  obtain ⟨P, hP⟩ : ∃ P, a ++ [0, 0, 0, 1, 1, 1] = P := ⟨_, rfl⟩
  have hI2 : ∀ b, (∀ x ∈ b, 0 ≤ x ∧ x ≤ 1) → b.length ≤ 31 → FH c (P ++ b) = (A, 0) := fun b hb lb => by
   obtain ⟨A', h1, h2, _, _⟩ := hI b hb lb
   rw [h1] at hR
   cases hR
   rw [← hP]; exact h2
  rw [hP] at hM hR hpl
  clear hP hI
  refine goM ?_
  obtain ⟨_, H3, c1, rv, xv, rfl, m0⟩ := hsm H2
  refine AA c1 ?_
  replace hM := hM.BH m0
  clear c1 m0
  obtain ⟨_, H4, c1, qa, rfl, ka, m1⟩ := Zb hR H3 (Jl (hM.fact (F := EY rv xv c.rows) hsG)) hcf (hM.sl (v := w) (xs := P) hsG) (by omega)
  refine goM ?_
  refine AA c1 ?_
  replace hM := hM.BH m1
  clear c1 m1
  refine goM ?_
  refine Aj (cs := Au) T32 rfl fun b7 H5 hM => ?_
  refine AM T32 fun H6 hM => ?_
  have c1 := UJ H6 A qa.u qa.mv qa.ev qa.sv qa.xs (ka.at_ hM) Af
  rw [hD] at c1
  simp only at c1
  refine goM ?_
  refine AA c1 ?_
  clear c1 hD
  have hM0 : Mem K H6 [.own 1 AH w (P ++ []), .box b7 (qa.c A), qa.own A] := by
   rw [List.append_nil]
   exact ((hM.front (r := .box b7 (qa.c A)) tkG).front (r := .own 1 AH w P) tkG).sub sbG
  refine goM ?_
  refine AT (fun cc ρ h => ∃ (k : Nat) (u : V) (b : List Int), k ≤ m ∧ cc = m - k ∧ b.length = k ∧ (∀ x ∈ b, 0 ≤ x ∧ x ≤ 1) ∧ Mem K h [.own 1 AH u (P ++ b), .box b7 (qa.c A), qa.own A] ∧ ρ 1 = .int .i64 more ∧ ρ 5 = u ∧ ρ 7 = .ptr b7 0 ∧ ρ 8 = .int .i64 0 ∧ ρ 9 = .bool true ∧ ρ 10 = .int .i64 0 ∧ ρ 11 = .int .i64 (k : Int)) ⟨0, w, [], Nat.zero_le _, rfl, rfl, (fun x hx => by cases hx), hM0, by simp [AD, AB, *]⟩ ?_
  repeat clear hM
  clear hM0 hR g1 g5
  rintro _ ρ h ⟨k, u, b, hk, rfl, hbl, hbin, hM, g1, g5, g7, g8, g9, g10, g11⟩
  by_cases hk' : k < m
  ·have dk : decide ((k : Int) < (m : Int)) = true := decide_eq_true (by omega)
   have hw := AG (n := k) (by omega)
   obtain ⟨y, hy, hy0, hy1⟩ := iN (k : Int) 1 (by decide) (by decide)
   replace hy : IntKind.i64.wrap ((BitVec.ofInt IntKind.i64.bits (k : Int) &&& BitVec.ofInt IntKind.i64.bits 1).toNat : Int) = y := hy
   have hbin2 : ∀ z ∈ b ++ [y], 0 ≤ z ∧ z ≤ 1 := fun z hz => by
    rcases List.mem_append.1 hz with hz | hz
    ·exact hbin z hz
    ·simp at hz; subst hz; exact ⟨hy0, by omega⟩
   have hlb : (P ++ b).length ≤ 60 := by rw [List.length_append]; omega
   clear hbin hI2
   refine goM ?_
   refine Aa AH [y] [.int .i64 y] T27 rfl T3 rfl (Ba [y]) (by decide) fun e1 H7 hM => ?_
   refine goM ?_
   refine Bg (hM.sl .here) (xs := P ++ b) (hh := .there .here) (hb := by simp only [List.length_cons, List.length_nil]; omega) fun u2 H8 hM => ?_
   replace hM := hM.drop
   rw [List.append_assoc] at hM
   refine goM ?_
   exact ⟨m - (k + 1), by omega, k + 1, u2, b ++ [y], hk', rfl, by rw [List.length_append, hbl]; rfl, hbin2, hM, by simp [AD, AB, *]⟩
  ·have dk : decide ((k : Int) < (m : Int)) = false := decide_eq_false (by omega)
   have hR := hI2 b hbin (by omega)
   have hlb : (P ++ b).length ≤ 60 := by rw [List.length_append]; omega
   clear hI2 hbin
   refine goM ?_
   obtain ⟨_, H3, c1, rv, xv, rfl, m0⟩ := hsm h
   refine AA c1 ?_
   replace hM := hM.BH m0
   clear c1 m0
   obtain ⟨_, H4, c1, qb, rfl, kb, m1⟩ := Zb hR H3 (Jl (hM.fact (F := EY rv xv c.rows) hsG)) hcf (hM.sl (v := u) (xs := P ++ b) hsG) (by omega)
   refine goM ?_
   refine AA c1 ?_
   replace hM := hM.BH m1
   clear c1 m1
   refine goM ?_
   refine Aj (cs := Au) T32 rfl fun b12 H5 hM => ?_
   refine AM T32 fun H6 hM => ?_
   have c1 := fC H6 A (ka.at_ hM) (kb.at_ hM) Af
   refine goM ?_
   refine AA (MM _ _) ?_
   refine goM ?_
   refine AA (MM _ _) ?_
   refine goM ?_
   refine AA (MM _ _) ?_
   refine goM ?_
   refine AA c1 ?_
   refine goM ?_
   obtain ⟨_, H7, c1, rv2, xv2, rfl, m0⟩ := hsm H6
   refine AA c1 ?_
   replace hM := hM.BH m0
   have c1 := hcm H7 (Jl (hM.fact (F := EY rv2 xv2 c.rows) .here))
   refine goM ?_
   refine AA c1 ?_
   refine goM ?_
   exact AY ⟨rfl, hM.pre⟩
end Go.Proofs.YtncjbjlmgnjhiaaGreat.VM
