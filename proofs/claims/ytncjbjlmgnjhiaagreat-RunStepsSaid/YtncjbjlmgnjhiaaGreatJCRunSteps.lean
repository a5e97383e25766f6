/- Joined texts: VmW, LawE. -/
import Derived.Test.YtncjbjlmgnjhiaaGreatJC1
import Derived.Test.YtncjbjlmgnjhiaaGreatJC2
import Derived.Test.YtncjbjlmgnjhiaaGreatJC3
import Derived.Test.YtncjbjlmgnjhiaaGreatJC4
import Derived.Test.YtncjbjlmgnjhiaaGreatJC5
import Derived.Test.YtncjbjlmgnjhiaaGreatJC6
import Derived.Test.YtncjbjlmgnjhiaaGreatJC7
import Derived.Test.YtncjbjlmgnjhiaaGreatJC8
import Derived.Test.YtncjbjlmgnjhiaaGreatJC9
import Derived.Test.YtncjbjlmgnjhiaaGreatJC10
import Derived.Test.YtncjbjlmgnjhiaaGreatJC11
import Derived.Test.YtncjbjlmgnjhiaaGreatJC12
import Derived.Test.YtncjbjlmgnjhiaaGreatJC13
import Derived.Test.YtncjbjlmgnjhiaaGreatJCRunAllp0
import Derived.Test.YtncjbjlmgnjhiaaGreatJCRunAll
namespace Go.Proofs.YtncjbjlmgnjhiaaGreat.VM
open Go
set_option linter.unusedVariables false
set_option linter.unusedSimpArgs false
variable {T : Tab} {α : Type} {D : Type}
theorem Un {K : Heap} {t : Nat} {ts : List Nat} {vs : List V} {ds : List (DataW D)} (h : RdAll T K (t :: ts) vs ds) : ∃ v vs' d ds', vs = v :: vs' ∧ ds = d :: ds' ∧ RdV T K t v d ∧ RdAll T K ts vs' ds' := by
 match vs, ds, h with
 | v :: vs', d :: ds', ⟨h1, h2⟩ => exact ⟨v, vs', d, ds', rfl, rfl, h1, h2⟩
theorem XQ {K : Heap} {vs : List V} {ds : List (DataW D)} (h : RdAll T K [] vs ds) : vs = [] ∧ ds = [] := by
 match vs, ds, h with
 | [], [], _ => exact ⟨rfl, rfl⟩
end Go.Proofs.YtncjbjlmgnjhiaaGreat.VM
namespace Go.Proofs.YtncjbjlmgnjhiaaGreat.VM
open Go
set_option linter.unusedVariables false
set_option linter.unusedSimpArgs false
attribute [local irreducible] wq wqL wqD wqE wqO Th Bk EndR
set_option maxHeartbeats 8000000
theorem law_runSteps {D : Type} (K : Heap) (vs : List V) (ds : List (DataW D)) (ro : Ro K) (h : RdAll T K [26, 27] vs ds) : ∃ K', Call Tryz.prog 5 vs K (.bool true) K' := by
 obtain ⟨v1, vs, d1, ds, rfl, rfl, hv1, h⟩ := Un h
 obtain ⟨v2, vs, d2, ds, rfl, rfl, hv2, h⟩ := Un h
 obtain ⟨rfl, rfl⟩ := XQ h
 obtain ⟨c, rv, rfl, hr, cf⟩ := XR hv1
 obtain ⟨ps, hps, hpl⟩ := RO hv2
 clear hv1 hv2 h
 replace hpl : ps.length * 8 ≤ 140737488351232 := Nat.le_trans hpl (by decide)
 have s3 : rv.cells = [rv] ∧ rv.isTup = false := by obtain ⟨_, h, _⟩ := hr; exact h.cells
 have hlen := hps.len T27 rfl
 obtain ⟨n, hn⟩ : ∃ n, ps.length = n := ⟨_, rfl⟩
 rw [hn] at hlen hpl
 refine ⟨K, ?_⟩
 refine AQ fit mixed Tryz.func5 rfl rfl rfl (by kernel_rfl) rfl fun hM => ?_
 refine AO (AK ?_)
 refine Ax T26 fun b2 H1 hM => ?_
 refine goM ?_
 refine AA (YB _) ?_
 by_cases hok : JS c ps = true
 ·have h2 := hok
  unfold JS at h2
  rw [Bool.and_eq_true, decide_eq_true_eq] at h2
  obtain ⟨hc, hl⟩ := h2
  obtain ⟨A, e, hR⟩ : ∃ A e, FH c ps = (A, e) := ⟨_, _, rfl⟩
  have hnone : GA c ps = none → A = DN ∧ e = 2501 := fun h => by
   unfold FH at hR
   rw [if_pos hok, h] at hR
   cases hR
   exact ⟨rfl, rfl⟩
  have hsome : ∀ s, GA c ps = some s → A = s ∧ e = 0 := fun s h => by
   unfold FH at hR
   rw [if_pos hok, h] at hR
   cases hR
   exact ⟨rfl, rfl⟩
  have hne := Sx hc
  have nf := Sw cf
  rw [hne] at nf
  simp only at nf
  have hr0 := GU hc
  have d1 : decide ((n : Int) > 256) = false := decide_eq_false (by omega)
  refine goM ?_
  obtain ⟨_, H2, c1, qa, rfl, ka, m1⟩ := Zb hR H1 (hr.mono hM.pre) cf (hps.mono hM.pre) (by omega)
  refine AA c1 ?_
  replace hM := hM.BH m1
  clear c1 m1 hR
  refine goM ?_
  refine Aj (cs := Au) T32 rfl fun b5 H3 hM => ?_
  refine AM T32 fun H4 hM => ?_
  refine goM ?_
  obtain ⟨_, H5, c1, q, rfl, k1, m1⟩ := dC hne H4 rv (hr.mono hM.pre) cf
  refine AA c1 ?_
  replace hM := hM.BH m1
  clear c1 m1 hne
  refine goM ?_
  refine Aj (cs := Au) T32 rfl fun b7 H6 hM => ?_
  refine AM T32 fun H7 hM => ?_
  have hM0 : Mem K H7 [.box b7 (q.c (FX c)), q.own (FX c), .box b5 (qa.c A), qa.own A] := hM.Ea
  clear hok hl
  refine goM ?_
  refine AT (fun cc ρ h => ∃ (k : Nat) (s : St) (q : SV), k ≤ n ∧ cc = n - k ∧ GA c (ps.take k) = some s ∧ DO c s ∧ s.Fit ∧ q.Ok s ∧ Mem K h [.box b7 (q.c s), q.own s, .box b5 (qa.c A), qa.own A] ∧ ρ 1 = v2 ∧ ρ 5 = .ptr b5 0 ∧ ρ 6 = .int .i64 e ∧ ρ 7 = .ptr b7 0 ∧ ρ 9 = .int .i64 (k : Int)) ⟨0, FX c, q, Nat.zero_le _, rfl, rfl, hr0, nf, k1, hM0, by simp [AD, AB, BT, *]⟩ ?_
  repeat clear hM
  clear hM0 hr0 nf k1 d1
  rintro _ ρ h ⟨k, s, q, hk, rfl, hrk, hrs, sf, hq, hM, g1, g5, g6, g7, g9⟩
  by_cases hk' : k < n
  ·have dk : decide ((k : Int) < (n : Int)) = true := decide_eq_true (by omega)
   have hw := AG (n := k) (by omega)
   obtain ⟨x, hx⟩ : ∃ x, ps[k]? = some x := ⟨ps[k]'(by omega), by simp⟩
   obtain ⟨bo, oo, _, ji, rfl, _, jlo, _⟩ := (hps.mono hM.pre).get T27 rfl T3 rfl hx
   have jl := AF T3 rfl jlo
   have hstep := QJ (c := c) hx
   rw [hrk, Option.bind_some] at hstep
   clear jlo hx hrk
   rcases En hrs x with ⟨p, o, rfl, pk, hd, hs⟩ | ⟨p, o, rfl, _, _, hd, hs⟩ | ⟨_, hd, hs⟩
   ·rw [hs] at hstep
    have hrs2 := JT hrs pk
    have sf2 := UI pk sf
    clear pk hs hnone hsome
    generalize doS s p = s2 at *
    refine goM ?_
    obtain ⟨_, H8, c1, q2, rfl, k2, m1⟩ := dS hd h (hq.at_ hM) sf
    refine Be c1 (.inl m1.pre) ?_
    replace hM := hM.BH m1
    clear c1 m1 hd
    refine goM ?_
    refine IZ (cs := Au) T32 rfl fun b10 H9 hM => ?_
    refine DT T32 fun H10 hM => ?_
    refine goM ?_
    refine AM T32 fun H11 hM => ?_
    refine goM ?_
    exact ⟨n - (k + 1), by omega, k + 1, s2, q2, hk', rfl, hstep, hrs2, sf2, k2, ((hM.front (r := q2.own s2) tkG).front (r := .box b7 (q2.c s2)) tkG).sub sbG, by simp [AD, AB, *]⟩
   ·rw [hs] at hstep
    clear hs hnone hsome
    refine goM ?_
    obtain ⟨_, H8, c1, q2, rfl, k2, m1⟩ := dS hd h (hq.at_ hM) sf
    refine Be c1 (.inl m1.pre) ?_
    replace hM := hM.BH m1
    clear c1 m1 hd
    refine goM ?_
    refine IZ (cs := Au) T32 rfl fun b10 H9 hM => ?_
    refine DT T32 fun H10 hM => ?_
    refine goM ?_
    exact ⟨n - (k + 1), by omega, k + 1, s, q, hk', rfl, hstep, hrs, sf, hq, hM.Ea, by simp [AD, AB, *]⟩
   ·rw [hs] at hstep
    obtain ⟨hA, he⟩ := hnone (QI hstep)
    subst hA
    subst he
    clear hs hstep hnone hsome
    refine goM ?_
    obtain ⟨_, H8, c1, q2, rfl, k2, m1⟩ := dS hd h (hq.at_ hM) sf
    refine Be c1 (.inl m1.pre) ?_
    replace hM := hM.BH m1
    clear c1 m1 hd
    refine goM ?_
    refine IZ (cs := Au) T32 rfl fun b10 H9 hM => ?_
    refine DT T32 fun H10 hM => ?_
    have c1 := fC H10 DN (ka.at_ hM) (bG H10) eP
    refine goM ?_
    refine AA c1 ?_
    refine goM ?_
    refine AA (MM _ _) ?_
    refine goM ?_
    exact AY ⟨rfl, hM.pre⟩
  ·have dk : decide ((k : Int) < (n : Int)) = false := decide_eq_false (by omega)
   rw [List.take_of_length_le (by omega)] at hrk
   obtain ⟨hA, he⟩ := hsome s hrk
   subst hA
   subst he
   have c1 := fC h A (ka.at_ hM) (hq.at_ hM) sf
   clear hrk hnone hsome
   refine goM ?_
   refine AA (MM _ _) ?_
   refine goM ?_
   refine AA c1 ?_
   refine goM ?_
   exact AY ⟨rfl, hM.pre⟩
 ·have hR := Lb (c := c) (ps := ps) (by simpa using hok)
  refine goM ?_
  obtain ⟨_, H2, c1, qa, rfl, ka, m1⟩ := Zb hR H1 (hr.mono hM.pre) cf (hps.mono hM.pre) (by omega)
  refine AA c1 ?_
  replace hM := hM.BH m1
  clear c1 m1 hR
  refine goM ?_
  refine Aj (cs := Au) T32 rfl fun b5 H3 hM => ?_
  refine AM T32 fun H4 hM => ?_
  cases hc : Al c with
  | false =>
   have hne := Sy hc
   refine goM ?_
   obtain ⟨_, H5, c1, q, rfl, k1, m1⟩ := dC hne H4 rv (hr.mono hM.pre) cf
   refine AA c1 ?_
   replace hM := hM.BH m1
   clear c1 m1 hne hc
   refine goM ?_
   refine Aj (cs := Au) T32 rfl fun b7 H6 hM => ?_
   refine AM T32 fun H7 hM => ?_
   have c1 := fC H7 DN (ka.at_ hM) (bG H7) eP
   refine goM ?_
   refine AA c1 ?_
   refine goM ?_
   refine AA (MM _ _) ?_
   refine goM ?_
   exact AY ⟨rfl, hM.pre⟩
  | true =>
   have hne := Sx hc
   have d1 : decide ((n : Int) > 256) = true := decide_eq_true (by
    apply Decidable.byContradiction
    intro hh
    exact hok (TR hc (by omega)))
   refine goM ?_
   obtain ⟨_, H5, c1, q, rfl, k1, m1⟩ := dC hne H4 rv (hr.mono hM.pre) cf
   refine AA c1 ?_
   replace hM := hM.BH m1
   clear c1 m1 hne hc
   refine goM ?_
   refine Aj (cs := Au) T32 rfl fun b7 H6 hM => ?_
   refine AM T32 fun H7 hM => ?_
   have c1 := fC H7 DN (ka.at_ hM) (bG H7) eP
   refine goM ?_
   refine AA c1 ?_
   refine goM ?_
   refine AA (MM _ _) ?_
   refine goM ?_
   exact AY ⟨rfl, hM.pre⟩
end Go.Proofs.YtncjbjlmgnjhiaaGreat.VM
