/- Joined texts: VmW, RunP, TopA, LawC. -/
import Derived.Test.YtncjbjlmgnjhiaaGreatJC1
import Derived.Test.YtncjbjlmgnjhiaaGreatJC2
import Derived.Test.YtncjbjlmgnjhiaaGreatJC3
import Derived.Test.YtncjbjlmgnjhiaaGreatJC4
import Derived.Test.YtncjbjlmgnjhiaaGreatJC5
import Derived.Test.YtncjbjlmgnjhiaaGreatJC6
import Derived.Test.YtncjbjlmgnjhiaaGreatJC7
import Derived.Test.YtncjbjlmgnjhiaaGreatJC8
import Derived.Test.YtncjbjlmgnjhiaaGreatJC9
import Derived.Test.YtncjbjlmgnjhiaaGreatJC10
import Derived.Test.YtncjbjlmgnjhiaaGreatJC11
import Derived.Test.YtncjbjlmgnjhiaaGreatJC12
import Derived.Test.YtncjbjlmgnjhiaaGreatJC13
import Derived.Test.YtncjbjlmgnjhiaaGreatJCRunAllp0
import Derived.Test.YtncjbjlmgnjhiaaGreatJCRunAll
namespace Go.Proofs.YtncjbjlmgnjhiaaGreat.VM
open Go
set_option linter.unusedVariables false
set_option linter.unusedSimpArgs false
variable {T : Tab} {α : Type} {D : Type}
theorem Un {K : Heap} {t : Nat} {ts : List Nat} {vs : List V} {ds : List (DataW D)} (h : RdAll T K (t :: ts) vs ds) : ∃ v vs' d ds', vs = v :: vs' ∧ ds = d :: ds' ∧ RdV T K t v d ∧ RdAll T K ts vs' ds' := by
 match vs, ds, h with
 | v :: vs', d :: ds', ⟨h1, h2⟩ => exact ⟨v, vs', d, ds', rfl, rfl, h1, h2⟩
theorem XQ {K : Heap} {vs : List V} {ds : List (DataW D)} (h : RdAll T K [] vs ds) : vs = [] ∧ ds = [] := by
 match vs, ds, h with
 | [], [], _ => exact ⟨rfl, rfl⟩
end Go.Proofs.YtncjbjlmgnjhiaaGreat.VM
namespace Go.Proofs.YtncjbjlmgnjhiaaGreat.VM
open Go
set_option linter.unusedVariables false
set_option linter.unusedSimpArgs false
attribute [local irreducible] wq wqL wqD wqE wqO Th Bk EndR
set_option maxHeartbeats 8000000
theorem jD {c : Cfg} (hc : Al c = true) {ps : List Int} {s : St} (h : GA c ps = some s) (k : Nat) : ∃ t, GA c (ps.take k) = some t ∧ t.es.length ≤ s.es.length ∧ s.es.take t.es.length = t.es := by
 cases ht : GA c (ps.take k) with
 | none => rw [QI ht] at h; cases h
 | some t =>
  have h' : GA c (ps.take k ++ ps.drop k) = some s := by rw [List.take_append_drop]; exact h
  unfold GA at h' ht
  rw [List.foldlM_append, ht] at h'
  obtain ⟨_, h2, h3⟩ := WE (ps.drop k) t s (bT hc ht) h'
  exact ⟨t, rfl, h2, h3⟩
theorem bU {c : Cfg} {s : St} (cf : c.Fit) (h : DO c s) : s.Fit := Uf h.ok (by rw [h.c]; exact cf)
theorem jV (c : Cfg) (ps : List Int) : (∃ e : Int, (e == 0) = false ∧ FH c ps = (DN, e)) ∨ (∃ s, Al c = true ∧ ps.length ≤ 256 ∧ GA c ps = some s ∧ DO c s ∧ FH c ps = (s, 0)) := by
 cases hok : JS c ps with
 | false => exact .inl ⟨2500, rfl, Lb hok⟩
 | true =>
  have h := hok
  unfold JS at h
  rw [Bool.and_eq_true, decide_eq_true_eq] at h
  cases hr : GA c ps with
  | none => exact .inl ⟨2501, rfl, by unfold FH; rw [hok, if_pos rfl, hr]⟩
  | some s => exact .inr ⟨s, h.1, h.2, rfl, bT h.1 hr, by unfold FH; rw [hok, if_pos rfl, hr]⟩
theorem jZ {c : Cfg} (hc : Al c = true) {ps : List Int} {t : St} (hl : ps.length ≤ 256) {k : Nat} (h : GA c (ps.take k) = some t) : FH c (ps.take k) = (t, 0) := by
 have hok : JS c (ps.take k) = true := TR hc (by rw [List.length_take]; omega)
 unfold FH
 rw [hok, if_pos rfl, h]
theorem law_runPrefix {D : Type} (K : Heap) (vs : List V) (ds : List (DataW D)) (ro : Ro K) (h : RdAll T K [26, 27, 3] vs ds) : ∃ K', Call Tryz.prog 9 vs K (.bool true) K' := by
 obtain ⟨v1, vs, d1, ds, rfl, rfl, hv1, h⟩ := Un h
 obtain ⟨v2, vs, d2, ds, rfl, rfl, hv2, h⟩ := Un h
 obtain ⟨v3, vs, d3, ds, rfl, rfl, hv3, h⟩ := Un h
 obtain ⟨rfl, rfl⟩ := XQ h
 obtain ⟨c, rv, rfl, hr, cf⟩ := XR hv1
 obtain ⟨ps, hps, hpl⟩ := RO hv2
 obtain ⟨x, rfl, _⟩ := hv3.int T3 rfl
 clear hv1 hv2 hv3 h
 replace hpl : ps.length * 8 ≤ 140737488351232 := Nat.le_trans hpl (by decide)
 have s3 : rv.cells = [rv] ∧ rv.isTup = false := by obtain ⟨_, h, _⟩ := hr; exact h.cells
 have hlen := hps.len T27 rfl
 refine ⟨K, ?_⟩
 refine AQ fit mixed Tryz.func9 rfl rfl rfl (by kernel_rfl) rfl fun hM => ?_
 refine AO (AK ?_)
 refine Ax T26 fun b3 H1 hM => ?_
 refine goM ?_
 refine AA (YB _) ?_
 rcases jV c ps with ⟨e, he, hR⟩ | ⟨s, hc, hl, hO, hst, hR⟩
 ·have hee : (e != 0) = true := by unfold bne; rw [he]; rfl
  refine goM ?_
  obtain ⟨_, H2, c1, qa, rfl, ka, m1⟩ := Zb hR H1 (hr.mono hM.pre) cf (hps.mono hM.pre) (by omega)
  refine AA c1 ?_
  replace hM := hM.BH m1
  clear c1 m1 hR he
  refine goM ?_
  refine Aj (cs := Au) T32 rfl fun b7 H3 hM => ?_
  refine AM T32 fun H4 hM => ?_
  have c1 := fC H4 DN (ka.at_ hM) (bG H4) eP
  refine goM ?_
  refine AA (MM _ _) ?_
  refine goM ?_
  refine AA c1 ?_
  refine goM ?_
  exact AY ⟨rfl, hM.pre⟩
 ·have sf := bU cf hst
  have hmay := RL hst.ok
  obtain ⟨n, hn⟩ : ∃ n, ps.length = n := ⟨_, rfl⟩
  rw [hn] at hlen hl
  have U := fJ x (m := (n : Int) + 1) (by omega) (by omega)
  have hwn := AG (n := n) (by omega)
  generalize eN x ((n : Int) + 1) = k at *
  obtain ⟨u1, u2, u3, u4, u5⟩ := U
  have hkn : k ≤ n := by omega
  obtain ⟨u, hu, hus⟩ := hps.take (k := k) (by omega)
  obtain ⟨t, hO2, hte, htk⟩ := jD hc hO k
  have hR2 := jZ hc (by omega) hO2
  have dle : decide ((t.es.length : Int) ≤ (s.es.length : Int)) = true := decide_eq_true (by omega)
  have hel := sf.es
  clear u1 hO hO2 hc hn
  refine goM ?_
  obtain ⟨_, H2, c1, qa, rfl, ka, m1⟩ := Zb hR H1 (hr.mono hM.pre) cf (hps.mono hM.pre) (by omega)
  refine AA c1 ?_
  replace hM := hM.BH m1
  clear c1 m1 hR
  refine goM ?_
  refine Aj (cs := Au) T32 rfl fun b7 H3 hM => ?_
  refine AM T32 fun H4 hM => ?_
  refine goM ?_
  refine AA (MM _ _) ?_
  obtain ⟨_, H5, c1, qb, rfl, kb, m1⟩ := Zb hR2 H4 (hr.mono hM.pre) cf (hus.mono hM.pre) (by rw [List.length_take]; omega)
  clear hR2
  refine goM ?_
  refine Be c1 (.inl m1.pre) ?_
  replace hM := hM.BH m1
  clear c1 m1
  refine goM ?_
  refine IZ (cs := Au) T32 rfl fun b10 H6 hM => ?_
  refine DT T32 fun H7 hM => ?_
  have ata := ka.at_ hM
  have atb := kb.at_ hM
  have g1 := ata.es.len T29 rfl
  have g2 := atb.es.len T29 rfl
  obtain ⟨z, hz, hzs⟩ := ata.es.take (k := t.es.length) hte
  rw [htk] at hzs
  have c1 := Uv H7 z qb.ev t.es t.es hzs atb.es (by omega)
  rw [decide_eq_true rfl] at c1
  have c2 := GM H7 s qa.u qa.mv qa.ev qa.sv qa.xs ata sf
  rw [hmay] at c2
  clear ata atb hzs htk hte hmay hel hst
  refine goM ?_
  refine AI (MM _ _) ?_
  refine goM ?_
  refine AI c1 ?_
  refine goM ?_
  refine AI c2 ?_
  refine goM ?_
  exact AY ⟨rfl, hM.pre⟩
end Go.Proofs.YtncjbjlmgnjhiaaGreat.VM
