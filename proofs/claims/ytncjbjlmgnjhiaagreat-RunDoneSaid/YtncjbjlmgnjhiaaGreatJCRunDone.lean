/- Joined texts: VmW, LawB. -/
import Derived.Test.YtncjbjlmgnjhiaaGreatJC1
import Derived.Test.YtncjbjlmgnjhiaaGreatJC2
import Derived.Test.YtncjbjlmgnjhiaaGreatJC3
import Derived.Test.YtncjbjlmgnjhiaaGreatJC4
import Derived.Test.YtncjbjlmgnjhiaaGreatJC5
import Derived.Test.YtncjbjlmgnjhiaaGreatJC6
import Derived.Test.YtncjbjlmgnjhiaaGreatJC7
import Derived.Test.YtncjbjlmgnjhiaaGreatJC8
import Derived.Test.YtncjbjlmgnjhiaaGreatJC9
import Derived.Test.YtncjbjlmgnjhiaaGreatJC10
import Derived.Test.YtncjbjlmgnjhiaaGreatJC11
import Derived.Test.YtncjbjlmgnjhiaaGreatJC12
import Derived.Test.YtncjbjlmgnjhiaaGreatJC13
import Derived.Test.YtncjbjlmgnjhiaaGreatJCRunAllp0
import Derived.Test.YtncjbjlmgnjhiaaGreatJCRunAll
namespace Go.Proofs.YtncjbjlmgnjhiaaGreat.VM
open Go
set_option linter.unusedVariables false
set_option linter.unusedSimpArgs false
variable {T : Tab} {α : Type} {D : Type}
theorem Un {K : Heap} {t : Nat} {ts : List Nat} {vs : List V} {ds : List (DataW D)} (h : RdAll T K (t :: ts) vs ds) : ∃ v vs' d ds', vs = v :: vs' ∧ ds = d :: ds' ∧ RdV T K t v d ∧ RdAll T K ts vs' ds' := by
 match vs, ds, h with
 | v :: vs', d :: ds', ⟨h1, h2⟩ => exact ⟨v, vs', d, ds', rfl, rfl, h1, h2⟩
theorem XQ {K : Heap} {vs : List V} {ds : List (DataW D)} (h : RdAll T K [] vs ds) : vs = [] ∧ ds = [] := by
 match vs, ds, h with
 | [], [], _ => exact ⟨rfl, rfl⟩
end Go.Proofs.YtncjbjlmgnjhiaaGreat.VM
namespace Go.Proofs.YtncjbjlmgnjhiaaGreat.VM
open Go
set_option linter.unusedVariables false
set_option linter.unusedSimpArgs false
attribute [local irreducible] wq wqL wqD wqE wqO Th Bk EndR
set_option maxHeartbeats 8000000
def leftN (t : Int) : List (Chk × Int) → Int
 | [] => 0
 | m :: ms => t - m.1.t + leftN t ms
theorem Pq (t : Int) : ∀ a b : List (Chk × Int), leftN t (a ++ b) = leftN t a + leftN t b
 | [], b => by simp [leftN]
 | m :: a, b => by simp only [List.cons_append, leftN, Pq t a b]; omega
theorem HM (t : Int) : ∀ a : List (Chk × Int), (∀ m ∈ a, m.1.t ≤ t ∧ 0 ≤ m.1.t) → 0 ≤ leftN t a ∧ leftN t a ≤ t * a.length
 | [], _ => by simp [leftN]
 | m :: a, h => by
  have h1 := h m List.mem_cons_self
  have ih := HM t a fun x hx => h x (List.mem_cons_of_mem _ hx)
  simp only [leftN, List.length_cons, Int.natCast_succ, Int.mul_add, Int.mul_one]
  omega
theorem OH (t : Int) : ∀ a : List (Chk × Int), (∀ m ∈ a, m.1.t ≤ t ∧ 0 ≤ m.1.t) → (leftN t a = 0 ↔ ∀ m ∈ a, m.1.t = t)
 | [], _ => by simp [leftN]
 | m :: a, h => by
  have h1 := h m List.mem_cons_self
  have hb := (HM t a fun x hx => h x (List.mem_cons_of_mem _ hx)).1
  have ih := OH t a fun x hx => h x (List.mem_cons_of_mem _ hx)
  simp only [leftN]
  constructor
  ·intro h0 x hx
   rcases List.mem_cons.1 hx with rfl | hx
   ·omega
   ·exact ih.1 (by omega) x hx
  ·intro hall
   have e1 := hall m List.mem_cons_self
   have e2 := ih.2 fun x hx => hall x (List.mem_cons_of_mem _ hx)
   omega
theorem law_runDone {D : Type} (K : Heap) (vs : List V) (ds : List (DataW D)) (ro : Ro K) (h : RdAll T K [32] vs ds) : ∃ K', Call Tryz.prog 11 vs K (.bool true) K' := by
 obtain ⟨v1, vs, d1, ds, rfl, rfl, hv1, h⟩ := Un h
 obtain ⟨rfl, rfl⟩ := XQ h
 obtain ⟨s, rv, mv, ev, sv, xs, rfl, ha, sf⟩ := ZU hv1
 clear hv1 h
 have hmlen := ha.ms.len T28 rfl
 have hxl := ha.len
 obtain ⟨n, hn⟩ : ∃ n, xs.length = n := ⟨_, rfl⟩
 rw [hn] at hmlen
 refine ⟨K, ?_⟩
 refine AQ fit mixed Tryz.func11 rfl rfl rfl (by kernel_rfl) rfl fun hM => ?_
 refine AO (AK ?_)
 refine Ax T32 fun b1 H1 hM => ?_
 refine goM ?_
 refine AA (YB _) ?_
 have c1 := UJ H1 s rv mv ev sv xs (ha.mono hM.pre) sf
 have c2 := GM H1 s rv mv ev sv xs (ha.mono hM.pre) sf
 cases hm : BZ s with
 | false =>
  rw [Lv hm] at c1
  rw [hm] at c2
  simp only at c1
  clear hm
  refine goM ?_
  refine AA c1 ?_
  refine goM ?_
  refine AA (MM _ _) ?_
  refine goM ?_
  refine AA c2 ?_
  refine goM ?_
  exact AY ⟨rfl, hM.pre⟩
 | true =>
  rw [Lu hm] at c1
  simp only at c1
  have hok := Eh hm
  obtain ⟨⟨hm2, hm8⟩, _, _, ⟨hT1, hT2⟩, _⟩ := AX hok.c
  have hlen := hok.len
  have hbd : ∀ m ∈ s.ms, m.1.t ≤ s.c.total ∧ 0 ≤ m.1.t := fun m hm => ⟨hok.tot m hm, (Ou (hok.fits m hm)).1⟩
  have hzero := OH s.c.total s.ms hbd
  have hdone : Ir s = (leftN s.c.total s.ms == 0) := by
   unfold Ir
   rw [Bool.eq_iff_iff, List.all_eq_true, beq_iff_eq, hzero]
   exact ⟨fun h m hm => by simpa using h m hm, fun h m hm => by simpa using h m hm⟩
  have hms : ∀ k, ∀ m ∈ s.ms.take k, m.1.t ≤ s.c.total ∧ 0 ≤ m.1.t := fun k m hm => hbd m (List.mem_of_mem_take hm)
  rw [hdone] at c1
  have hn8 : n ≤ 8 := by omega
  obtain ⟨tt, htt⟩ : ∃ tt, s.c.total = tt := ⟨_, rfl⟩
  have hrow := hM.row (b := b1) (cs := stC s.c rv mv ev sv) hsG
  have lt := AU (q := 5) T3 rfl hrow (v := .int .i64 s.c.total) rfl
  rw [htt] at lt c1 hms hT1 hT2
  clear hdone hzero hbd hm c2 hlen hm2 hm8 htt
  refine goM ?_
  refine AA c1 ?_
  clear c1
  refine goM ?_
  refine AA (MM _ _) ?_
  refine goM ?_
  refine AT (fun cc ρ h => ∃ k : Nat, k ≤ n ∧ cc = n - k ∧ h = H1 ∧ ρ 1 = .ptr b1 0 ∧ ρ 3 = .bool (leftN tt s.ms == 0) ∧ ρ 5 = .int .i64 (leftN tt (s.ms.take k)) ∧ ρ 6 = .int .i64 (k : Int)) ⟨0, Nat.zero_le _, rfl, rfl, by simp [AD, AB, BT, leftN, *]⟩ ?_
  rintro _ ρ h ⟨k, hk, rfl, rfl, g1, g3, g5, g6⟩
  by_cases hk' : k < n
  ·have dk : decide ((k : Int) < (n : Int)) = true := decide_eq_true (by omega)
   have hw := AG (n := k) (by omega)
   obtain ⟨x, hx⟩ : ∃ x, xs[k]? = some x := ⟨xs[k]'(by omega), by simp⟩
   have hat := ha.mono hM.pre
   obtain ⟨bo, oo, hi, _⟩ := EM hat.ms hx
   obtain ⟨_, _, lt2, _⟩ := Fj hat.ms hi hx
   have hmk : s.ms[k]? = some (x.k, x.h) := by rw [← ha.val, List.getElem?_map, hx]; rfl
   have hstep : leftN tt (s.ms.take (k + 1)) = leftN tt (s.ms.take k) + (tt - x.k.t) := by
    rw [List.take_add_one, hmk, Pq]
    simp [leftN]
   have hb1 := HM tt _ (hms k)
   have hb2 := HM tt _ (hms (k + 1))
   have hl1 : (s.ms.take k).length ≤ 8 := by rw [List.length_take]; omega
   have hl2 : (s.ms.take (k + 1)).length ≤ 8 := by rw [List.length_take]; omega
   have hmul1 : tt * ((s.ms.take k).length : Int) ≤ 32 * 8 := Int.mul_le_mul (by omega) (by omega) (by omega) (by omega)
   have hmul2 : tt * ((s.ms.take (k + 1)).length : Int) ≤ 32 * 8 := Int.mul_le_mul (by omega) (by omega) (by omega) (by omega)
   obtain ⟨L0, hL0⟩ : ∃ L0, leftN tt (s.ms.take k) = L0 := ⟨_, rfl⟩
   obtain ⟨L1, hL1⟩ : ∃ L1, leftN tt (s.ms.take (k + 1)) = L1 := ⟨_, rfl⟩
   rw [hL0] at g5 hstep hb1
   rw [hL1] at hstep hb2
   have wa : IntKind.i64.wrap (L0 + tt) = L0 + tt := wrap_i64 (by omega) (by omega)
   have wb : IntKind.i64.wrap (L0 + tt - x.k.t) = L1 := by rw [wrap_i64 (by omega) (by omega)]; omega
   clear hstep hb1 hb2 hl1 hl2 hmul1 hmul2 hmk hat hx hL0
   refine goM ?_
   exact ⟨n - (k + 1), by omega, k + 1, hk', rfl, rfl, by simp [AD, AB, *]⟩
  ·have dk : decide ((k : Int) < (n : Int)) = false := decide_eq_false (by omega)
   rw [List.take_of_length_le (by omega)] at g5
   have hbb : ∀ b : Bool, (b == b) = true := fun b => by cases b <;> rfl
   have hbe := hbb (leftN tt s.ms == 0)
   refine goM ?_
   exact AY ⟨rfl, hM.pre⟩
end Go.Proofs.YtncjbjlmgnjhiaaGreat.VM
