/- Joined texts: VmW, RunQ, LawD. -/
import Derived.Test.YtncjbjlmgnjhiaaGreatJC1
import Derived.Test.YtncjbjlmgnjhiaaGreatJC2
import Derived.Test.YtncjbjlmgnjhiaaGreatJC3
import Derived.Test.YtncjbjlmgnjhiaaGreatJC4
import Derived.Test.YtncjbjlmgnjhiaaGreatJC5
import Derived.Test.YtncjbjlmgnjhiaaGreatJC6
import Derived.Test.YtncjbjlmgnjhiaaGreatJC7
import Derived.Test.YtncjbjlmgnjhiaaGreatJC8
import Derived.Test.YtncjbjlmgnjhiaaGreatJC9
import Derived.Test.YtncjbjlmgnjhiaaGreatJC10
import Derived.Test.YtncjbjlmgnjhiaaGreatJC11
import Derived.Test.YtncjbjlmgnjhiaaGreatJC12
import Derived.Test.YtncjbjlmgnjhiaaGreatJC13
import Derived.Test.YtncjbjlmgnjhiaaGreatJCRunAllp0
import Derived.Test.YtncjbjlmgnjhiaaGreatJCRunAll
namespace Go.Proofs.YtncjbjlmgnjhiaaGreat.VM
open Go
set_option linter.unusedVariables false
set_option linter.unusedSimpArgs false
variable {T : Tab} {α : Type} {D : Type}
theorem Un {K : Heap} {t : Nat} {ts : List Nat} {vs : List V} {ds : List (DataW D)} (h : RdAll T K (t :: ts) vs ds) : ∃ v vs' d ds', vs = v :: vs' ∧ ds = d :: ds' ∧ RdV T K t v d ∧ RdAll T K ts vs' ds' := by
 match vs, ds, h with
 | v :: vs', d :: ds', ⟨h1, h2⟩ => exact ⟨v, vs', d, ds', rfl, rfl, h1, h2⟩
theorem XQ {K : Heap} {vs : List V} {ds : List (DataW D)} (h : RdAll T K [] vs ds) : vs = [] ∧ ds = [] := by
 match vs, ds, h with
 | [], [], _ => exact ⟨rfl, rfl⟩
end Go.Proofs.YtncjbjlmgnjhiaaGreat.VM
namespace Go.Proofs.YtncjbjlmgnjhiaaGreat.VM
open Go
set_option linter.unusedVariables false
set_option linter.unusedSimpArgs false
attribute [local irreducible] wq wqL wqD wqE wqO Th Bk EndR
set_option maxHeartbeats 8000000
theorem kI {s : St} (h : It s) : It (PA s) := by
 have hs := Lj h.st (fun e => decide (e.n ≠ 0))
 refine ⟨h.c, h.len, h.fits, h.tot, h.es, hs, fun m hm => ?_, fun e he => h.held e (List.mem_filter.1 he).1⟩
 obtain ⟨e, he, e1, e2⟩ := Hz (h.head m hm)
 have hp : 1 ≤ BQ s.ms m.2 := Mj hm
 have hn : e.n ≠ 0 := by have := h.held e he; rw [e1] at this; omega
 have := get_mem hs (List.mem_filter.2 ⟨he, by simpa using hn⟩)
 rw [e1, e2] at this
 exact this
theorem jO (s : St) : PA (PA s) = PA s := by
 unfold PA
 simp only [List.filter_filter, Bool.and_self]
theorem law_runSwept {D : Type} (K : Heap) (vs : List V) (ds : List (DataW D)) (ro : Ro K) (h : RdAll T K [32] vs ds) : ∃ K', Call Tryz.prog 8 vs K (.bool true) K' := by
 obtain ⟨v1, vs, d1, ds, rfl, rfl, hv1, h⟩ := Un h
 obtain ⟨rfl, rfl⟩ := XQ h
 obtain ⟨s, rv, mv, ev, sv, xs, rfl, ha, sf⟩ := ZU hv1
 clear hv1 h
 have hsl := ha.st.len T30 rfl
 have hst := sf.st
 obtain ⟨n, hn⟩ : ∃ n, s.st.length = n := ⟨_, rfl⟩
 rw [hn] at hsl hst
 refine ⟨K, ?_⟩
 refine AQ fit mixed Tryz.func8 rfl rfl rfl (by kernel_rfl) rfl fun hM => ?_
 refine AO (AK ?_)
 refine Ax T32 fun b1 H1 hM => ?_
 refine goM ?_
 refine AA (YB _) ?_
 cases hm : BZ s with
 | false =>
  have hS := Oy hm
  refine goM ?_
  obtain ⟨_, H2, c1, qa, rfl, ka, m1⟩ := cG hS H1 (ha.mono hM.pre) sf
  refine AA c1 ?_
  replace hM := hM.BH m1
  clear c1 m1 hS
  refine goM ?_
  refine Aj (cs := Au) T32 rfl fun b3 H3 hM => ?_
  refine AM T32 fun H4 hM => ?_
  have c1 := fC H4 DN (ka.at_ hM) (bG H4) eP
  have c2 := GM H4 s rv mv ev sv xs (ha.mono hM.pre) sf
  rw [hm] at c2
  clear hm
  refine goM ?_
  refine AA (MM _ _) ?_
  refine goM ?_
  refine AA c1 ?_
  refine goM ?_
  refine AA c2 ?_
  refine goM ?_
  exact AY ⟨rfl, hM.pre⟩
 | true =>
  have hok := Eh hm
  have hS := Ox hm
  have hok2 := kI hok
  have hS2 : Gw (PA s) = (PA s, 0) := by rw [Ox (RL hok2), jO]
  have tf : (PA s).Fit := Uf hok2 sf.c
  have hmay2 := RL hok2
  have hc : (PA s).c = s.c := rfl
  have hstt : (PA s).st = s.st.filter fun e => decide (e.n ≠ 0) := rfl
  have hpos : ∀ e ∈ s.st, 0 ≤ e.n := fun e he => by
   rw [hok.held e he]
   exact Int.natCast_nonneg _
  refine goM ?_
  obtain ⟨_, H2, c1, qa, rfl, ka, m1⟩ := cG hS H1 (ha.mono hM.pre) sf
  refine AA c1 ?_
  replace hM := hM.BH m1
  clear c1 m1 hS
  refine goM ?_
  refine Aj (cs := Au) T32 rfl fun b3 H3 hM => ?_
  refine AM T32 fun H4 hM => ?_
  refine goM ?_
  refine AA (MM _ _) ?_
  refine goM ?_
  obtain ⟨_, H5, c1, qb, rfl, kb, m1⟩ := cG hS2 H4 (ka.at_ hM) tf
  refine AA c1 ?_
  replace hM := hM.BH m1
  clear c1 m1 hS2
  refine goM ?_
  refine Aj (cs := Au) T32 rfl fun b5 H6 hM => ?_
  refine AM T32 fun H7 hM => ?_
  refine goM ?_
  obtain ⟨_, H8, c1, qx, rfl, kx, m1⟩ := gZ H7 s rv mv ev sv xs (ha.mono hM.pre) sf
  refine AA c1 ?_
  replace hM := hM.BH m1
  clear c1 m1
  refine goM ?_
  refine Aj (cs := Au) T32 rfl fun b7 H9 hM => ?_
  refine AM T32 fun H10 hM => ?_
  refine goM ?_
  refine AM T30 fun H11 hM => ?_
  have hM0 : Mem K H11 [.own 3 BE .AN ((s.st.take 0).filter fun e => decide (e.n ≠ 0)), .box b7 (stC s.c qx.u qx.mv qx.ev .AN), qx.own s, .box b5 (qb.c (PA s)), qb.own (PA s), .box b3 (qa.c (PA s)), qa.own (PA s), .box b1 (stC s.c rv mv ev sv)] := hM.nil 3 BE
  refine goM ?_
  refine AT (fun cc ρ h => ∃ (k : Nat) (v : V), k ≤ n ∧ cc = n - k ∧ Mem K h [.own 3 BE v ((s.st.take k).filter fun e => decide (e.n ≠ 0)), .box b7 (stC s.c qx.u qx.mv qx.ev v), qx.own s, .box b5 (qb.c (PA s)), qb.own (PA s), .box b3 (qa.c (PA s)), qa.own (PA s), .box b1 (stC s.c rv mv ev sv)] ∧ ρ 1 = .ptr b1 0 ∧ ρ 3 = .ptr b3 0 ∧ ρ 5 = .ptr b5 0 ∧ ρ 6 = .int .i64 0 ∧ ρ 7 = .ptr b7 0 ∧ ρ 8 = .int .i64 (k : Int)) ⟨0, .AN, Nat.zero_le _, rfl, hM0, by simp [AD, AB, BT, *]⟩ ?_
  repeat clear hM
  clear hM0
  rintro _ ρ h ⟨k, v, hk, rfl, hM, g1, g3, g5, g6, g7, g8⟩
  by_cases hk' : k < n
  ·have dk : decide ((k : Int) < (n : Int)) = true := decide_eq_true (by omega)
   have hw := AG (n := k) (by omega)
   obtain ⟨e, he⟩ : ∃ e, s.st[k]? = some e := ⟨s.st[k]'(by omega), by simp⟩
   obtain ⟨be, oe, _, hi, rfl, _, hlo, hlc⟩ := (ha.mono hM.pre).st.get T30 rfl T63 rfl he
   have hln : loadV T 3 h be (oe + 2) = some (.int .i64 e.n) := AF T3 rfl (hlc 2 _ rfl)
   have hle : loadV T 63 h be oe = some (.agg (Hy e)) := AZ T63 rfl hlo
   have hp := hpos e (List.mem_of_getElem? he)
   have hfl : ((s.st.take k).filter fun e => decide (e.n ≠ 0)).length ≤ n := by
    have := List.length_filter_le (fun e : Ent => decide (e.n ≠ 0)) (s.st.take k)
    rw [List.length_take] at this
    omega
   by_cases hz : e.n = 0
   ·have hz0 : decide (e.n > 0) = false := decide_eq_false (by omega)
    have hf : (s.st.take (k + 1)).filter (fun e => decide (e.n ≠ 0)) = (s.st.take k).filter fun e => decide (e.n ≠ 0) := by
     rw [List.take_add_one, he, List.filter_append]
     simp [hz]
    rw [← hf] at hM
    clear hlo hlc he hp hz hf hpos hstt
    refine goM ?_
    exact ⟨n - (k + 1), by omega, k + 1, v, hk', rfl, hM, by simp [AD, AB, *]⟩
   ·have hz0 : decide (e.n > 0) = true := decide_eq_true (by omega)
    have hf : (s.st.take k).filter (fun e => decide (e.n ≠ 0)) ++ [e] = (s.st.take (k + 1)).filter fun e => decide (e.n ≠ 0) := by
     rw [List.take_add_one, he, List.filter_append]
     simp [hz]
    clear hlo hlc he hp hz hpos hstt
    refine goM ?_
    refine SD BE [e] (Hy e) T30 rfl T63 rfl (Du [e]) (by decide) fun e1 H12 hM => ?_
    refine goM ?_
    refine YI (hM.sl .here) (xs := (s.st.take k).filter fun e => decide (e.n ≠ 0)) (hh := .there .here) (hb := by simp only [List.length_cons, List.length_nil]; have : (T 63).get!.bytes = 32 := rfl; omega) fun v2 H13 hM => ?_
    rw [hf] at hM
    replace hM := hM.drop
    have sc := (hM.sl .here).cells
    clear hf
    refine goM ?_
    refine DT T30 fun H14 hM => ?_
    refine goM ?_
    exact ⟨n - (k + 1), by omega, k + 1, v2, hk', rfl, hM, by simp [AD, AB, *]⟩
  ·have dk : decide ((k : Int) < (n : Int)) = false := decide_eq_false (by omega)
   rw [List.take_of_length_le (by omega), ← hstt] at hM
   have ata := ka.at_ hM
   have atb := kb.at_ hM
   have atx := kx.at_ hM
   have atx2 : Da h qx.u qx.mv qx.ev v qx.xs (PA s) := ⟨atx.rows, atx.ms, atx.val, atx.ks, atx.es, hM.sl .here⟩
   have c1 := fC h (PA s) ata atb tf
   have c2 := fC h (PA s) ata atx2 tf
   have c3 := GM h (PA s) qa.u qa.mv qa.ev qa.sv qa.xs ata tf
   rw [hmay2] at c3
   rw [hc] at c2
   clear hpos hstt ata atb atx atx2 hmay2 hok hok2 hm
   refine goM ?_
   refine AA (MM _ _) ?_
   refine goM ?_
   refine AA c1 ?_
   refine goM ?_
   refine AA c2 ?_
   refine goM ?_
   refine AA c3 ?_
   refine goM ?_
   exact AY ⟨rfl, hM.pre⟩
end Go.Proofs.YtncjbjlmgnjhiaaGreat.VM
