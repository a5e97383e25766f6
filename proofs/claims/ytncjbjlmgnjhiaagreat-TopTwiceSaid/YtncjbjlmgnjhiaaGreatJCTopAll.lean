/- Joined texts: MemA, MemB, Tab, MembE, StepU, FoldP, FoldQ, FoldS, FoldT, RunQ, RunF, FoldU, TopA. -/
import Derived.Test.YtncjbjlmgnjhiaaGreatJC1
import Derived.Test.YtncjbjlmgnjhiaaGreatJC2
import Derived.Test.YtncjbjlmgnjhiaaGreatJC3
import Derived.Test.YtncjbjlmgnjhiaaGreatJC4
import Derived.Test.YtncjbjlmgnjhiaaGreatJC5
import Derived.Test.YtncjbjlmgnjhiaaGreatJC6
import Derived.Test.YtncjbjlmgnjhiaaGreatJC7
import Derived.Test.YtncjbjlmgnjhiaaGreatJC8
import Derived.Test.YtncjbjlmgnjhiaaGreatJC9
import Derived.Test.YtncjbjlmgnjhiaaGreatJC10
import Derived.Test.YtncjbjlmgnjhiaaGreatJC11
import Derived.Test.YtncjbjlmgnjhiaaGreatJC12
import Derived.Test.YtncjbjlmgnjhiaaGreatJC13
import Derived.Test.YtncjbjlmgnjhiaaGreatRows
import Derived.KernelRfl
namespace Go.Proofs.YtncjbjlmgnjhiaaGreat.VM
open Go
set_option linter.unusedVariables false
set_option linter.unusedSimpArgs false
variable {P : Program} {T : Tab} {α β : Type}
section steps
variable {ops : Array Oper} {rest : List Oper} {Q : Rho → Heap → Prop} {ρ : Rho} {h h' B : Heap} {v a w : V} {k : Nat} {d : Option Nat} {op : Op} {t t' : Nat} {p : String} {af : Array Edge} {L : List Res} {f : Res → List Res} {x y : Operand} {cs ds cs' : List V} {i ie : TI}
theorem dP (hT : T t' = some i) (hw : ∀ b h', Mem B h' (.box b cs :: L) → wqD P T ops (k + 1) rest Q (ρ.put d (.ptr b 0)) h') (hM : Mem B h L := by assumption) (hx : ρ.ev x = some a := by exact eLk) (ht : a.isTup = false := by first | rfl | simp only [*]) (hc : a.cells = cs := by exact (by first | (simp only [*]; first | done | rfl) | (simp only [V.cells]; first | done | rfl))) : wqD P T ops k (⟨d, .box t' x, t, p, af, none⟩ :: rest) Q ρ h := by
 exact CU (Oi hT hx ht hc) (hw _ _ (hM.new _))
end steps
theorem Mem.fY {B H : Heap} {L : List Res} {F : Fact} {f : Res → List Res} (h : Mem B H L) (hh : Has L (.ro F) f := by (repeat (first | exact Has.here | apply Has.there))) : F.p H := h.fact hh
end Go.Proofs.YtncjbjlmgnjhiaaGreat.VM
namespace Go.Proofs.YtncjbjlmgnjhiaaGreat.VM
open Go
set_option linter.unusedVariables false
set_option linter.unusedSimpArgs false
variable {P : Program} {T : Tab} {α β : Type}
section steps
variable {ops : Array Oper} {rest : List Oper} {Q : Rho → Heap → Prop} {ρ : Rho} {h h' B : Heap} {v a w : V} {k : Nat} {d : Option Nat} {op : Op} {t t' : Nat} {p : String} {af : Array Edge} {L : List Res} {f : Res → List Res} {x y : Operand} {cs ds cs' : List V} {i ie : TI} {ps : List DZ}
theorem fR {g : Nat × Bool} (hw : wqE P T ops k (⟨d, op, t, p, af, some g⟩ :: rest) ps Q ρ h) : wqE P T ops k (⟨d, op, t, p, af, some g⟩ :: rest) ps Q ρ h := hw
theorem cV {j e : Nat} {w : Bool} (hw : wqE P T ops k (⟨d, op, t, p, af, none⟩ :: rest) ps Q ρ h) (h1 : (ops[j]?).bind (·.dst) = some e := by rfl) (h2 : ρ.ev (.tmp e) = some (.bool w) := by exact Ib) : wqE P T ops k (⟨d, op, t, p, af, some (j, w)⟩ :: rest) ps Q ρ h := by
 simp only [wqE] at hw ⊢; rw [if_pos ET] at hw; rw [if_pos (by rw [IA (ES h1 h2)]; simp)]; exact hw
theorem YQ {j e : Nat} {w : Bool} (hw : wqE P T ops (k + 1) rest ps Q (ρ.put d V.undef) h) (h1 : (ops[j]?).bind (·.dst) = some e := by rfl) (h2 : ρ.ev (.tmp e) = some (.bool !w) := by exact Ib) : wqE P T ops k (⟨d, op, t, p, af, some (j, w)⟩ :: rest) ps Q ρ h := by
 simp only [wqE]; rw [if_neg (by rw [IA (ES h1 h2)]; simp)]; exact hw
end steps
end Go.Proofs.YtncjbjlmgnjhiaaGreat.VM
namespace Go.Proofs.YtncjbjlmgnjhiaaGreat.VM
open Go
set_option maxRecDepth 100000 in
theorem aF : T 195 = some { k := .slice 199, size := 1, bytes := 24, zero := [.AN] } := rfl
theorem gV : T 197 = some { k := .strct [(26, 0), (195, 9)], size := 10, bytes := 112, zero := [.int .i64 0, .int .i64 0, .int .i64 0, .AN, .int .i64 0, .int .i64 0, .int .i64 0, .int .i64 0, .bool false, .AN] } := rfl
theorem dJ : T 199 = some { k := .strct [(82, 0), (3, 5), (4, 6)], size := 7, bytes := 88, zero := [.AN, .AN, .int .i64 0, .int .i64 0, .int .i64 0, .int .i64 0, .bool false] } := rfl
end Go.Proofs.YtncjbjlmgnjhiaaGreat.VM
namespace Go.Proofs.YtncjbjlmgnjhiaaGreat.VM
open Go
set_option linter.unusedVariables false
set_option linter.unusedSimpArgs false
attribute [local irreducible] wq wqL wqD wqE wqO Th Bk EndR
set_option maxHeartbeats 8000000
theorem SJ (c : Cfg) (id : Int) : (Bq c id).Fit := by
 unfold Bq
 split
 ·rename_i h
  exact Di (Ff (He h).1 id)
 ·exact ⟨by simp, by simp⟩
theorem TZ (p : Nat) (h : p < 2) : ∃ o, (FX Bv).ms[p]? = some o ∧ o.1.t = 0 := by
 obtain ⟨o, h1, h2⟩ := ZD IJ (p := p) (by show (p : Int) < 2; omega)
 exact ⟨o, h1, by rw [h2]; rfl⟩
def SM (c : Cfg) (es : List Ev) (id a : Int) : Option Chk := ((Ju (Ce c es) id)[a.toNat]?).join
def Gj (c : Cfg) (es : List Ev) (id a : Int) : Bool := Al c && Ap es c.m && within id 0 (IntKind.i64.wrap (c.m - 1)) && decide (0 ≤ a) && decide (a ≤ (BD es id : Int))
def FN (c : Cfg) (es : List Ev) (id a : Int) : Chk × Int := if Gj c es id a = true then (match SM c es id a with
 | none => (FP, 2400)
 | some k => (k, 0)) else (FP, 2400)
theorem Wi (c : Cfg) (es : List Ev) : Ce c (es.take es.length) = Ce c es := by rw [List.take_length]
theorem Oe {c : Cfg} {es : List Ev} (hm : Ap es c.m = true) {m : Int} (h0 : 0 ≤ m) (h : m < c.m) {i : Nat} : ∀ d, i + d ≤ es.length → ∃ l, Ju (Ce c (es.take (i + d))) m = Ju (Ce c (es.take i)) m ++ l
 | 0, _ => ⟨[], by simp⟩
 | d + 1, hd => by
  obtain ⟨l, hl⟩ := Oe hm h0 h (i := i) d (by omega)
  have he : es[i + d]? = some (es[i + d]'(by omega)) := by simp
  generalize es[i + d]'(by omega) = e at he
  obtain ⟨hmb, _⟩ := JE ((DU hm).2.2 _ e he)
  obtain ⟨h1, _⟩ := LH (c := c) hm (i + d) (by omega)
  rw [show i + (d + 1) = i + d + 1 by omega, KQ he]
  unfold Ov
  rw [Od ⟨hmb.1, by omega⟩ h0]
  by_cases hme : m = e.member
  ·subst hme
   rw [if_pos rfl, hl, List.append_assoc]
   exact ⟨_, rfl⟩
  ·rw [if_neg hme]; exact ⟨l, hl⟩
theorem Pk {c : Cfg} {es : List Ev} (hm : Ap es c.m = true) {id : Int} (h0 : 0 ≤ id) (h : id < c.m) {i : Nat} (hi : i ≤ es.length) : SM c es id (BD (es.take i) id : Nat) = Fz (Ce c (es.take i)) id := by
 obtain ⟨_, h2⟩ := LH (c := c) hm i hi
 obtain ⟨l, hl⟩ := Oe hm h0 h (i := i) (es.length - i) (by omega)
 rw [show i + (es.length - i) = es.length by omega, Wi] at hl
 unfold SM Fz
 rw [hl, h2 id h0 h, Int.toNat_natCast, List.getElem?_append_left (by rw [h2 id h0 h]; omega)]
 rfl
theorem Ub {c : Cfg} {k : Chk} (h : BW c k = true) : 0 ≤ k.t ∧ k.t ≤ 32 := by
 unfold BW BI at h
 rw [Bool.and_eq_true] at h
 obtain ⟨_, _, _, _, _, h0, h1⟩ := Bo h.1
 exact ⟨h0, h1⟩
theorem Sh {c : Cfg} {k : Chk} {r m : Int} (h : BW c k = true) (hy : BK r m = true) : BW c ⟨k.ws, k.vs, r, m, k.t⟩ = true := by
 unfold BW BI at h ⊢
 rw [Bool.and_eq_true] at h ⊢
 refine ⟨?_, h.2⟩
 have h1 := h.1
 unfold CT at h1 ⊢
 simp only [Bool.and_eq_true, decide_eq_true_eq] at h1 ⊢
 exact ⟨⟨⟨h1.1.1.1, hy⟩, h1.1.2⟩, h1.2⟩
theorem Qp {c : Cfg} {es : List Ev} {id a : Int} (h : Gj c es id a = true) : Al c = true ∧ Ap es c.m = true ∧ (0 ≤ id ∧ id < c.m) ∧ 0 ≤ a ∧ a ≤ (BD es id : Int) := by
 unfold Gj at h
 simp only [Bool.and_eq_true, decide_eq_true_eq] at h
 obtain ⟨⟨⟨⟨h1, h2⟩, h3⟩, h4⟩, h5⟩ := h
 obtain ⟨hm2, _⟩ := AX h1
 rw [Ip hm2, within_iff] at h3
 exact ⟨h1, h2, ⟨h3.1, by omega⟩, h4, h5⟩
theorem US {c : Cfg} {es : List Ev} {id a : Int} (h : Gj c es id a = true) {k : Chk} (hk : SM c es id a = some k) : FN c es id a = (k, 0) := by
 unfold FN
 rw [if_pos h, hk]
theorem UR {c : Cfg} {es : List Ev} {id a : Int} (hk : SM c es id a = none) : FN c es id a = (FP, 2400) := by
 unfold FN
 split
 ·rw [hk]
 ·rfl
theorem Yb {c : Cfg} {es : List Ev} {id a : Int} (h : Gj c es id a = false) : FN c es id a = (FP, 2400) := by
 unfold FN
 rw [h, if_neg (by decide)]
abbrev paC (p : Pa) : List V := [p.w, p.v, .int .i64 p.k.r, .int .i64 p.k.m, .int .i64 p.k.t, .int .i64 p.n, .bool p.bad]
def FQ (cs : List V) (p : Pa) : Prop := cs = paC p
theorem OU {H : Heap} {ps : List Pa} (h : (pack (paths ps)).p H) {i : Nat} {p : Pa} (hp : ps[i]? = some p) : KAt H p.w p.v p.k := by
 have hm := IE h
 have hr : (paths ps)[i]? = some (Kb p) := by unfold paths; rw [List.getElem?_map, hp]; rfl
 exact Si (hm.get (Has.nth hr))
theorem Mem.cM {B H : Heap} {r s : Res} {M : List Res} (h : Mem B H (.ro (pack [r, s]) :: M)) : Mem B H (r :: s :: M) := Mem.Fu (L := [r, s]) h
theorem Mem.RH {B H : Heap} {ps : List Pa} {M : List Res} {p : Pa} {i : Nat} (h : Mem B H (.own 1 AH p.w p.k.ws :: .own 1 AH p.v p.k.vs :: .ro (pack (paths ps)) :: M)) (hi : i < ps.length) : Mem B H (.ro (pack (paths (ps.set i p))) :: M) := by
 have h1 := h.Vx.swap
 have h2 := Mem.ZZ h1 i (by unfold paths; rw [List.length_map]; exact hi)
 have e : (paths ps).set i (.ro (pack [.own 1 AH p.w p.k.ws, .own 1 AH p.v p.k.vs])) = paths (ps.set i p) := by
  unfold paths; rw [List.map_set]; rfl
 rw [e] at h2
 exact h2
theorem Mem.TW {B H : Heap} {ps : List Pa} {M : List Res} {p q : Pa} {i : Nat} (h : Mem B H (.ro (pack (paths ps)) :: M)) (hp : ps[i]? = some p) (e1 : q.w = p.w) (e2 : q.v = p.v) (e3 : q.k.ws = p.k.ws) (e4 : q.k.vs = p.k.vs) : Mem B H (.ro (pack (paths (ps.set i q))) :: M) := by
 have e : paths (ps.set i q) = paths ps := by
  unfold paths
  rw [List.map_set]
  have : Kb q = Kb p := by unfold Kb; rw [e1, e2, e3, e4]
  rw [this]
  apply List.ext_getElem?
  intro j
  rw [List.getElem?_set]
  by_cases hj : i = j
  ·subst hj
   rw [List.getElem?_map, hp]
   have := (List.getElem?_eq_some_iff.1 hp).1
   simp [this]
  ·simp [hj]
 rw [e]
 exact h
structure Km (c : Cfg) (es : List Ev) (k : Nat) (ps : List Pa) : Prop where
 len : ps.length = c.m.toNat
 n : ∀ (i : Nat) p, ps[i]? = some p → p.n = (BD (es.take k) i : Int)
 fits : ∀ (i : Nat) p, ps[i]? = some p → BW c p.k = true
 now : ∀ (i : Nat) p, ps[i]? = some p → Fz (Ce c (es.take k)) i = if p.bad = true then none else some p.k
def PE (c : Cfg) (e : Ev) (p : Pa) (q : Option Pa) : Chk × Bool :=
 if e.kind = 0 then (if (p.bad || (Cs c e.member p.k).2 != 0) = true then (p.k, true) else ((Cs c e.member p.k).1, false))
 else if e.kind = 1 then (match q with
  | none => (p.k, p.bad)
  | some q => (⟨q.k.ws, q.k.vs, q.k.r, q.k.m, p.k.t⟩, p.bad || q.bad))
 else (⟨p.k.ws, p.k.vs, e.rate, e.mom, p.k.t⟩, p.bad)
theorem cJ {c : Cfg} (hc : Al c = true) {es : List Ev} (hm : Ap es c.m = true) {k : Nat} {e : Ev} (he : es[k]? = some e) {ps : List Pa} (h : Km c es k ps) {p p' : Pa} (hp : ps[e.member.toNat]? = some p)
  (h1 : (p'.k, p'.bad) = PE c e p (if e.kind = 1 then ps[e.BV.toNat]? else none)) (h2 : p'.n = p.n + 1) : Km c es (k + 1) (ps.set e.member.toNat p') := by
 obtain ⟨hl, hn, hf, hw⟩ := h
 have hk := (List.getElem?_eq_some_iff.1 he).1
 obtain ⟨hmb, hd, hkd, hy⟩ := JE ((DU hm).2.2 k e he)
 have hmn : ((e.member.toNat : Nat) : Int) = e.member := by omega
 have hi := (List.getElem?_eq_some_iff.1 hp).1
 have get : ∀ (i : Nat) q, (ps.set e.member.toNat p')[i]? = some q → (i = e.member.toNat ∧ q = p') ∨ (i ≠ e.member.toNat ∧ ps[i]? = some q) := by
  intro i q hq
  rw [List.getElem?_set] at hq
  by_cases hie : e.member.toNat = i
  ·subst hie
   rw [if_pos rfl, if_pos hi] at hq
   exact .inl ⟨rfl, (Option.some.inj hq).symm⟩
  ·rw [if_neg hie] at hq
   exact .inr ⟨fun h => hie h.symm, hq⟩
 have hpf := hf _ _ hp
 have hpw := hw _ _ hp
 rw [hmn] at hpw
 obtain ⟨_, _, _, htot, _⟩ := AX hc
 obtain ⟨dq, hdq⟩ : ∃ dq, (if e.kind = 1 then ps[e.BV.toNat]? else none) = dq := ⟨_, rfl⟩
 rw [hdq] at h1
 have hdon : e.kind = 1 → ∃ q, dq = some q ∧ BW c q.k = true ∧ Fz (Ce c (es.take k)) e.BV = if q.bad = true then none else some q.k := fun hk1 => by
  obtain ⟨hdi, _, _⟩ := hd hk1
  have hdn : ((e.BV.toNat : Nat) : Int) = e.BV := by omega
  obtain ⟨q, hq⟩ : ∃ q, ps[e.BV.toNat]? = some q := ⟨ps[e.BV.toNat]'(by omega), by simp⟩
  rw [if_pos hk1] at hdq
  have := hw _ _ hq
  rw [hdn] at this
  exact ⟨q, by rw [← hdq, hq], hf _ _ hq, this⟩
 have key : BW c p'.k = true ∧ turnK c e (if p.bad = true then none else some p.k) (if e.kind = 1 then Fz (Ce c (es.take k)) e.BV else none) = if p'.bad = true then none else some p'.k := by
  obtain ⟨pw, pv, pk, pn, pb⟩ := p
  obtain ⟨w', v', k', n', b'⟩ := p'
  simp only at h1 hpf hpw ⊢
  unfold PE at h1
  by_cases hk0 : e.kind = 0
  ·rw [if_pos hk0] at h1
   rw [if_neg (show ¬ e.kind = 1 by omega)]
   unfold turnK
   by_cases ht : pk.t < c.total
   ·rw [IM hc hmb hpf ht] at h1
    simp only [bne_self_eq_false, Bool.or_false] at h1
    have hgo := IM hc hmb hpf ht
    cases pb with
    | true => simp at h1; obtain ⟨rfl, rfl⟩ := h1; exact ⟨hpf, by simp⟩
    | false =>
     simp at h1
     obtain ⟨rfl, rfl⟩ := h1
     refine ⟨PH hpf (by omega), ?_⟩
     simp [hk0, hgo]
   ·rw [Ja hc hmb hpf (by omega)] at h1
    have hgo := Ja hc hmb hpf (by omega)
    simp at h1
    obtain ⟨rfl, rfl⟩ := h1
    refine ⟨hpf, ?_⟩
    cases pb <;> simp [hk0, hgo]
  ·rw [if_neg hk0] at h1
   by_cases hk1 : e.kind = 1
   ·obtain ⟨q, rfl, hqf, hqn⟩ := hdon hk1
    rw [if_pos hk1] at h1
    simp only [Prod.mk.injEq] at h1
    obtain ⟨rfl, rfl⟩ := h1
    rw [if_pos hk1, hqn]
    refine ⟨Vj (k := q.k) hqf (Ub hpf), ?_⟩
    unfold turnK
    cases pb <;> cases q.bad <;> simp [hk0, hk1]
   ·rw [if_neg hk1] at h1
    simp only [Prod.mk.injEq] at h1
    obtain ⟨rfl, rfl⟩ := h1
    rw [if_neg hk1]
    refine ⟨Sh hpf (hy (by omega)), ?_⟩
    unfold turnK
    cases b' <;> simp [hk0, hk1]
 refine ⟨by rw [List.length_set]; exact hl, fun i q hq => ?_, fun i q hq => ?_, fun i q hq => ?_⟩
 ·rw [Fi he]
  rcases get i q hq with ⟨rfl, rfl⟩ | ⟨hne, hq⟩
  ·rw [h2, hn _ _ hp, hmn, if_pos rfl]; omega
  ·rw [if_neg (by omega), hn _ _ hq]; omega
 ·rcases get i q hq with ⟨rfl, rfl⟩ | ⟨hne, hq⟩
  ·exact key.1
  ·exact hf _ _ hq
 ·have hil : i < c.m.toNat := by have := (List.getElem?_eq_some_iff.1 hq).1; rw [List.length_set] at this; omega
  rw [Py hm he (by omega) (by omega)]
  rcases get i q hq with ⟨rfl, rfl⟩ | ⟨hne, hq⟩
  ·rw [if_pos hmn, hpw]
   exact key.2
  ·rw [if_neg (by omega)]
   exact hw _ _ hq
theorem TD {c : Cfg} (hc : Al c = true) {es : List Ev} {ps : List Pa} (hl : ps.length = c.m.toNat) (h : ∀ (i : Nat) p, ps[i]? = some p → p.k = Bq c i ∧ p.n = 0 ∧ p.bad = false) : Km c es 0 ps := by
 refine ⟨hl, fun i p hp => by rw [(h i p hp).2.1]; rfl, fun i p hp => ?_, fun i p hp => ?_⟩
 ·have hi := (List.getElem?_eq_some_iff.1 hp).1
  rw [(h i p hp).1]
  obtain ⟨hm2, _⟩ := AX hc
  have hok : Cx c i = true := by
   unfold Cx
   rw [hc, Ip hm2, within_iff.2 ⟨by omega, by omega⟩]; rfl
  unfold Bq
  rw [if_pos hok]
  exact Ff hc _
 ·have hi := (List.getElem?_eq_some_iff.1 hp).1
  obtain ⟨h1, _, h3⟩ := h i p hp
  have e : Ce c (es.take 0) = Kg c := rfl
  rw [e]
  unfold Fz
  rw [Kh (by omega) (by omega), h1, h3]; rfl
abbrev Gi (c : Cfg) (rv u : V) : List V := [.int .i64 c.m, .int .i64 c.i, .int .i64 c.h, rv, .int .i64 c.seed, .int .i64 c.total, .int .i64 c.interval, .int .i64 c.cutn, .bool c.pert, u]
theorem Ee {B H : Heap} {L : List Res} {f : Res → List Res} {u : V} {ps : List Pa} (hM : Mem B H L) (hh : Has L (.own 7 FQ u ps) f) {k : Nat} {p : Pa} (hp : ps[k]? = some p) :
  ∃ b o, idxV T 195 u (k : Int) = some (.ptr b o) ∧ loadV T 82 H b o = some (.agg (kC p.w p.v p.k)) ∧ loadV T 3 H b (o + 5) = some (.int .i64 p.n) ∧ loadV T 4 H b (o + 6) = some (.bool p.bad) := by
 obtain ⟨b, o, cs, hi, hc, _, hlo, hlc⟩ := (hM.sl hh).get aF rfl dJ rfl hp
 rw [hc] at hlo hlc
 refine ⟨b, o, hi, AZ T82 rfl ?_, AF T3 rfl (hlc 5 _ rfl), AF T4 rfl (hlc 6 _ rfl)⟩
 exact JL (j := 0) (n := 5) hlo (by decide)
theorem Dd {B H : Heap} {L : List Res} {f : Res → List Res} {u : V} {ps : List Pa} (hM : Mem B H L) (hh : Has L (.own 7 FQ u ps) f) {k : Nat} {p : Pa} (hp : ps[k]? = some p) {b o : Nat} (hi : idxV T 195 u (k : Int) = some (.ptr b o))
  (off : Nat) {te : Nat} {it : TI} (hTe : T te = some it) (hoff : off + it.size ≤ 7) {w : V} {p' : Pa} (hw : w.isTup = false) (hl : w.cells.length = it.size) (hs : setL (paC p) off w.cells = paC p') :
  ∃ H', storeV T te H b (o + off) w = some H' ∧ Mem B H' (f (.own 7 FQ u (ps.set k p'))) := by
 obtain ⟨b', hix, hput⟩ := hM.elemAt hh aF rfl dJ rfl hp off hTe hoff
 rw [hi] at hix
 cases hix
 exact hput w p' hw hl fun cs hl hR => by rw [hR]; exact hs
theorem cH (B H : Heap) (L : List Res) (c : Cfg) (rv u : V) (ps : List Pa) (fb eb eo : Nat) (e : Ev) (p : Pa)
  (hM : Mem B H (.box fb (Gi c rv u) :: .own 7 FQ u ps :: .ro (pack (paths ps)) :: L)) (hr : Rows B rv c.rows) (cf : c.Fit) (hpf : ∀ (i : Nat) p, ps[i]? = some p → p.k.Fit)
  (e0 : loadV T 3 H eb eo = some (.int .i64 e.kind)) (e1 : loadV T 3 H eb (eo + 1) = some (.int .i64 e.member)) (e2 : loadV T 3 H eb (eo + 2) = some (.int .i64 e.BV)) (e4 : loadV T 80 H eb (eo + 4) = some (.agg [.int .i64 e.rate, .int .i64 e.mom]))
  (hm0 : 0 ≤ e.member) (hp : ps[e.member.toNat]? = some p) (hd : e.kind = 1 → ∃ q, 0 ≤ e.BV ∧ ps[e.BV.toNat]? = some q) (hn : 0 ≤ p.n ∧ p.n ≤ 2000) :
  ∃ w H', Call Tryz.prog 141 [.ptr fb 0, .ptr eb eo] H w H' ∧ w = .tup [] ∧ ∃ p', (p'.k, p'.bad) = PE c e p (if e.kind = 1 then ps[e.BV.toNat]? else none) ∧ p'.n = p.n + 1 ∧ Mem B H' (.box fb (Gi c rv u) :: .own 7 FQ u (ps.set e.member.toNat p') :: .ro (pack (paths (ps.set e.member.toNat p'))) :: L) := by
 obtain ⟨kd, mb, dn, at_, ra, mo⟩ := e
 simp only at e0 e1 e2 e4 hm0 hp hd ⊢
 obtain ⟨m, rfl⟩ : ∃ m : Nat, mb = m := ⟨mb.toNat, by omega⟩
 rw [Int.toNat_natCast] at hp ⊢
 have hml := (List.getElem?_eq_some_iff.1 hp).1
 have s1 := (hM.sl (.there .here)).cells
 have hk := OU (hM.fact (.there (.there .here))) hp
 have kf := hpf _ _ hp
 have t1 := hk.ws.cells
 have t2 := hk.vs.cells
 obtain ⟨b, o, hi, l0, l5, l6⟩ := Ee hM (.there .here) hp
 obtain ⟨pw, pv, pk, pn, pb⟩ := p
 simp only at hk kf hn l0 l5 l6 t1 t2 ⊢
 have wn : IntKind.i64.wrap (pn + 1) = pn + 1 := wrap_i64 (by omega) (by omega)
 clear hn hm0
 by_cases h0 : kd = 0
 ·subst h0
  obtain ⟨a, b2, H1, c1, m1⟩ := gI H c rv pw pv m pk (hr.mono hM.pre) hk cf kf
  have tk : PE c ⟨0, (m : Int), dn, at_, ra, mo⟩ ⟨pw, pv, pk, pn, pb⟩ none = if (pb || (Cs c m pk).2 != 0) = true then (pk, true) else ((Cs c m pk).1, false) := rfl
  rw [if_neg (by decide), tk]
  clear tk hd
  generalize Cs c m pk = o1 at *
  obtain ⟨k1, f1⟩ := o1
  simp only at c1 m1 ⊢
  refine CO fit mixed hM Tryz.func141 rfl rfl rfl (by kernel_rfl) fun _ => ?_
  refine goM ?_
  refine Be c1 (.inl m1.pre) ?_
  have s3 := (m1.sl .here).cells
  have s4 := (m1.sl (.there .here)).cells
  replace hM := hM.call2 m1
  clear c1 m1 l0 l5 l6 hk
  refine goM ?_
  refine IZ (cs := Ay) T82 rfl fun b5 H2 hM => ?_
  refine DT T82 fun H3 hM => ?_
  obtain ⟨_, _, hi', l0, l5, l6⟩ := Ee hM hsG hp
  rw [hi] at hi'
  cases hi'
  simp only at l0 l5 l6
  have done1 : ∀ bd : Bool, ∃ H4, storeV T 4 H3 b (o + 6) (.bool bd) = some H4 ∧ Mem B H4 (.box b5 (kC a b2 k1) :: .own 1 AH a k1.ws :: .own 1 AH b2 k1.vs :: .box fb (Gi c rv u) :: .own 7 FQ u (ps.set m ⟨pw, pv, pk, pn, bd⟩) :: .ro (pack (paths ps)) :: L) := fun bd =>
   Dd hM (.there (.there (.there (.there .here)))) hp hi 6 T4 (by decide) rfl rfl rfl
  have bad : ∀ H4 (hM4 : Mem B H4 (.box b5 (kC a b2 k1) :: .own 1 AH a k1.ws :: .own 1 AH b2 k1.vs :: .box fb (Gi c rv u) :: .own 7 FQ u (ps.set m ⟨pw, pv, pk, pn, true⟩) :: .ro (pack (paths ps)) :: L)), ∃ H5, loadV T 4 H4 b (o + 6) = some (.bool true) ∧ loadV T 3 H4 b (o + 5) = some (.int .i64 pn) ∧ storeV T 3 H4 b (o + 5) (.int .i64 (pn + 1)) = some H5 ∧ Mem B H5 (.box fb (Gi c rv u) :: .own 7 FQ u (ps.set m ⟨pw, pv, pk, pn + 1, true⟩) :: .ro (pack (paths (ps.set m ⟨pw, pv, pk, pn + 1, true⟩))) :: L) := fun H4 hM4 => by
   have hp4 : (ps.set m ⟨pw, pv, pk, pn, true⟩)[m]? = some ⟨pw, pv, pk, pn, true⟩ := List.getElem?_set_self hml
   obtain ⟨_, _, hi', _, l5, l6⟩ := Ee hM4 (.there (.there (.there (.there .here)))) hp4
   rw [hi] at hi'
   cases hi'
   obtain ⟨H5, st, hM5⟩ := Dd hM4 (.there (.there (.there (.there .here)))) hp4 hi 5 T3 (by decide) (w := .int .i64 (pn + 1)) (p' := ⟨pw, pv, pk, pn + 1, true⟩) rfl rfl rfl
   rw [List.set_set] at hM5
   have h6 := (hM5.front (r := .ro (pack (paths ps))) tkG).TW (q := ⟨pw, pv, pk, pn + 1, true⟩) hp rfl rfl rfl rfl
   have h7 := (h6.front (r := .own 7 FQ u (ps.set m ⟨pw, pv, pk, pn + 1, true⟩)) tkG).front (r := .box fb (Gi c rv u)) tkG
   exact ⟨H5, l6, l5, st, h7.sub sbG⟩
  obtain ⟨q, hq⟩ : ∃ q, (f1 != 0) = q := ⟨_, rfl⟩
  cases pb with
  | true =>
   obtain ⟨H4, st4, hM4⟩ := done1 true
   obtain ⟨H5, l6', l5', st5, hM5⟩ := bad H4 hM4
   clear done1 bad
   refine goM ?_
   refine Dc st4 ?_
   clear hM l0 l5 l6
   have hM := hM4
   refine goM ?_
   refine Dc st5 ?_
   refine goM ?_
   refine Bu (by simp only [resRf, resRs, resR]; first | done | rfl) ⟨rfl, ⟨pw, pv, pk, pn + 1, true⟩, rfl, rfl, hM5⟩
  | false =>
   cases q with
   | true =>
    obtain ⟨H4, st4, hM4⟩ := done1 true
    obtain ⟨H5, l6', l5', st5, hM5⟩ := bad H4 hM4
    clear done1 bad
    refine goM ?_
    refine Dc st4 ?_
    clear hM l0 l5 l6
    have hM := hM4
    refine goM ?_
    refine Dc st5 ?_
    refine goM ?_
    refine Bu (by simp only [resRf, resRs, resR]; first | done | rfl) ⟨rfl, ⟨pw, pv, pk, pn + 1, true⟩, by first | rfl | (rw [hq]; rfl), rfl, hM5⟩
   | false =>
    obtain ⟨H4, st4, hM4⟩ := done1 false
    have hp4 : (ps.set m ⟨pw, pv, pk, pn, false⟩)[m]? = some ⟨pw, pv, pk, pn, false⟩ := List.getElem?_set_self hml
    obtain ⟨_, _, hi', _, l5', l6'⟩ := Ee hM4 hsG hp4
    rw [hi] at hi'
    cases hi'
    obtain ⟨H5, st5, hM5⟩ := Dd hM4 (.there (.there (.there (.there .here)))) hp4 hi 0 T82 (by decide) (w := .agg (kC a b2 k1)) (p' := ⟨a, b2, k1, pn, false⟩) rfl rfl rfl
    rw [List.set_set] at hM5
    have hp5 : (ps.set m ⟨a, b2, k1, pn, false⟩)[m]? = some ⟨a, b2, k1, pn, false⟩ := List.getElem?_set_self hml
    obtain ⟨_, _, hi', _, l5'', _⟩ := Ee hM5 hsG hp5
    rw [hi] at hi'
    cases hi'
    obtain ⟨H6, st6, hM6⟩ := Dd hM5 (.there (.there (.there (.there .here)))) hp5 hi 5 T3 (by decide) (w := .int .i64 (pn + 1)) (p' := ⟨a, b2, k1, pn + 1, false⟩) rfl rfl rfl
    rw [List.set_set] at hM6
    have h6 := ((hM6.front (r := .ro (pack (paths ps))) tkG).front (r := .own 1 AH b2 k1.vs) tkG).front (r := .own 1 AH a k1.ws) tkG
    have h7 := h6.RH (p := ⟨a, b2, k1, pn + 1, false⟩) hml
    have h8 := (h7.front (r := .own 7 FQ u (ps.set m ⟨a, b2, k1, pn + 1, false⟩)) tkG).front (r := .box fb (Gi c rv u)) tkG
    clear done1 bad h6 h7 hM6
    simp only [Nat.add_zero] at st5
    refine goM ?_
    refine Dc st4 ?_
    clear hM l0 l5 l6
    have hM := hM4
    refine goM ?_
    refine Dc st5 ?_
    clear hM hM4 l5' l6'
    have hM := hM5
    refine goM ?_
    refine Dc st6 ?_
    refine goM ?_
    refine Bu (by simp only [resRf, resRs, resR]; first | done | rfl) ⟨rfl, ⟨a, b2, k1, pn + 1, false⟩, by first | rfl | (rw [hq]; rfl), rfl, h8.sub sbG⟩
 ·have n0 : (kd == 0) = false := by simpa using h0
  by_cases h1 : kd = 1
  ·subst h1
   obtain ⟨q, hd0, hq⟩ := hd rfl
   clear hd h0
   obtain ⟨d, rfl⟩ : ∃ d : Nat, dn = d := ⟨dn.toNat, by omega⟩
   rw [Int.toNat_natCast] at hq ⊢
   rw [if_pos rfl]
   have hk2 := OU (hM.fact (.there (.there .here))) hq
   have kf2 := hpf _ _ hq
   obtain ⟨b', o', hi2, j0, _, j6⟩ := Ee hM (.there .here) hq
   obtain ⟨qw, qv, qk, qn, qb⟩ := q
   simp only at hk2 kf2 j0 j6
   have t3 := hk2.ws.cells
   have t4 := hk2.vs.cells
   obtain ⟨_, H1, c1, a, b2, rfl, m1⟩ := KF H qw qv qk hk2 kf2
   have tk : PE c ⟨1, (m : Int), d, at_, ra, mo⟩ ⟨pw, pv, pk, pn, pb⟩ (some ⟨qw, qv, qk, qn, qb⟩) = (⟨qk.ws, qk.vs, qk.r, qk.m, pk.t⟩, pb || qb) := rfl
   rw [hq, tk]
   clear tk n0
   refine CO fit mixed hM Tryz.func141 rfl rfl rfl (by kernel_rfl) fun _ => ?_
   refine goM ?_
   refine AA c1 ?_
   have s3 := (m1.sl .here).cells
   have s4 := (m1.sl (.there .here)).cells
   replace hM := hM.call2 m1
   clear c1 m1 l0 l5 l6 hk hk2 j0 j6
   refine goM ?_
   refine Aj (cs := Ay) T82 rfl fun b5 H2 hM => ?_
   refine AM T82 fun H3 hM => ?_
   obtain ⟨_, _, hi', l0, l5, l6⟩ := Ee hM hsG hp
   rw [hi] at hi'
   cases hi'
   obtain ⟨_, _, hi', _, _, j6⟩ := Ee hM hsG hq
   rw [hi2] at hi'
   cases hi'
   simp only at l0 l5 l6 j6
   obtain ⟨H4, st4, hM4⟩ := Dd hM (.there (.there (.there (.there .here)))) hp hi 0 T27 (by decide) (w := a) (p' := ⟨a, pv, pk, pn, pb⟩) s4.2 (by rw [s4.1]; rfl) (by rw [s4.1]; rfl)
   have hp4 : (ps.set m ⟨a, pv, pk, pn, pb⟩)[m]? = some ⟨a, pv, pk, pn, pb⟩ := List.getElem?_set_self hml
   obtain ⟨H5, st5, hM5⟩ := Dd hM4 (.there (.there (.there (.there .here)))) hp4 hi 1 T27 (by decide) (w := b2) (p' := ⟨a, b2, pk, pn, pb⟩) s3.2 (by rw [s3.1]; rfl) (by rw [s3.1]; rfl)
   rw [List.set_set] at hM5
   have hp5 : (ps.set m ⟨a, b2, pk, pn, pb⟩)[m]? = some ⟨a, b2, pk, pn, pb⟩ := List.getElem?_set_self hml
   obtain ⟨H6, st6, hM6⟩ := Dd hM5 (.there (.there (.there (.there .here)))) hp5 hi 2 T80 (by decide) (w := .agg [.int .i64 qk.r, .int .i64 qk.m]) (p' := ⟨a, b2, ⟨qk.ws, qk.vs, qk.r, qk.m, pk.t⟩, pn, pb⟩) rfl rfl rfl
   rw [List.set_set] at hM6
   have hp6 : (ps.set m ⟨a, b2, ⟨qk.ws, qk.vs, qk.r, qk.m, pk.t⟩, pn, pb⟩)[m]? = some ⟨a, b2, ⟨qk.ws, qk.vs, qk.r, qk.m, pk.t⟩, pn, pb⟩ := List.getElem?_set_self hml
   obtain ⟨H7, st7, hM7⟩ := Dd hM6 (.there (.there (.there (.there .here)))) hp6 hi 6 T4 (by decide) (w := .bool (pb || qb)) (p' := ⟨a, b2, ⟨qk.ws, qk.vs, qk.r, qk.m, pk.t⟩, pn, pb || qb⟩) rfl rfl rfl
   rw [List.set_set] at hM7
   have hp7 : (ps.set m ⟨a, b2, ⟨qk.ws, qk.vs, qk.r, qk.m, pk.t⟩, pn, pb || qb⟩)[m]? = some ⟨a, b2, ⟨qk.ws, qk.vs, qk.r, qk.m, pk.t⟩, pn, pb || qb⟩ := List.getElem?_set_self hml
   obtain ⟨_, _, hi', _, l5', _⟩ := Ee hM7 hsG hp7
   rw [hi] at hi'
   cases hi'
   obtain ⟨H8, st8, hM8⟩ := Dd hM7 (.there (.there (.there (.there .here)))) hp7 hi 5 T3 (by decide) (w := .int .i64 (pn + 1)) (p' := ⟨a, b2, ⟨qk.ws, qk.vs, qk.r, qk.m, pk.t⟩, pn + 1, pb || qb⟩) rfl rfl rfl
   rw [List.set_set] at hM8
   have h6 := ((hM8.front (r := .ro (pack (paths ps))) tkG).front (r := .own 1 AH b2 qk.vs) tkG).front (r := .own 1 AH a qk.ws) tkG
   have h7 := h6.RH (p := ⟨a, b2, ⟨qk.ws, qk.vs, qk.r, qk.m, pk.t⟩, pn + 1, pb || qb⟩) hml
   have h8 := (h7.front (r := .own 7 FQ u (ps.set m ⟨a, b2, ⟨qk.ws, qk.vs, qk.r, qk.m, pk.t⟩, pn + 1, pb || qb⟩)) tkG).front (r := .box fb (Gi c rv u)) tkG
   clear h6 h7 hM8 hp4 hp5 hp6 hp7 hp hq hpf
   simp only [Nat.add_zero, List.length_cons, List.length_nil] at st4
   cases pb with
   | true =>
    simp only [Bool.true_or] at st7 l5' h8 ⊢
    have und : V.under H3.length b2 = true := (hM.sl (.there .here)).under
    refine goM ?_
    refine NZ ?_
    have np := RK (T := T) H3
    repeat (first | (refine Hw ?_; refine Eo ?_) | refine Ey ?_)
    refine Jd np und ?_
    clear np
    refine JC (OS (BX (off := 1) hM .here T27 rfl rfl)) fun np => ?_
    repeat (first | (refine Hw ?_; refine Eo ?_) | refine Ey ?_)
    refine Jd np (v := .agg [.int .i64 qk.r, .int .i64 qk.m]) rfl ?_
    clear np
    refine JC (Bi (BU (off := 2) hM .here T80 rfl rfl rfl) (BX (off := 1) hM .here T27 rfl rfl)) fun np => ?_
    repeat (first | (refine Hw ?_; refine Eo ?_) | (refine fR ?_; first | refine cV ?_ | refine YQ ?_))
    refine JD st4 ⟨Bi (BU (off := 2) hM4 .here T80 rfl rfl rfl) (BX (off := 1) hM4 .here T27 rfl rfl), ?_⟩
    clear np
    refine JC (Bi (BU (off := 2) hM4 .here T80 rfl rfl rfl) (BX (off := 1) hM4 .here T27 rfl rfl)) fun np => ?_
    repeat (first | (refine Hw ?_; refine Eo ?_) | refine Ey ?_)
    refine JD st5 ⟨Bi (BU (off := 2) hM5 .here T80 rfl rfl rfl) (BX (off := 1) hM5 .here T27 rfl rfl), ?_⟩
    clear np
    refine JC (Bi (BU (off := 2) hM5 .here T80 rfl rfl rfl) (BX (off := 1) hM5 .here T27 rfl rfl)) fun np => ?_
    repeat (first | (refine Hw ?_; refine Eo ?_) | refine Ey ?_)
    refine JD st6 ⟨Bi (BU (off := 2) hM6 .here T80 rfl rfl rfl) (BX (off := 1) hM6 .here T27 rfl rfl), ?_⟩
    clear np
    refine JC (Bi (BU (off := 2) hM6 .here T80 rfl rfl rfl) (BX (off := 1) hM6 .here T27 rfl rfl)) fun np => ?_
    repeat (first | (refine Hw ?_; refine Eo ?_) | refine Ey ?_)
    refine JD st7 ⟨Bi (BU (off := 2) hM7 .here T80 rfl rfl rfl) (BX (off := 1) hM7 .here T27 rfl rfl), ?_⟩
    clear np
    refine JC (Bi (BU (off := 2) hM7 .here T80 rfl rfl rfl) (BX (off := 1) hM7 .here T27 rfl rfl)) fun np => ?_
    repeat (first | (refine Hw ?_; refine Eo ?_) | refine Ey ?_)
    clear np
    clear hM l0 l5 l6
    have hM := hM7
    refine goM ?_
    refine Dc st8 ?_
    refine goM ?_
    refine Bu (by simp only [resRf, resRs, resR]; first | done | rfl) ⟨rfl, ⟨a, b2, ⟨qk.ws, qk.vs, qk.r, qk.m, pk.t⟩, pn + 1, true⟩, rfl, rfl, h8.sub sbG⟩
   | false =>
    simp only [Bool.false_or] at st7 l5' h8 ⊢
    have und : V.under H3.length b2 = true := (hM.sl (.there .here)).under
    refine goM ?_
    refine NZ ?_
    have np := RK (T := T) H3
    repeat (first | (refine Hw ?_; refine Eo ?_) | refine Ey ?_)
    refine Jd np und ?_
    clear np
    refine JC (OS (BX (off := 1) hM .here T27 rfl rfl)) fun np => ?_
    repeat (first | (refine Hw ?_; refine Eo ?_) | refine Ey ?_)
    refine Jd np (v := .agg [.int .i64 qk.r, .int .i64 qk.m]) rfl ?_
    clear np
    refine JC (Bi (BU (off := 2) hM .here T80 rfl rfl rfl) (BX (off := 1) hM .here T27 rfl rfl)) fun np => ?_
    repeat (first | (refine Hw ?_; refine Eo ?_) | (refine fR ?_; first | refine cV ?_ | refine YQ ?_))
    refine JD st4 ⟨Bi (BU (off := 2) hM4 .here T80 rfl rfl rfl) (BX (off := 1) hM4 .here T27 rfl rfl), ?_⟩
    clear np
    refine JC (Bi (BU (off := 2) hM4 .here T80 rfl rfl rfl) (BX (off := 1) hM4 .here T27 rfl rfl)) fun np => ?_
    repeat (first | (refine Hw ?_; refine Eo ?_) | refine Ey ?_)
    refine JD st5 ⟨Bi (BU (off := 2) hM5 .here T80 rfl rfl rfl) (BX (off := 1) hM5 .here T27 rfl rfl), ?_⟩
    clear np
    refine JC (Bi (BU (off := 2) hM5 .here T80 rfl rfl rfl) (BX (off := 1) hM5 .here T27 rfl rfl)) fun np => ?_
    repeat (first | (refine Hw ?_; refine Eo ?_) | refine Ey ?_)
    refine JD st6 ⟨Bi (BU (off := 2) hM6 .here T80 rfl rfl rfl) (BX (off := 1) hM6 .here T27 rfl rfl), ?_⟩
    clear np
    refine JC (Bi (BU (off := 2) hM6 .here T80 rfl rfl rfl) (BX (off := 1) hM6 .here T27 rfl rfl)) fun np => ?_
    repeat (first | (refine Hw ?_; refine Eo ?_) | refine Ey ?_)
    refine JD st7 ⟨Bi (BU (off := 2) hM7 .here T80 rfl rfl rfl) (BX (off := 1) hM7 .here T27 rfl rfl), ?_⟩
    clear np
    refine JC (Bi (BU (off := 2) hM7 .here T80 rfl rfl rfl) (BX (off := 1) hM7 .here T27 rfl rfl)) fun np => ?_
    repeat (first | (refine Hw ?_; refine Eo ?_) | refine Ey ?_)
    clear np
    clear hM l0 l5 l6
    have hM := hM7
    refine goM ?_
    refine Dc st8 ?_
    refine goM ?_
    refine Bu (by simp only [resRf, resRs, resR]; first | done | rfl) ⟨rfl, ⟨a, b2, ⟨qk.ws, qk.vs, qk.r, qk.m, pk.t⟩, pn + 1, qb⟩, rfl, rfl, h8.sub sbG⟩
  ·have n1 : (kd == 1) = false := by simpa using h1
   rw [if_neg h1]
   have tk : PE c ⟨kd, (m : Int), dn, at_, ra, mo⟩ ⟨pw, pv, pk, pn, pb⟩ none = (⟨pk.ws, pk.vs, ra, mo, pk.t⟩, pb) := by
    unfold PE
    simp only
    rw [if_neg h0, if_neg h1]
   rw [tk]
   clear tk hd h0 h1
   obtain ⟨H4, st4, hM4⟩ := Dd hM (.there .here) hp hi 2 T80 (by decide) (w := .agg [.int .i64 ra, .int .i64 mo]) (p' := ⟨pw, pv, ⟨pk.ws, pk.vs, ra, mo, pk.t⟩, pn, pb⟩) rfl rfl rfl
   have hp4 : (ps.set m ⟨pw, pv, ⟨pk.ws, pk.vs, ra, mo, pk.t⟩, pn, pb⟩)[m]? = some ⟨pw, pv, ⟨pk.ws, pk.vs, ra, mo, pk.t⟩, pn, pb⟩ := List.getElem?_set_self hml
   obtain ⟨_, _, hi', _, l5', _⟩ := Ee hM4 hsG hp4
   rw [hi] at hi'
   cases hi'
   obtain ⟨H5, st5, hM5⟩ := Dd hM4 (.there .here) hp4 hi 5 T3 (by decide) (w := .int .i64 (pn + 1)) (p' := ⟨pw, pv, ⟨pk.ws, pk.vs, ra, mo, pk.t⟩, pn + 1, pb⟩) rfl rfl rfl
   rw [List.set_set] at hM5
   have h6 := (hM5.front (r := .ro (pack (paths ps))) tkG).TW (q := ⟨pw, pv, ⟨pk.ws, pk.vs, ra, mo, pk.t⟩, pn + 1, pb⟩) hp rfl rfl rfl rfl
   have h7 := (h6.front (r := .own 7 FQ u (ps.set m ⟨pw, pv, ⟨pk.ws, pk.vs, ra, mo, pk.t⟩, pn + 1, pb⟩)) tkG).front (r := .box fb (Gi c rv u)) tkG
   clear h6 hM5 hp hp4 hpf
   refine CO fit mixed hM Tryz.func141 rfl rfl rfl (by kernel_rfl) fun _ => ?_
   refine goM ?_
   refine Dc st4 ?_
   clear hM l0 l5 l6
   have hM := hM4
   refine goM ?_
   refine Dc st5 ?_
   refine goM ?_
   refine Bu (by simp only [resRf, resRs, resR]; first | done | rfl) ⟨rfl, ⟨pw, pv, ⟨pk.ws, pk.vs, ra, mo, pk.t⟩, pn + 1, pb⟩, rfl, rfl, h7.sub sbG⟩
def tAt (s : St) (q : Nat) : Int := (DB s.ms q).1.t
theorem Eb {s : St} {q : Nat} {o : Chk × Int} (h : s.ms[q]? = some o) : tAt s q = o.1.t := by unfold tAt; rw [Ep h]
theorem Zp {s : St} (h : It s) {q : Nat} (hq : q < s.ms.length) : tAt s q ≤ s.c.total := by
 have e := List.getElem?_eq_getElem hq
 rw [Eb e]
 exact h.tot _ (List.mem_of_getElem? e)
theorem dU {s : St} {p : Nat} {o : Chk × Int} (h : EN s p o) : (doS s p).ms[p]? = some (Ci s p, GC s p) ∧ (Ci s p).t = o.1.t + 1 := by
 have hl := (List.getElem?_eq_some_iff.1 h.at_).1
 have e : (doS s p).ms[p]? = some (Ci s p, GC s p) := List.getElem?_set_self hl
 exact ⟨e, by rw [UA]; exact (HW h.ok h.at_ h.t).2.1⟩
theorem fD {c : Cfg} {s u : St} (h : DO c s) {x : Int} (hs : DA s x = some u) {q : Nat} (hq : q < s.ms.length) : tAt u q = if x = (q : Int) then min c.total (tAt s q + 1) else tAt s q := by
 have eq := List.getElem?_eq_getElem hq
 rcases En h x with ⟨p, o, rfl, pk, _, e⟩ | ⟨p, o, rfl, ho, ht, _, e⟩ | ⟨_, _, e⟩
 ·rw [e] at hs; cases hs
  obtain ⟨e1, e2⟩ := dU pk
  have := (HW pk.ok pk.at_ pk.t).2.2.1
  rw [h.c] at this
  by_cases hpq : p = q
  ·subst hpq
   rw [if_pos rfl, Eb e1, Eb pk.at_]
   simp only
   omega
  ·rw [if_neg (by omega), Eb ((GP pk).rest q (Ne.symm hpq) |>.trans eq), Eb eq]
 ·rw [e] at hs; cases hs
  rw [h.c] at ht
  by_cases hpq : p = q
  ·subst hpq
   rw [if_pos rfl, Eb ho]; omega
  ·rw [if_neg (by omega)]
 ·rw [e] at hs; cases hs
theorem Zm {c : Cfg} {s u : St} (h : DO c s) {x : Int} (hs : DA s x = some u) : u.ms.length = s.ms.length := by
 have h1 := (Gs h hs).1
 have e1 := h1.ok.len
 have e2 := h.ok.len
 rw [h1.c] at e1
 rw [h.c] at e2
 omega
def Ll (q : Nat) (ps : List Int) : Nat := (ps.filter fun x => decide (x = (q : Int))).length
theorem dF {c : Cfg} : ∀ (ps : List Int) (s t : St), DO c s → ps.foldlM DA s = some t → ∀ q, q < s.ms.length → tAt t q = min c.total (tAt s q + Ll q ps)
 | [], s, t, h, e, q, hq => by
  cases e
  have := Zp h.ok hq
  rw [h.c] at this
  simp [Ll]; omega
 | x :: ps, s, t, h, e, q, hq => by
  rw [List.foldlM_cons] at e
  cases hx : DA s x with
  | none => rw [hx] at e; cases e
  | some u =>
   rw [hx] at e
   have ih := dF ps u t (Gs h hx).1 e q (by rw [Zm h hx]; exact hq)
   rw [ih, fD h hx hq]
   have hle := Zp h.ok hq
   rw [h.c] at hle
   unfold Ll
   rw [List.filter_cons]
   by_cases hxq : x = (q : Int)
   ·simp only [hxq, decide_true, if_true, List.length_cons]
    omega
   ·simp only [hxq, decide_false, if_false, Bool.false_eq_true]
theorem Yd {c : Cfg} {s : St} (hs : DO c s) (h : Folds s) {q : Nat} {m : Chk × Int} (hq : s.ms[q]? = some m) : FN c s.es (q : Int) (BD s.es (q : Int) : Nat) = (m.1, 0) := by
 have hl := hs.ok.len
 have hql := (List.getElem?_eq_some_iff.1 hq).1
 have hc := hs.ok.c
 have hev := hs.ok.es
 rw [hs.c] at hc hev hl
 obtain ⟨hm2, _⟩ := AX hc
 have hok : Gj c s.es (q : Int) (BD s.es (q : Int) : Nat) = true := by
  unfold Gj
  rw [hc, hev, Ip hm2, within_iff.2 ⟨by omega, by omega⟩, decide_eq_true (by omega), decide_eq_true (by omega)]; rfl
 have hk := Pk hev (id := (q : Int)) (by omega) (by omega) (i := s.es.length) (Nat.le_refl _)
 rw [List.take_length] at hk
 have hf := h q m hq
 rw [hs.c] at hf
 unfold FN
 rw [if_pos hok, hk, hf]
def PL : Pa := ⟨.AN, .AN, FP, 0, false⟩
theorem Mem.QS {B H : Heap} {M : List Res} (h : Mem B H M) : ∀ n, Mem B H (paths (List.replicate n PL) ++ M)
 | 0 => h
 | n + 1 => by
  have ih := Mem.QS h n
  exact (((ih.nil 1 AH).nil 1 AH).Vx)
theorem Mem.Zq {B H : Heap} {ps : List Pa} {M : List Res} {i : Nat} {p : Pa} (h : Mem B H (.ro (pack (paths ps)) :: M)) (hp : ps[i]? = some p) : Mem B H [.own 1 AH p.v p.k.vs, .own 1 AH p.w p.k.ws] := by
 have h1 := h.Fu
 have hm : Kb p ∈ paths ps := by unfold paths; exact List.mem_map_of_mem (List.mem_of_getElem? hp)
 have h2 : Mem B H [Kb p] := h1.sub (List.singleton_sublist.2 (List.mem_append_left _ hm))
 exact (Mem.cM h2).swap
theorem UQ (H : Heap) (c : Cfg) (rv v : V) (es : List Ev) (id at_ : Int) (hr : Rows H rv c.rows) (cf : c.Fit) (hes : Sl 6 evC H v es) (hl : es.length ≤ 2 ^ 42) (hb : Gj c es id at_ = false) :
  Call Tryz.prog 90 [.agg (BJ c rv), v, .int .i64 id, .int .i64 at_] H (.tup [.agg (kC .AN .AN FP), .int .i64 2400]) H := by
 have l1 := cf.rows
 have l2 := cf.row
 have s1 := hes.cells
 refine AQ fit mixed Tryz.func90 rfl rfl rfl (by kernel_rfl) rfl fun hM => ?_
 refine AO (AK ?_)
 refine Ax T26 fun b1 H1 hM => ?_
 refine Aj (cs := Ay) T82 rfl fun b2 H2 hM => ?_
 have c1 := Dw H2 c rv (hr.mono hM.pre) (by omega) (fun r hr => by have := l2 r hr; omega)
 have c2 := KW H2 v es c.m (hes.mono hM.pre) (by omega)
 have c3 := IV H2 b1 c.m id (by have hrow := hM.row (.there .here); unfold Heap.loadN; rw [hrow]; rfl)
 have c4 := many H2 v es id (hes.mono hM.pre) (by omega)
 unfold Gj at hb
 obtain ⟨q1, e1⟩ : ∃ q, Al c = q := ⟨_, rfl⟩
 obtain ⟨q2, e2⟩ : ∃ q, Ap es c.m = q := ⟨_, rfl⟩
 obtain ⟨q3, e3⟩ : ∃ q, within id 0 (IntKind.i64.wrap (c.m - 1)) = q := ⟨_, rfl⟩
 obtain ⟨q4, e4⟩ : ∃ q, decide (at_ < 0) = q := ⟨_, rfl⟩
 obtain ⟨q5, e5⟩ : ∃ q, decide (at_ > (BD es id : Int)) = q := ⟨_, rfl⟩
 have n4 : decide (0 ≤ at_) = !q4 := by rw [← e4]; by_cases h : at_ < 0 <;> simp [h] <;> omega
 have n5 : decide (at_ ≤ (BD es id : Int)) = !q5 := by rw [← e5]; by_cases h : at_ > (BD es id : Int) <;> simp [h] <;> omega
 rw [e1] at c1 hb
 rw [e2] at c2 hb
 rw [e3] at c3 hb
 rw [n4, n5] at hb
 clear e1 e2 e3 n4 n5 l1 l2 cf hr hl
 cases q1 with
 | false =>
  clear hb
  refine goM ?_
  refine AA c1 ?_
  refine goM ?_
  refine AM T82 fun H3 hM => ?_
  refine goM ?_
  exact An ⟨rfl, hM.pre⟩
 | true =>
  refine goM ?_
  refine AA c1 ?_
  refine goM ?_
  cases q2 with
  | false =>
   clear hb
   refine AA c2 ?_
   refine goM ?_
   refine AM T82 fun H3 hM => ?_
   refine goM ?_
   exact An ⟨rfl, hM.pre⟩
  | true =>
   refine AA c2 ?_
   refine goM ?_
   cases q3 with
   | false =>
    clear hb
    refine AA c3 ?_
    refine goM ?_
    refine AM T82 fun H3 hM => ?_
    refine goM ?_
    exact An ⟨rfl, hM.pre⟩
   | true =>
    refine AA c3 ?_
    cases q4 with
    | true =>
     clear hb
     refine goM ?_
     refine AM T82 fun H3 hM => ?_
     refine goM ?_
     exact An ⟨rfl, hM.pre⟩
    | false =>
     have e5' : q5 = true := by simpa using hb
     subst e5'
     clear hb
     refine goM ?_
     refine AA c4 ?_
     refine goM ?_
     refine AM T82 fun H3 hM => ?_
     refine goM ?_
     exact An ⟨rfl, hM.pre⟩
theorem SN (H : Heap) (c : Cfg) (rv v : V) (es : List Ev) (id at_ : Int) (hr : Rows H rv c.rows) (cf : c.Fit) (hes : Sl 6 evC H v es) (hl : es.length ≤ 2 ^ 42) (hok : Gj c es id at_ = true) :
  ∃ w H', Call Tryz.prog 90 [.agg (BJ c rv), v, .int .i64 id, .int .i64 at_] H w H' ∧ ∃ a b, w = .tup [.agg (kC a b (FN c es id at_).1), .int .i64 (FN c es id at_).2] ∧ Mem H H' [.own 1 AH b (FN c es id at_).1.vs, .own 1 AH a (FN c es id at_).1.ws] := by
 have l1 := cf.rows
 have l2 := cf.row
 have s1 := hes.cells
 have s2 : rv.cells = [rv] ∧ rv.isTup = false := by obtain ⟨_, h, _⟩ := hr; exact h.cells
 obtain ⟨hc, hev, hid, ha0, ham⟩ := Qp hok
 obtain ⟨hm2, _⟩ := AX hc
 obtain ⟨_, hel, _⟩ := DU hev
 obtain ⟨id, rfl⟩ : ∃ d : Nat, id = d := ⟨id.toNat, by omega⟩
 obtain ⟨n, hn⟩ : ∃ n : Nat, c.m = n := ⟨c.m.toNat, by omega⟩
 refine Ao fit mixed Tryz.func90 rfl rfl rfl (by kernel_rfl) fun hM => ?_
 refine AO (AK ?_)
 refine Ax T26 fun b1 H1 hM => ?_
 refine Aj (cs := Ay) T82 rfl fun b2 H2 hM => ?_
 have c1 := Dw H2 c rv (hr.mono hM.pre) (by omega) (fun r hr => by have := l2 r hr; omega)
 have c2 := KW H2 v es c.m (hes.mono hM.pre) (by omega)
 have c3 := IV H2 b1 c.m id (by have hrow := hM.row (.there .here); unfold Heap.loadN; rw [hrow]; rfl)
 have c4 := many H2 v es id (hes.mono hM.pre) (by omega)
 rw [hc] at c1
 rw [hev] at c2
 rw [Ip hm2, within_iff.2 ⟨hid.1, by omega⟩] at c3
 have d1 : decide (at_ < 0) = false := decide_eq_false (by omega)
 have d2 : decide (at_ > (BD es id : Int)) = false := decide_eq_false (by omega)
 have hn8 : n ≤ 8 := by omega
 have hidn : id < n := by omega
 replace hn : Held (c.m = n) := hn
 refine goM ?_
 refine AA c1 ?_
 refine goM ?_
 refine AA c2 ?_
 refine goM ?_
 refine AA c3 ?_
 refine goM ?_
 refine AA c4 ?_
 clear c1 c2 c3 c4
 refine goM ?_
 refine Qf 7 FQ aF rfl dJ (n := n) (z := PL) rfl rfl rfl rfl rfl (hx := by rw [← (show c.m = (n : Int) from hn)]; exact eLk) (hy := by rw [← (show c.m = (n : Int) from hn)]; exact eLk) ⟨by show (88 : Int) * _ ≤ _; have : c.m = n := hn; omega, by have : c.m = n := hn; omega⟩ fun u H3 hM => ?_
 have s3 := (hM.sl .here).cells
 have hlen := (hM.sl .here).len aF rfl
 rw [List.length_replicate] at hlen
 refine goM ?_
 refine dP gV (cs := Gi c rv u) fun fb H4 hM => ?_
 replace hM := hM.QS n
 replace hM := (hM.packed).sub (L' := [.ro (pack (paths (List.replicate n PL))), .box fb (Gi c rv u), .own 7 FQ u (List.replicate n PL), .box b2 Ay, .box b1 (BJ c rv)]) sbG
 refine goM ?_
 -- each member at first
 refine AT (fun cc ρ h => ∃ (k : Nat) (ps : List Pa), k ≤ n ∧ cc = n - k ∧ ps.length = n ∧ (∀ (i : Nat) p, ps[i]? = some p → p.n = 0 ∧ p.bad = false ∧ p.k.Fit ∧ (i < k → p.k = Bq c i)) ∧ Mem H h [.ro (pack (paths ps)), .box fb (Gi c rv u), .own 7 FQ u ps, .box b2 Ay, .box b1 (BJ c rv)] ∧ ρ 1 = v ∧ ρ 2 = .int .i64 (id : Int) ∧ ρ 3 = .int .i64 at_ ∧ ρ 4 = .ptr b1 0 ∧ ρ 8 = .ptr b2 0 ∧ ρ 10 = .ptr fb 0 ∧ ρ 53 = .int .i64 (n : Int) ∧ ρ 54 = .int .i64 (k : Int)) ⟨0, List.replicate n PL, Nat.zero_le _, rfl, by simp, fun i p hp => ?_, hM, by simp [AD, AB, BT, *]⟩ ?_
 ·rw [List.getElem?_replicate] at hp
  split at hp
  ·cases hp
   exact ⟨rfl, rfl, ⟨by decide, by decide⟩, fun h => by omega⟩
  ·cases hp
 repeat clear hM
 rintro _ ρ h ⟨k, ps, hk, rfl, hps, hpa, hM, g1, g2, g3, g4, g8, g10, g53, g54⟩
 refine goM ?_
 refine AE (fun hb => ?_) (fun hb => ?_)
 ·have hk' : k < n := by simpa using hb
  clear hb
  obtain ⟨p, hp⟩ : ∃ p, ps[k]? = some p := ⟨ps[k]'(by omega), by simp⟩
  obtain ⟨_, H5, c1, a1, a2, rfl, m1⟩ := LO h c rv k (hr.mono hM.pre) cf
  have s4 := (m1.sl .here).cells
  have s5 := (m1.sl (.there .here)).cells
  have hw := AG (n := k) (by omega)
  refine goM ?_
  refine AA c1 ?_
  replace hM := hM.call2 m1
  clear c1 m1
  refine goM ?_
  refine Aj (cs := Dr) T84 rfl fun b5 H6 hM => ?_
  refine AM T84 fun H7 hM => ?_
  refine goM ?_
  obtain ⟨b, o, hi, _⟩ := Ee hM hsG hp
  obtain ⟨H8, st, hM8⟩ := Dd hM (.there (.there (.there (.there (.there .here))))) hp hi 0 T82 (by decide) (w := .agg (kC a1 a2 (Bq c k))) (p' := ⟨a1, a2, Bq c k, p.n, p.bad⟩) rfl rfl rfl
  simp only [Nat.add_zero] at st
  have h1 := ((hM8.front (r := .ro (pack (paths ps))) tkG).front (r := .own 1 AH a2 (Bq c k).vs) tkG).front (r := .own 1 AH a1 (Bq c k).ws) tkG
  have h2 := Mem.RH (p := ⟨a1, a2, Bq c k, p.n, p.bad⟩) h1 (by rw [hps]; exact hk')
  clear h1 hM8
  refine goM ?_
  refine Jx st ?_
  refine goM ?_
  refine ⟨n - (k + 1), by omega, k + 1, ps.set k ⟨a1, a2, Bq c k, p.n, p.bad⟩, hk', rfl, by rw [List.length_set]; exact hps, fun i q hq => ?_, h2.sub sbG, by simp [AD, AB, *]⟩
  rw [List.getElem?_set] at hq
  split at hq
  ·rename_i e
   subst e
   rw [if_pos (by omega)] at hq
   cases hq
   obtain ⟨e1, e2, _⟩ := hpa _ _ hp
   exact ⟨e1, e2, SJ c k, fun _ => rfl⟩
  ·rename_i e
   obtain ⟨e1, e2, e3, e4⟩ := hpa _ _ hq
   exact ⟨e1, e2, e3, fun h => e4 (by omega)⟩
 ·have hk' : k = n := by have : ¬ k < n := by simpa using hb
                         omega
  subst hk'
  clear hb hk
  have hcm : c.m = (k : Int) := hn
  have hok0 : Km c es 0 ps := TD hc (by omega) fun i p hp => by
   obtain ⟨e1, e2, _, e4⟩ := hpa i p hp
   exact ⟨e4 (by have := (List.getElem?_eq_some_iff.1 hp).1; omega), e1, e2⟩
  clear hpa
  clear hcm
  refine goM ?_
  refine AT (fun cc ρ h => ∃ (i : Nat) (ps : List Pa), i ≤ es.length ∧ cc = es.length - i ∧ (BD (es.take i) id : Int) ≤ at_ ∧ Km c es i ps ∧ Mem H h [.ro (pack (paths ps)), .box fb (Gi c rv u), .own 7 FQ u ps, .box b2 Ay, .box b1 (BJ c rv)] ∧ ρ 1 = v ∧ ρ 2 = .int .i64 (id : Int) ∧ ρ 3 = .int .i64 at_ ∧ ρ 8 = .ptr b2 0 ∧ ρ 10 = .ptr fb 0 ∧ ρ 15 = .int .i64 (i : Int)) ⟨0, ps, Nat.zero_le _, rfl, by show (0 : Int) ≤ _; omega, hok0, hM, by simp [AD, AB, *]⟩ ?_
  repeat clear hM
  clear hok0 hps g1 g2 g3 g4 g8 g10 g53 g54
  rintro _ ρ h ⟨i, ps, hie, rfl, hma, hpo, hM, g1, g2, g3, g8, g10, g15⟩
  have hpl : ps.length = k := by have : c.m = (k : Int) := hn; have := hpo.len; omega
  obtain ⟨p, hp⟩ : ∃ p, ps[id]? = some p := ⟨ps[id]'(by omega), by simp⟩
  obtain ⟨b, o, hi, l0, l5, l6⟩ := Ee hM hsG hp
  have hpn := hpo.n _ _ hp
  have hpw := hpo.now _ _ hp
  obtain ⟨pw, pv, pk, pn, pb⟩ := p
  simp only at l0 l5 l6 hpn hpw
  by_cases hlt : pn < at_
  ·have dlt : decide (pn < at_) = true := decide_eq_true hlt
   have hil : i < es.length := by
    by_cases h : i < es.length
    ·exact h
    ·rw [List.take_of_length_le (by omega)] at hpn
     omega
   obtain ⟨e, he⟩ : ∃ e, es[i]? = some e := ⟨es[i]'(by omega), by simp⟩
   obtain ⟨eb, eo, ecs, hix, hec, _, hlo, hlc⟩ := (hes.mono hM.pre).get T29 rfl GY rfl he
   rw [hec] at hlo hlc
   obtain ⟨hmb, hd, hkd, hy⟩ := JE ((DU hev).2.2 i e he)
   have hcm : c.m = (k : Int) := hn
   obtain ⟨q, hq⟩ : ∃ q, ps[e.member.toNat]? = some q := ⟨ps[e.member.toNat]'(by omega), by simp⟩
   have hqn := hpo.n _ _ hq
   have hqn2 := Ji (es.take i) ((e.member.toNat : Nat) : Int)
   rw [List.length_take] at hqn2
   have hfr : Mem H h (.box fb (Gi c rv u) :: .own 7 FQ u ps :: .ro (pack (paths ps)) :: [.box b2 Ay, .box b1 (BJ c rv)]) := ((hM.front (r := .own 7 FQ u ps) tkG).front (r := .box fb (Gi c rv u)) tkG).sub sbG
   obtain ⟨w, H5, c1, rfl, p', hp1, hp2, hM2⟩ := cH H h [.box b2 Ay, .box b1 (BJ c rv)] c rv u ps fb eb eo e q hfr hr cf (fun i p hp => Di (hpo.fits i p hp)) (AF T3 rfl (hlc 0 _ rfl)) (AF T3 rfl (hlc 1 _ rfl)) (AF T3 rfl (hlc 2 _ rfl)) (AZ T80 rfl (JL hlo (by decide))) hmb.1 hq
    (fun h1 => by
     obtain ⟨hdi, _⟩ := hd h1
     exact ⟨ps[e.BV.toNat]'(by omega), hdi.1, by simp⟩) (by rw [hqn]; omega)
   have hpo2 := cJ hc hev he hpo hq hp1 hp2
   have hw := AG (n := i) (by omega)
   have hms := Fi (m := (id : Int)) he
   have hma2 : (BD (es.take (i + 1)) id : Int) ≤ at_ := by rw [hms]; split <;> omega
   clear hcm hpn hpw hqn hqn2 hfr hlc hlo hp1 hp2 hq hp he hd hmb hms
   refine goM ?_
   refine AA c1 ?_
   refine goM ?_
   exact ⟨es.length - (i + 1), by omega, i + 1, _, hil, rfl, hma2, hpo2, (hM2.front (r := .ro (pack (paths (ps.set e.member.toNat p')))) tkG), by simp [AD, AB, *]⟩
  ·have dlt : decide (pn < at_) = false := decide_eq_false hlt
   have hpe : at_ = (BD (es.take i) id : Int) := by omega
   have hfn := Pk (c := c) hev hid.1 hid.2 hie
   rw [← hpe, hpw] at hfn
   have hkat := OU (hM.fY) hp
   have t1 := hkat.ws.cells
   have t2 := hkat.vs.cells
   simp only at t1 t2
   clear hpn hpw hpe hlt hkat
   cases pb with
   | true =>
    rw [if_pos rfl] at hfn
    rw [UR hfn]
    clear hfn
    refine goM ?_
    refine AM T82 fun H5 hM => ?_
    refine goM ?_
    exact An ⟨.AN, .AN, rfl, ((hM.sub (L' := []) sbG).nil 1 AH).nil 1 AH⟩
   | false =>
    rw [if_neg (by decide)] at hfn
    rw [US hok hfn]
    clear hfn
    refine goM ?_
    refine AM T82 fun H5 hM => ?_
    refine goM ?_
    exact An ⟨pw, pv, rfl, hM.Zq hp⟩
theorem aT (H : Heap) (c : Cfg) (rv v : V) (es : List Ev) (id at_ : Int) (hr : Rows H rv c.rows) (cf : c.Fit) (hes : Sl 6 evC H v es) (hl : es.length ≤ 2 ^ 42) :
  ∃ w H', Call Tryz.prog 90 [.agg (BJ c rv), v, .int .i64 id, .int .i64 at_] H w H' ∧ ∃ a b, w = .tup [.agg (kC a b (FN c es id at_).1), .int .i64 (FN c es id at_).2] ∧ Mem H H' [.own 1 AH b (FN c es id at_).1.vs, .own 1 AH a (FN c es id at_).1.ws] := by
 cases hok : Gj c es id at_ with
 | false =>
  rw [Yb hok]
  exact ⟨_, H, UQ H c rv v es id at_ hr cf hes hl hok, .AN, .AN, rfl, ((Mem.start H).nil 1 AH).nil 1 AH⟩
 | true => exact SN H c rv v es id at_ hr cf hes hl hok
theorem cA (H : Heap) : ∃ w H', Call Tryz.prog 89 [] H w H' ∧ ∃ rv xv, w = .agg (BJ Bv rv) ∧ Mem H H' [.ro (EY rv xv Bv.rows)] := by
 refine Ao fit mixed Tryz.func89 rfl rfl rfl (by kernel_rfl) fun hM => ?_
 refine AO (AK ?_)
 refine Aj (cs := Cj) T26 rfl fun b0 H1 hM => ?_
 refine goM ?_
 refine Aa AH [65536] [.int .i64 65536] T27 rfl T3 rfl (Ba [65536]) (by decide) (fun x1 H2 hM => ?_)
 have t1 := (hM.sl .here).cells
 refine goM ?_
 refine Aa AH [-65536] [.int .i64 (-65536)] T27 rfl T3 rfl (Ba [-65536]) (by decide) (fun x2 H3 hM => ?_)
 have t2 := (hM.sl .here).cells
 refine goM ?_
 refine Aa Dg [(x1, 32768), (x2, 0)] [x1, .int .i64 32768, x2, .int .i64 0] T24 rfl GD rfl (Gb [(x1, 32768), (x2, 0)]) (by decide) (fun rv H4 hM => ?_)
 have t3 := (hM.sl .here).cells
 refine goM ?_
 refine AM T26 fun H5 hM => ?_
 refine goM ?_
 refine AY ⟨rv, [(x1, 32768), (x2, 0)], rfl, Mem.eM hM.pre ⟨hM.slG, rfl, fun k p r hp hr => ?_⟩ fun c hc => ?_⟩
 ·match k, hp, hr with
  | 0, hp, hr => cases hp; cases hr; exact ⟨hM.slG, rfl⟩
  | 1, hp, hr => cases hp; cases hr; exact ⟨hM.slG, rfl⟩
 ·rcases hc with hc | ⟨q, hq, hc⟩
  ·exact hM.low (.own 2 Dg rv [(x1, 32768), (x2, 0)]) (by simp) c hc
  ·simp at hq
   rcases hq with rfl | rfl
   ·exact hM.low (.own 1 AH x1 [65536]) (by simp) c hc
   ·exact hM.low (.own 1 AH x2 [-65536]) (by simp) c hc
theorem bU {c : Cfg} {s : St} (cf : c.Fit) (h : DO c s) : s.Fit := Uf h.ok (by rw [h.c]; exact cf)
theorem WG {c : Cfg} {s : St} (h : DO c s) : (s.ms.length : Int) = c.m := by rw [h.ok.len, h.c]
structure gX (c : Cfg) (A B : St) : Prop where
 run : FH c [0, 1, 0, 0, 0] = (A, 0)
 fit : A.Fit
 go : doR A 1 = (B, 0)
 bfit : B.Fit
 len : A.ms.length = 2
 blen : B.ms.length = 2
 es : A.es.length ≤ 1024
 zero : ∃ m, A.ms[0]? = some m ∧ m.1.t = 3 ∧ m.1.Fit ∧ FN c A.es 0 (BD A.es 0 : Nat) = (m.1, 0)
 one : ∃ m, B.ms[1]? = some m ∧ m.1.t = 2
theorem iH : ∃ A B, gX Bv A B := by
 have hin : ∀ x ∈ ([0, 1, 0, 0, 0] : List Int), 0 ≤ x ∧ x < Bv.m := by intro x hx; simp at hx; rcases hx with rfl | rfl | rfl <;> decide
 obtain ⟨A, hr, hR, hst, hfo⟩ := RW IJ (ps := [0, 1, 0, 0, 0]) (by decide) hin
 have hl : A.ms.length = 2 := by have := WG hst; have e : Bv.m = 2 := rfl; omega
 have hn := GU IJ
 have hnl : (FX Bv).ms.length = 2 := by have := WG hn; have e : Bv.m = 2 := rfl; omega
 have ht := dF _ _ _ hn hr
 obtain ⟨o0, ho0, ht0⟩ := TZ 0 (by decide)
 obtain ⟨o1, ho1, ht1⟩ := TZ 1 (by decide)
 have t0 := ht 0 (by omega)
 have t1 := ht 1 (by omega)
 rw [Eb ho0, ht0, show Ll 0 [0, 1, 0, 0, 0] = 4 from by decide, show Bv.total = 3 from rfl] at t0
 rw [Eb ho1, ht1, show Ll 1 [0, 1, 0, 0, 0] = 1 from by decide, show Bv.total = 3 from rfl] at t1
 obtain ⟨m0, hm0⟩ : ∃ m, A.ms[0]? = some m := ⟨A.ms[0]'(by omega), by simp⟩
 obtain ⟨m1, hm1⟩ : ∃ m, A.ms[1]? = some m := ⟨A.ms[1]'(by omega), by simp⟩
 rw [Eb hm0] at t0
 rw [Eb hm1] at t1
 have room := Im hst
 have pk : EN A 1 m1 := ⟨hst.ok, hm1, by rw [hst.c, t1]; decide, room⟩
 have hd := GP pk
 obtain ⟨x, hx, hxt⟩ := hd.own
 have hf := bU Jo hst
 have hfold := Yd hst hfo hm0
 exact ⟨A, doS A 1, ⟨hR, hf, Nr pk, UI pk hf, hl, by rw [hd.len]; exact hl, by omega, ⟨m0, hm0, by rw [t0]; decide, Di (hst.ok.fits _ (List.mem_of_getElem? hm0)), hfold⟩, ⟨x, hx, by rw [hxt, t1]; decide⟩⟩⟩
theorem dY {c : Cfg} {es : List Ev} {id at_ : Int} {k : Chk} {e : Int} (h : FN c es id at_ = (k, e)) (H : Heap) {rv v : V} (hr : Rows H rv c.rows) (cf : c.Fit) (hes : Sl 6 evC H v es) (hl : es.length ≤ 2 ^ 42) :
  ∃ w H', Call Tryz.prog 90 [.agg (BJ c rv), v, .int .i64 id, .int .i64 at_] H w H' ∧ ∃ a b, w = .tup [.agg (kC a b k), .int .i64 e] ∧ Mem H H' [.own 1 AH b k.vs, .own 1 AH a k.ws] := by
 have := aT H c rv v es id at_ hr cf hes hl
 rw [h] at this
 exact this
theorem gQ (K : Heap) : Call Tryz.prog 41 [] K (.bool true) K := by
 have hsm := cA
 have hcf := Jo
 obtain ⟨A, B, W⟩ := iH
 generalize Bv = c at *
 obtain ⟨⟨⟨kws, kvs, kr, km, kt⟩, mh⟩, hm0, ht0, hf0, hfold⟩ := W.zero
 simp only at ht0 hf0 hfold
 subst ht0
 obtain ⟨m1, hm1, ht1⟩ := W.one
 have hR := W.run
 have hG := W.go
 have hal := W.len
 have hbl := W.blen
 have hel := W.es
 have Af := W.fit
 have Bf := W.bfit
 clear W
 refine AQ fit mixed Tryz.func41 rfl rfl rfl (by kernel_rfl) rfl fun hM => ?_
 obtain ⟨_, H1, c1, rv, xv, rfl, m0'⟩ := hsm K
 refine AO (AK ?_)
 refine goM ?_
 refine AA c1 ?_
 replace hM := hM.BH m0'
 clear c1 m0'
 refine goM ?_
 refine Aa AH [0, 1, 0, 0, 0] [.int .i64 0, .int .i64 1, .int .i64 0, .int .i64 0, .int .i64 0] T27 rfl T3 rfl (Ba [0, 1, 0, 0, 0]) (by decide) (fun x1 H2 hM => ?_)
 obtain ⟨_, H3, c1, qa, rfl, ka, m1⟩ := Zb hR H2 (Jl (hM.fact (F := EY rv xv c.rows) hsG)) hcf (hM.sl .here) (by decide)
 refine goM ?_
 refine AA c1 ?_
 replace hM := hM.BH m1
 clear c1 m1
 refine goM ?_
 refine Aj (cs := Au) T32 rfl fun b1 H4 hM => ?_
 refine AM T32 fun H5 hM => ?_
 refine goM ?_
 obtain ⟨_, H6, c1, rv2, xv2, rfl, m0'⟩ := hsm H5
 refine Be c1 (.inl m0'.pre) ?_
 replace hM := hM.BH m0'
 clear c1 m0' hsm
 have hat := ka.at_ hM
 have c2 := many H6 qa.ev A.es 0 hat.es (by omega)
 obtain ⟨_, H7, c3, a, b, rfl, m2⟩ := dY hfold H6 (Jl (hM.fact (F := EY rv2 xv2 c.rows) .here)) hcf hat.es (by omega)
 clear hat
 refine goM ?_
 refine AI c2 ?_
 refine goM ?_
 refine Be c3 (.inl m2.pre) ?_
 have s3 := (m2.sl .here).cells
 have s4 := (m2.sl (.there .here)).cells
 replace hM := hM.call2 m2
 clear c2 c3 m2
 refine goM ?_
 refine IZ (cs := Ay) T82 rfl fun b3 H8 hM => ?_
 refine DT T82 fun H9 hM => ?_
 refine goM ?_
 obtain ⟨_, H10, c1, qb, rfl, kb, m1⟩ := aL hG H9 (ka.at_ hM) Af
 refine AA c1 ?_
 replace hM := hM.BH m1
 clear c1 m1
 refine goM ?_
 refine Aj (cs := Au) T32 rfl fun b5 H11 hM => ?_
 refine AM T32 fun H12 hM => ?_
 have ata := ka.at_ hM
 have atb := kb.at_ hM
 have g1 := ata.ms.len T28 rfl
 rw [ata.len, hal] at g1
 have g2 := atb.ms.len T28 rfl
 rw [atb.len, hbl] at g2
 obtain ⟨y0, hy0, hv0⟩ := Hk ata.val hm0
 obtain ⟨y1, hy1, hv1⟩ := Hk atb.val hm1
 obtain ⟨bo, oo, hi0, _⟩ := EM ata.ms hy0
 obtain ⟨lo0, _⟩ := Fj ata.ms hi0 hy0
 obtain ⟨bo1, oo1, hi1, _⟩ := EM atb.ms hy1
 obtain ⟨_, _, lo1, _⟩ := Fj atb.ms hi1 hy1
 replace hi0 : idxV T 28 qa.mv 0 = some (.ptr bo oo) := hi0
 replace hi1 : idxV T 28 qb.mv 1 = some (.ptr bo1 oo1) := hi1
 have hk0 := ata.ks y0 (List.mem_of_getElem? hy0)
 have hyk : y0.k = ⟨kws, kvs, kr, km, 3⟩ := congrArg Prod.fst hv0
 have hyk1 : y1.k = m1.1 := congrArg Prod.fst hv1
 rw [hyk1, ht1] at lo1
 have c1 := Zf H12 a b y0.w y0.v ⟨kws, kvs, kr, km, 3⟩ y0.k ⟨hM.sl (v := a) (xs := kws) hsG, hM.sl (v := b) (xs := kvs) hsG⟩ hk0 hf0
 rw [hyk, Sg] at c1
 rw [hyk] at lo0
 clear ata atb hal hbl hm0 hm1 hy0 hy1 hv0 hv1 hk0 hyk hyk1
 refine goM ?_
 refine AI (MM _ _) ?_
 refine goM ?_
 refine AI c1 ?_
 refine goM ?_
 refine AI (MM _ _) ?_
 refine goM ?_
 refine AI (MM _ _) ?_
 refine goM ?_
 exact AY ⟨rfl, hM.pre⟩
end Go.Proofs.YtncjbjlmgnjhiaaGreat.VM
