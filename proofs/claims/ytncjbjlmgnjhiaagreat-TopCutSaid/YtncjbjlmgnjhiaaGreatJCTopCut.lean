/- Joined texts: VmW, MemB, JourP, RunJ, LawA, LawG, TopJ. -/
import Derived.Test.YtncjbjlmgnjhiaaGreatJC1
import Derived.Test.YtncjbjlmgnjhiaaGreatJC2
import Derived.Test.YtncjbjlmgnjhiaaGreatJC3
import Derived.Test.YtncjbjlmgnjhiaaGreatJC4
import Derived.Test.YtncjbjlmgnjhiaaGreatJC5
import Derived.Test.YtncjbjlmgnjhiaaGreatJC6
import Derived.Test.YtncjbjlmgnjhiaaGreatJC7
import Derived.Test.YtncjbjlmgnjhiaaGreatJC8
import Derived.Test.YtncjbjlmgnjhiaaGreatJC9
import Derived.Test.YtncjbjlmgnjhiaaGreatJC10
import Derived.Test.YtncjbjlmgnjhiaaGreatJC11
import Derived.Test.YtncjbjlmgnjhiaaGreatJC12
import Derived.Test.YtncjbjlmgnjhiaaGreatJC13
import Derived.Test.YtncjbjlmgnjhiaaGreatJCTopAll
namespace Go.Proofs.YtncjbjlmgnjhiaaGreat.VM
open Go
set_option linter.unusedVariables false
set_option linter.unusedSimpArgs false
variable {T : Tab} {α : Type} {D : Type}
theorem Un {K : Heap} {t : Nat} {ts : List Nat} {vs : List V} {ds : List (DataW D)} (h : RdAll T K (t :: ts) vs ds) : ∃ v vs' d ds', vs = v :: vs' ∧ ds = d :: ds' ∧ RdV T K t v d ∧ RdAll T K ts vs' ds' := by
 match vs, ds, h with
 | v :: vs', d :: ds', ⟨h1, h2⟩ => exact ⟨v, vs', d, ds', rfl, rfl, h1, h2⟩
theorem XQ {K : Heap} {vs : List V} {ds : List (DataW D)} (h : RdAll T K [] vs ds) : vs = [] ∧ ds = [] := by
 match vs, ds, h with
 | [], [], _ => exact ⟨rfl, rfl⟩
end Go.Proofs.YtncjbjlmgnjhiaaGreat.VM
namespace Go.Proofs.YtncjbjlmgnjhiaaGreat.VM
open Go
set_option linter.unusedVariables false
set_option linter.unusedSimpArgs false
variable {P : Program} {T : Tab} {α β : Type}
section steps
variable {ops : Array Oper} {rest : List Oper} {Q : Rho → Heap → Prop} {ρ : Rho} {h h' B : Heap} {v a w : V} {k : Nat} {d : Option Nat} {op : Op} {t t' : Nat} {p : String} {af : Array Edge} {L : List Res} {f : Res → List Res} {x y : Operand} {cs ds cs' : List V} {i ie : TI} {ps : List DZ}
end steps
theorem iV {c : Code} {id : Nat} {n : Rho → Heap → Prop} {Q : Exit → Rho → Heap → Prop} {ρ : Rho} {h : Heap} (I : Rho → Heap → Prop) (h1 : wq P T c (Bk id (Th I fun _ _ _ => False)) ρ h) (h2 : ∀ ρ h, I ρ h → n ρ h) : wq P T c (Bk id (Th n Q)) ρ h :=
 Bt c (fun x ρ h hx => by
  cases x with
  | normal => exact AS (AR (h2 ρ h hx))
  | exit id' =>
   simp only [Bk] at hx ⊢
   split at hx
   ·rename_i e
    rw [if_pos e]; exact AR (h2 ρ h hx)
   ·exact hx.elim
  | _ => exact hx.elim) h1
end Go.Proofs.YtncjbjlmgnjhiaaGreat.VM
namespace Go.Proofs.YtncjbjlmgnjhiaaGreat.VM
open Go
set_option linter.unusedVariables false
set_option linter.unusedSimpArgs false
attribute [local irreducible] wq wqL wqD wqE wqO Th Bk EndR
set_option maxHeartbeats 8000000
theorem iY (pre s post : List Int) (hs : s.length ≤ 1024) : Qr (pre ++ (Cc s ++ post)) pre.length = some (s, pre.length + 6 + s.length) := by
 have hl := KS s
 have ht := told (pre := pre) (s := s) (x := post) (j := (Cc s).length) (by omega) (by omega)
 rw [List.take_length] at ht
 have hd : ((pre ++ (Cc s ++ post)).drop (pre.length + 2)).take s.length = s := by
  rw [← List.drop_drop, List.drop_left]
  have h2 : (Bm (s.length : Int) 2).length = 2 := CD ..
  have : (Cc s ++ post).drop 2 = s ++ (Bm (Rg (KR s)) 4 ++ post) := by
   unfold Cc KR
   rw [List.append_assoc, List.append_assoc, List.drop_append_of_le_length (by omega), List.drop_of_length_le (by omega), List.nil_append]
  rw [this, List.take_left]
 have hf : ((pre ++ (Cc s ++ post)).drop pre.length).take (6 + s.length) = Cc s := by
  rw [List.drop_left, ← hl, List.take_left]
 unfold Qr
 rw [ht, Int.toNat_natCast, hd, hf, if_pos (by simp only [List.length_append]; omega), if_pos ⟨hs, by simp only [List.length_append]; omega⟩, if_pos rfl]
theorem iR (pre s : List Int) {j : Nat} (hs : s.length ≤ 1024) (hj : j < 6 + s.length) : Qr (pre ++ (Cc s).take j) pre.length = none := by
 have hl := KS s
 have hlen : (pre ++ (Cc s).take j).length = pre.length + j := by simp only [List.length_append, List.length_take]; omega
 unfold Qr
 by_cases h6 : j < 6
 ·rw [if_neg (by omega)]
 ·have ht := told (pre := pre) (s := s) (x := []) (j := j) (by omega) (by omega)
  rw [List.append_nil] at ht
  rw [if_pos (by omega), ht, Int.toNat_natCast, if_neg (by omega)]
theorem iX (t : List Int) : Qr t t.length = none := by unfold Qr; rw [if_neg (by omega)]
theorem iJ {part : List Int} : ∀ (ss : List (List Int)) (pre : List Int) (f : Nat), (∀ s ∈ ss, s.length ≤ 1024) → ss.length < f → Qr (pre ++ (CJ ss ++ part)) (pre.length + (CJ ss).length) = none → loadN (pre ++ (CJ ss ++ part)) f pre.length = (ss, pre.length + (CJ ss).length)
 | [], pre, f + 1, _, _, h => by
  unfold loadN
  simp only [CJ, List.flatMap_nil, List.length_nil, Nat.add_zero] at h ⊢
  rw [h]
 | s :: ss, pre, f + 1, hs, hf, h => by
  have e : pre ++ (CJ (s :: ss) ++ part) = pre ++ (Cc s ++ (CJ ss ++ part)) := by simp [CJ]
  have e2 : pre ++ (Cc s ++ (CJ ss ++ part)) = (pre ++ Cc s) ++ (CJ ss ++ part) := by simp
  have hl : (CJ (s :: ss)).length = 6 + s.length + (CJ ss).length := by simp [CJ, KS]
  have hg := iY pre s (CJ ss ++ part) (hs s (List.mem_cons_self ..))
  have hpl : (pre ++ Cc s).length = pre.length + 6 + s.length := by rw [List.length_append, KS]; omega
  rw [e] at h ⊢
  unfold loadN
  rw [hg]
  simp only
  have ih := iJ (part := part) ss (pre ++ Cc s) f (fun x hx => hs x (List.mem_cons_of_mem _ hx)) (by simp at hf; omega) (by rw [← e2, hpl]; rw [hl] at h; rw [show pre.length + 6 + s.length + (CJ ss).length = pre.length + (6 + s.length + (CJ ss).length) by omega]; exact h)
  rw [hpl, ← e2] at ih
  rw [ih, hl]
  exact Prod.ext rfl (by simp only; omega)
theorem iM (ss : List (List Int)) (hs : ∀ s ∈ ss, s.length ≤ 1024) {f : Nat} (hf : ss.length < f) : loadN (CJ ss) f 0 = (ss, (CJ ss).length) := by
 have := iJ (part := []) ss [] f hs hf (by simp only [List.nil_append, List.append_nil, List.length_nil, Nat.zero_add]; exact iX _)
 simpa using this
theorem iZ (ss : List (List Int)) (s : List Int) {j : Nat} (hs : ∀ x ∈ ss, x.length ≤ 1024) (h1 : s.length ≤ 1024) (hj : j < 6 + s.length) {f : Nat} (hf : ss.length < f) : loadN (CJ ss ++ (Cc s).take j) f 0 = (ss, (CJ ss).length) := by
 have := iJ (part := (Cc s).take j) ss [] f hs hf (by simp only [List.nil_append, List.length_nil, Nat.zero_add]; exact iR _ _ h1 hj)
 simpa using this
theorem journ_take : ∀ (ss : List (List Int)) (k : Nat), (∀ s ∈ ss, s.length = 1) → k ≤ 7 * ss.length → (CJ ss).take k = CJ (ss.take (k / 7)) ++ (match ss[k / 7]? with | some s => (Cc s).take (k % 7) | none => [])
 | [], k, _, hk => by
  have : k = 0 := by simpa using hk
  subst this; rfl
 | s :: ss, k, h, hk => by
  have h1 := h s (List.mem_cons_self ..)
  have hl := KS s
  have e : CJ (s :: ss) = Cc s ++ CJ ss := by simp [CJ]
  by_cases h7 : k < 7
  ·rw [show k / 7 = 0 by omega, show k % 7 = k by omega, e, List.take_append_of_le_length (by omega)]
   simp [CJ]
  ·obtain ⟨q, rfl⟩ : ∃ q, k = q + 7 := ⟨k - 7, by omega⟩
   have ih := journ_take ss q (fun x hx => h x (List.mem_cons_of_mem _ hx)) (by simp at hk; omega)
   rw [show (q + 7) / 7 = q / 7 + 1 by omega, show (q + 7) % 7 = q % 7 by omega, e, List.take_append]
   rw [List.take_of_length_le (by omega), show q + 7 - (Cc s).length = q by omega, ih]
   simp only [List.take_succ_cons, List.getElem?_cons_succ]
   simp [CJ]
theorem iS (ss : List (List Int)) {k : Nat} (h : ∀ s ∈ ss, s.length = 1) (hk : k ≤ 7 * ss.length) {f : Nat} (hf : ss.length < f) : (loadN ((CJ ss).take k) f 0).1 = ss.take (k / 7) := by
 have h1 : ∀ s ∈ ss.take (k / 7), s.length ≤ 1024 := fun s hs => by have := h s (List.mem_of_mem_take hs); omega
 have hl : (ss.take (k / 7)).length < f := by rw [List.length_take]; omega
 rw [journ_take ss k h hk]
 cases hx : ss[k / 7]? with
 | none =>
  simp only [List.append_nil]
  rw [iM _ h1 hl]
 | some s =>
  simp only
  have := h s (List.mem_of_getElem? hx)
  rw [iZ _ s h1 (by omega) (by omega) hl]
theorem iQ (ps : List Int) (k : Nat) : (Gn ps).take k = Gn (ps.take k) := by simp [Gn, List.map_take]
theorem iP {ps : List Int} (hl : ps.length ≤ 256) {k : Nat} (hk : k ≤ 7 * ps.length) : Pr ((CJ (Gn ps)).take k) = Gn (ps.take (k / 7)) := by
 have h1 := XJ ps
 have hpl := QC ps
 have hj := OC (Gn ps) h1
 unfold Pr
 rw [List.take_of_length_le (by rw [List.length_take]; omega)]
 rw [iS (Gn ps) h1 (by omega) (by omega), iQ]
theorem iK (c : Cfg) {ps : List Int} (hl : ps.length ≤ 256) : Uh c (Gn ps) = ps.takeWhile fun x => decide (x < c.m) := by
 unfold Uh
 rw [List.take_of_length_le (by rw [QC]; omega)]
 unfold Gn
 rw [List.takeWhile_map, List.map_map]
 have e : ((fun s => !Iv c s) ∘ fun x : Int => [x]) = fun x : Int => decide (x < c.m) := by
  funext x
  show (!(decide ([x].length ≠ 1) || decide (x ≥ c.m))) = decide (x < c.m)
  have h1 : decide ([x].length ≠ 1) = false := decide_eq_false (by simp)
  rw [h1, Bool.false_or]
  by_cases hx : x < c.m
  ·rw [decide_eq_true hx, decide_eq_false (by omega)]; rfl
  ·rw [decide_eq_false hx, decide_eq_true (by omega)]; rfl
 rw [e]
 have e2 : ((fun s : List Int => s.headD 0) ∘ fun x : Int => [x]) = id := rfl
 rw [e2, List.map_id]
theorem iL {α : Type} {p : α → Bool} : ∀ l : List α, (∀ x ∈ l, p x = true) → l.takeWhile p = l
 | [], _ => rfl
 | a :: l, h => by
  rw [List.takeWhile_cons, h a (List.mem_cons_self ..), if_pos rfl, iL l fun x hx => h x (List.mem_cons_of_mem _ hx)]
theorem iW (c : Cfg) {ps : List Int} (hl : ps.length ≤ 256) (h : ∀ x ∈ ps, x < c.m) : Uh c (Gn ps) = ps := by
 rw [iK c hl]
 exact iL ps fun x hx => decide_eq_true (h x hx)
theorem jK {c : Cfg} (hc : Al c = true) {ps : List Int} (hl : ps.length ≤ 256) (h : ∀ x ∈ ps, 0 ≤ x ∧ x < c.m) {k : Nat} (hk : k ≤ 7 * ps.length) : EX c ((CJ (Gn ps)).take k) = FH c (ps.take (k / 7)) := by
 unfold EX
 rw [if_pos hc, iP hl hk, iW c (by rw [List.length_take]; omega) fun x hx => (h x (List.mem_of_mem_take hx)).2]
theorem Pz : ∀ {ss : List (List Int)}, (∀ s ∈ ss, okB s) → okB (CJ ss)
 | [], _ => fun b hb => by simp [CJ] at hb
 | s :: ss, h => by
  have e : CJ (s :: ss) = Cc s ++ CJ ss := by simp [CJ]
  rw [e]
  refine GJ ?_ (Pz fun x hx => h x (List.mem_cons_of_mem _ hx))
  unfold Cc KR
  exact GJ (GJ (HN _ _) (h s List.mem_cons_self)) (HN _ _)
theorem iU {a : List Int} {m : Int} (hm : m ≤ 7) (h : ∀ x ∈ a, 0 ≤ x ∧ x ≤ m) : (a.all fun x => within x 0 7) = true := by
 rw [List.all_eq_true]
 intro x hx
 have := h x hx
 exact within_iff.2 ⟨by omega, by omega⟩
theorem iT {a : List Int} (h : ∀ x ∈ a, 0 ≤ x ∧ x ≤ 7) (la : a.length ≤ 256) : Fw a = (CJ (Gn a), 0) ∧ (CJ (Gn a)).length = 7 * a.length ∧ okB (CJ (Gn a)) :=
 ⟨Se (iU (Int.le_refl _) h) (by omega), by rw [OC _ (XJ a), QC], Pz (XI (iU (Int.le_refl _) h))⟩
theorem law_topCut {D : Type} (K : Heap) (vs : List V) (ds : List (DataW D)) (ro : Ro K) (h : RdAll T K [26, 27, 3] vs ds) : ∃ K', Call Tryz.prog 12 vs K (.bool true) K' := by
 obtain ⟨v1, vs, d1, ds, rfl, rfl, hv1, h⟩ := Un h
 obtain ⟨v2, vs, d2, ds, rfl, rfl, hv2, h⟩ := Un h
 obtain ⟨v3, vs, d3, ds, rfl, rfl, hv3, h⟩ := Un h
 obtain ⟨rfl, rfl⟩ := XQ h
 obtain ⟨c, rv, rfl, hr, cf⟩ := XR hv1
 obtain ⟨ps, hps, hpl⟩ := RO hv2
 obtain ⟨ca, rfl, _⟩ := hv3.int T3 rfl
 clear hv1 hv2 hv3 h
 replace hpl : ps.length * 8 ≤ 140737488351232 := Nat.le_trans hpl (by decide)
 have l1 := cf.rows
 have l2 := cf.row
 have s3 : rv.cells = [rv] ∧ rv.isTup = false := by obtain ⟨_, h, _⟩ := hr; exact h.cells
 have hlen := hps.len T27 rfl
 obtain ⟨n, hn⟩ : ∃ n, ps.length = n := ⟨_, rfl⟩
 rw [hn] at hlen hpl
 refine ⟨K, ?_⟩
 refine AQ fit mixed Tryz.func12 rfl rfl rfl (by kernel_rfl) rfl fun hM => ?_
 refine AO (AK ?_)
 refine Ax T26 fun b3 H1 hM => ?_
 refine goM ?_
 refine AA (gQ _) ?_
 have c0 := EA H1 c rv (hr.mono hM.pre) (by omega) (fun r hr => by have := l2 r hr; omega)
 cases hc : Al c with
 | false =>
  rw [hc] at c0
  obtain ⟨_, H2, c1, qa, rfl, ka, m1⟩ := gJ (RQ (t := []) hc) H1 (hr.mono hM.pre) cf (fun b hb => by cases hb) (by decide)
  replace c1 : Call Tryz.prog 21 [.agg (BJ c rv), .str ⟨#[]⟩] H1 _ H2 := c1
  clear hc
  refine goM ?_
  refine AA c0 ?_
  refine goM ?_
  refine AA c1 ?_
  replace hM := hM.BH m1
  clear c0 c1 m1
  refine goM ?_
  refine Aj (cs := Au) T32 rfl fun b7 H3 hM => ?_
  refine AM T32 fun H4 hM => ?_
  refine goM ?_
  refine AA (MM _ _) ?_
  refine goM ?_
  exact AY ⟨rfl, hM.pre⟩
 | true =>
  rw [hc] at c0
  obtain ⟨⟨hm2, hm8⟩, _⟩ := AX hc
  refine goM ?_
  refine AA c0 ?_
  clear c0
  refine goM ?_
  replace hM := hM.nil 1 AH
  refine iV (fun ρ h => ∃ (v : V) (a : List Int), a.length ≤ 60 ∧ (∀ x ∈ a, 0 ≤ x ∧ x < c.m) ∧ Mem K h [.own 1 AH v a, .box b3 (BJ c rv)] ∧ ρ 2 = .int .i64 ca ∧ ρ 3 = .ptr b3 0 ∧ ρ 9 = v) ?_ ?_
  ·refine AT (fun cc ρ h => ∃ (k : Nat) (v : V) (a : List Int), k ≤ n ∧ k ≤ 60 ∧ cc = 60 - k ∧ a.length = k ∧ (∀ x ∈ a, 0 ≤ x ∧ x < c.m) ∧ Mem K h [.own 1 AH v a, .box b3 (BJ c rv)] ∧ ρ 1 = v2 ∧ ρ 2 = .int .i64 ca ∧ ρ 3 = .ptr b3 0 ∧ ρ 9 = v ∧ ρ 10 = .int .i64 (k : Int)) ⟨0, .AN, [], Nat.zero_le _, Nat.zero_le _, rfl, rfl, (fun x hx => by cases hx), hM, by simp [AD, AB, BT, *]⟩ ?_
   repeat clear hM
   rintro _ ρ h ⟨k, v, a, hk, hk20, rfl, hal, hain, hM, g1, g2, g3, g9, g10⟩
   by_cases hgo : k < n ∧ k < 60
   ·obtain ⟨hk', hk2⟩ := hgo
    have dk : decide ((k : Int) < (n : Int)) = true := decide_eq_true (by omega)
    have d2 : decide ((k : Int) < 60) = true := decide_eq_true (by omega)
    have hw := AG (n := k) (by omega)
    obtain ⟨x, hx⟩ : ∃ x, ps[k]? = some x := ⟨ps[k]'(by omega), by simp⟩
    obtain ⟨bo, oo, _, ji, rfl, _, jlo, _⟩ := (hps.mono hM.pre).get T27 rfl T3 rfl hx
    have jl := AF T3 rfl jlo
    have U := fJ x (m := c.m) (by omega) (by omega)
    generalize eN x c.m = p0 at *
    obtain ⟨u1, u2, u3, u4, u5⟩ := U
    have hain2 : ∀ z ∈ a ++ [(p0 : Int)], 0 ≤ z ∧ z < c.m := fun z hz => by
     rcases List.mem_append.1 hz with hz | hz
     ·exact hain z hz
     ·simp at hz; subst hz; exact ⟨by omega, by omega⟩
    clear hx jlo hain u1
    refine goM ?_
    refine SD AH [(p0 : Int)] [.int .i64 (p0 : Int)] T27 rfl T3 rfl (Ba [(p0 : Int)]) (by decide) fun e1 H4 hM => ?_
    refine goM ?_
    refine YI (hM.sl .here) (xs := a) (hh := .there .here) (hb := by simp only [List.length_cons, List.length_nil]; omega) fun v2 H5 hM => ?_
    replace hM := hM.drop
    refine goM ?_
    exact ⟨60 - (k + 1), by omega, k + 1, v2, a ++ [(p0 : Int)], by omega, by omega, rfl, by rw [List.length_append, hal]; rfl, hain2, hM, by simp [AD, AB, *]⟩
   ·by_cases hkn : k < n
    ·have dk : decide ((k : Int) < (n : Int)) = true := decide_eq_true (by omega)
     have d2 : decide ((k : Int) < 60) = false := decide_eq_false (by omega)
     clear hgo
     refine goM ?_
     exact ⟨v, a, by omega, hain, hM, by simp [AD, AB, *]⟩
    ·have dk : decide ((k : Int) < (n : Int)) = false := decide_eq_false (by omega)
     clear hgo
     refine goM ?_
     exact ⟨v, a, by omega, hain, hM, by simp [AD, AB, *]⟩
  ·repeat clear hM
   clear hlen hps hpl hn
   rintro ρ h ⟨v, a, hal, hain, hM, g2, g3, g9⟩
   have hin7 : ∀ x ∈ a, 0 ≤ x ∧ x ≤ 7 := fun x hx => by have := hain x hx; omega
   obtain ⟨hJ, hJl, hJo⟩ := iT hin7 (by omega)
   have hcut := fun k (hk : k ≤ 7 * a.length) => jK hc (ps := a) (by omega) hain hk
   have c1 := Pp h v a (hM.sl .here) (by omega)
   rw [hJ] at c1
   simp only at c1
   have hsl := HV (CJ (Gn a))
   rw [hJl] at hsl
   obtain ⟨J, hJe⟩ : ∃ J, CJ (Gn a) = J := ⟨_, rfl⟩
   rw [hJe] at c1 hsl hJl hJo hcut
   have hal2 := (hM.sl .here).len T27 rfl
   obtain ⟨n, hn⟩ : ∃ n, a.length = n := ⟨_, rfl⟩
   rw [hn] at hsl hJl hal hal2 hcut
   have w7 : IntKind.i64.wrap (7 * (n : Int)) = ((7 * n : Nat) : Int) := by rw [wrap_i64 (by omega) (by omega)]; omega
   have d7 : (((7 * n : Nat) : Int) != ((7 * n : Nat) : Int)) = false := by simp
   have U := fJ ca (m := ((7 * n : Nat) : Int) + 1) (by omega) (by omega)
   have hwn := AG (n := 7 * n) (by omega)
   generalize eN ca (((7 * n : Nat) : Int) + 1) = k at *
   obtain ⟨u1, u2, u3, u4, u5⟩ := U
   have hkn : k ≤ 7 * n := by omega
   have hJk : k ≤ J.length := by omega
   obtain ⟨i0, hi0⟩ : ∃ i0, k / 7 = i0 := ⟨_, rfl⟩
   have hi0n : i0 ≤ n := by omega
   have wq7 : IntKind.i64.wrap ((k : Int).tdiv 7) = (i0 : Int) := by
    rw [Int.tdiv_eq_ediv_of_nonneg (by omega), wrap_i64 (by omega) (by omega)]
    omega
   have hrec := hcut k hkn
   rw [hi0] at hrec
   obtain ⟨s, hO, hR, hst, _⟩ := RW hc (ps := a.take i0) (by rw [List.length_take]; omega) (fun x hx => hain x (List.mem_of_mem_take hx))
   rw [hR] at hrec
   obtain ⟨sn, hOn, hRn, hstn, _⟩ := RW hc (ps := a) (by omega) hain
   have sf := bU cf hst
   have snf := bU cf hstn
   obtain ⟨u, hu, hus⟩ := (hM.sl .here).take (k := i0) (by omega)
   have e2 : (J.drop 0).take (k - 0) = J.take k := rfl
   have hoT : okB (J.take k) := fun z hz => hJo z (List.mem_of_mem_take hz)
   have hlT : (J.take k).length ≤ 2 ^ 47 := by rw [List.length_take]; omega
   obtain ⟨h0, hh0⟩ : ∃ h0, h = h0 := ⟨_, rfl⟩
   clear hJ hJe hJl hcut hi0 u1 hin7
   refine goM ?_
   refine AA c1 ?_
   clear c1
   refine goM ?_
   refine AA (MM _ _) ?_
   refine goM ?_
   refine CU (EZ 0 k eLk eLk eLk rfl (DG _ rfl (by omega))) ?_
   rw [e2]
   obtain ⟨_, H2, c1, qa, rfl, ka, m1⟩ := gJ hrec h (hr.mono hM.pre) cf hoT hlT
   have hus2 := hus.mono m1.pre
   refine goM ?_
   refine Be c1 (.inl m1.pre) ?_
   replace hM := hM.BH m1
   clear c1 m1 hus hrec
   refine goM ?_
   have hM1 := hM
   clear hM
   have hM := hM1
   clear hM1
   refine IZ (cs := Au) T32 rfl fun b14 H3 hM => ?_
   refine DT T32 fun H4 hM => ?_
   obtain ⟨u', hu', hus'⟩ := (hM.sl (v := v) (xs := a) hsG).take (k := i0) (by omega)
   rw [hu] at hu'
   cases hu'
   obtain ⟨_, H5, c1, qb, rfl, kb, m1⟩ := Zb hR H4 (hr.mono hM.pre) cf hus' (by rw [List.length_take]; omega)
   clear hus2 hus'
   refine goM ?_
   refine Be c1 (.inl m1.pre) ?_
   replace hM := hM.BH m1
   clear c1 m1 hR
   refine goM ?_
   refine IZ (cs := Au) T32 rfl fun b16 H6 hM => ?_
   refine DT T32 fun H7 hM => ?_
   have c1 := fC H7 s (ka.at_ hM) (kb.at_ hM) sf
   refine goM ?_
   refine AA (MM _ _) ?_
   refine goM ?_
   refine AA (MM _ _) ?_
   refine goM ?_
   refine AA c1 ?_
   clear c1
   have hM0 : Mem K H7 [.box b14 (qa.c s), qa.own s, .own 1 AH v a, .box b3 (BJ c rv)] := (((((hM.front (r := .box b3 (BJ c rv)) tkG).front (r := .own 1 AH v a) tkG).front (r := qa.own s) tkG).front (r := .box b14 (qa.c s)) tkG)).sub sbG
   refine goM ?_
   refine AT (fun cc ρ h => ∃ (i : Nat) (s : St) (q : SV), i ≤ n ∧ cc = n - i ∧ GA c (a.take i) = some s ∧ DO c s ∧ s.Fit ∧ q.Ok s ∧ Mem K h [.box b14 (q.c s), q.own s, .own 1 AH v a, .box b3 (BJ c rv)] ∧ ρ 3 = .ptr b3 0 ∧ ρ 9 = v ∧ ρ 14 = .ptr b14 0 ∧ ρ 18 = .int .i64 (i : Int)) ⟨i0, s, qa, hi0n, rfl, hO, hst, sf, ka, hM0, by simp [AD, AB, *]⟩ ?_
   repeat clear hM
   clear hM0 hO hst sf ka g2 g3 g9
   rintro _ ρ h ⟨i, s, q, hi, rfl, hrk, hrs, sf, hq, hM, g3, g9, g14, g18⟩
   by_cases hk' : i < n
   ·have dk : decide ((i : Int) < (n : Int)) = true := decide_eq_true (by omega)
    have hw := AG (n := i) (by omega)
    obtain ⟨x, hx⟩ : ∃ x, a[i]? = some x := ⟨a[i]'(by omega), by simp⟩
    obtain ⟨bo, oo, _, ji, rfl, _, jlo, _⟩ := (hM.sl (v := v) (xs := a) hsG).get T27 rfl T3 rfl hx
    have jl := AF T3 rfl jlo
    have hstep := QJ (c := c) hx
    rw [hrk, Option.bind_some] at hstep
    have hxin := hain x (List.mem_of_getElem? hx)
    clear jlo hx hrk hOn hRn
    rcases En hrs x with ⟨p, o, rfl, pk, hd, hs⟩ | ⟨p, o, rfl, _, _, hd, hs⟩ | ⟨hout, hd, hs⟩
    ·rw [hs] at hstep
     have hrs2 := JT hrs pk
     have sf2 := UI pk sf
     clear pk hs hxin hain
     generalize doS s p = s2 at *
     refine goM ?_
     obtain ⟨_, H8, c1, q2, rfl, k2, m1⟩ := aL hd h (hq.at_ hM) sf
     refine Be c1 (.inl m1.pre) ?_
     replace hM := hM.BH m1
     clear c1 m1 hd
     refine goM ?_
     refine IZ (cs := Au) T32 rfl fun b19 H9 hM => ?_
     refine DT T32 fun H10 hM => ?_
     refine goM ?_
     refine AA (MM _ _) ?_
     refine goM ?_
     refine AM T32 (b := b14) (cs := q.c s) fun H11 hM => ?_
     refine goM ?_
     exact ⟨n - (i + 1), by omega, i + 1, s2, q2, by omega, rfl, hstep, hrs2, sf2, k2, (((((hM.front (r := .box b3 (BJ c rv)) tkG).front (r := .own 1 AH v a) tkG).front (r := q2.own s2) tkG).front (r := .box b14 (q2.c s2)) tkG)).sub sbG, by simp [AD, AB, *]⟩
    ·rw [hs] at hstep
     clear hs hxin hain
     refine goM ?_
     obtain ⟨_, H8, c1, q2, rfl, k2, m1⟩ := aL hd h (hq.at_ hM) sf
     refine Be c1 (.inl m1.pre) ?_
     replace hM := hM.BH m1
     clear c1 m1 hd
     refine goM ?_
     refine IZ (cs := Au) T32 rfl fun b19 H9 hM => ?_
     refine DT T32 fun H10 hM => ?_
     refine goM ?_
     refine AA (MM _ _) ?_
     refine goM ?_
     exact ⟨n - (i + 1), by omega, i + 1, s, q, by omega, rfl, hstep, hrs, sf, hq, hM.Ea, by simp [AD, AB, *]⟩
    ·omega
   ·have dk : decide ((i : Int) < (n : Int)) = false := decide_eq_false (by omega)
    rw [List.take_of_length_le (by omega), hOn] at hrk
    cases hrk
    clear hOn hain
    refine goM ?_
    obtain ⟨_, H8, c1, qd, rfl, kd, m1⟩ := Zb hRn h (hr.mono hM.pre) cf (hM.sl (v := v) (xs := a) hsG) (by omega)
    refine AA c1 ?_
    replace hM := hM.BH m1
    clear c1 m1 hRn
    refine goM ?_
    refine Aj (cs := Au) T32 rfl fun b21 H9 hM => ?_
    refine AM T32 fun H10 hM => ?_
    have c1 := fC H10 sn (hq.at_ hM) (kd.at_ hM) sf
    refine goM ?_
    refine AA (MM _ _) ?_
    refine goM ?_
    refine AA c1 ?_
    refine goM ?_
    exact AY ⟨rfl, hM.pre⟩
end Go.Proofs.YtncjbjlmgnjhiaaGreat.VM
