/- Joined texts: VmW, MemB, IntA, RunP, JourP, RunJ, LawA, LawG, TopI. -/
import Derived.Test.YtncjbjlmgnjhiaaGreatJC1
import Derived.Test.YtncjbjlmgnjhiaaGreatJC2
import Derived.Test.YtncjbjlmgnjhiaaGreatJC3
import Derived.Test.YtncjbjlmgnjhiaaGreatJC4
import Derived.Test.YtncjbjlmgnjhiaaGreatJC5
import Derived.Test.YtncjbjlmgnjhiaaGreatJC6
import Derived.Test.YtncjbjlmgnjhiaaGreatJC7
import Derived.Test.YtncjbjlmgnjhiaaGreatJC8
import Derived.Test.YtncjbjlmgnjhiaaGreatJC9
import Derived.Test.YtncjbjlmgnjhiaaGreatJC10
import Derived.Test.YtncjbjlmgnjhiaaGreatJC11
import Derived.Test.YtncjbjlmgnjhiaaGreatJC12
import Derived.Test.YtncjbjlmgnjhiaaGreatJC13
import Derived.Test.YtncjbjlmgnjhiaaGreatJCTopAll
namespace Go.Proofs.YtncjbjlmgnjhiaaGreat.VM
open Go
set_option linter.unusedVariables false
set_option linter.unusedSimpArgs false
variable {T : Tab} {α : Type} {D : Type}
theorem Un {K : Heap} {t : Nat} {ts : List Nat} {vs : List V} {ds : List (DataW D)} (h : RdAll T K (t :: ts) vs ds) : ∃ v vs' d ds', vs = v :: vs' ∧ ds = d :: ds' ∧ RdV T K t v d ∧ RdAll T K ts vs' ds' := by
 match vs, ds, h with
 | v :: vs', d :: ds', ⟨h1, h2⟩ => exact ⟨v, vs', d, ds', rfl, rfl, h1, h2⟩
theorem XQ {K : Heap} {vs : List V} {ds : List (DataW D)} (h : RdAll T K [] vs ds) : vs = [] ∧ ds = [] := by
 match vs, ds, h with
 | [], [], _ => exact ⟨rfl, rfl⟩
end Go.Proofs.YtncjbjlmgnjhiaaGreat.VM
namespace Go.Proofs.YtncjbjlmgnjhiaaGreat.VM
open Go
set_option linter.unusedVariables false
set_option linter.unusedSimpArgs false
variable {P : Program} {T : Tab} {α β : Type}
section steps
variable {ops : Array Oper} {rest : List Oper} {Q : Rho → Heap → Prop} {ρ : Rho} {h h' B : Heap} {v a w : V} {k : Nat} {d : Option Nat} {op : Op} {t t' : Nat} {p : String} {af : Array Edge} {L : List Res} {f : Res → List Res} {x y : Operand} {cs ds cs' : List V} {i ie : TI} {ps : List DZ}
end steps
theorem iV {c : Code} {id : Nat} {n : Rho → Heap → Prop} {Q : Exit → Rho → Heap → Prop} {ρ : Rho} {h : Heap} (I : Rho → Heap → Prop) (h1 : wq P T c (Bk id (Th I fun _ _ _ => False)) ρ h) (h2 : ∀ ρ h, I ρ h → n ρ h) : wq P T c (Bk id (Th n Q)) ρ h :=
 Bt c (fun x ρ h hx => by
  cases x with
  | normal => exact AS (AR (h2 ρ h hx))
  | exit id' =>
   simp only [Bk] at hx ⊢
   split at hx
   ·rename_i e
    rw [if_pos e]; exact AR (h2 ρ h hx)
   ·exact hx.elim
  | _ => exact hx.elim) h1
end Go.Proofs.YtncjbjlmgnjhiaaGreat.VM
namespace Go.Proofs.YtncjbjlmgnjhiaaGreat.VM
open Go
set_option linter.unusedVariables false
set_option linter.unusedSimpArgs false
attribute [local irreducible] wq wqL wqD wqE wqO Th Bk EndR
set_option maxHeartbeats 8000000
theorem iN (x : Int) (m : Nat) (hm : m < 2 ^ 62) (hmb : (BitVec.ofInt IntKind.i64.bits (m : Int)).toNat = m) : ∃ y : Int, IntKind.i64.wrap ((BitVec.ofInt IntKind.i64.bits x &&& BitVec.ofInt IntKind.i64.bits (m : Int)).toNat : Int) = y ∧ 0 ≤ y ∧ y ≤ m := by
 have h : (BitVec.ofInt IntKind.i64.bits x &&& BitVec.ofInt IntKind.i64.bits (m : Int)).toNat ≤ m := by
  rw [BitVec.toNat_and]
  exact Nat.le_trans Nat.and_le_right (by rw [hmb]; exact Nat.le_refl _)
 exact ⟨((BitVec.ofInt IntKind.i64.bits x &&& BitVec.ofInt IntKind.i64.bits (m : Int)).toNat : Int), Am (by omega), by omega, by omega⟩
theorem jD {c : Cfg} (hc : Al c = true) {ps : List Int} {s : St} (h : GA c ps = some s) (k : Nat) : ∃ t, GA c (ps.take k) = some t ∧ t.es.length ≤ s.es.length ∧ s.es.take t.es.length = t.es := by
 cases ht : GA c (ps.take k) with
 | none => rw [QI ht] at h; cases h
 | some t =>
  have h' : GA c (ps.take k ++ ps.drop k) = some s := by rw [List.take_append_drop]; exact h
  unfold GA at h' ht
  rw [List.foldlM_append, ht] at h'
  obtain ⟨_, h2, h3⟩ := WE (ps.drop k) t s (bT hc ht) h'
  exact ⟨t, rfl, h2, h3⟩
theorem iY (pre s post : List Int) (hs : s.length ≤ 1024) : Qr (pre ++ (Cc s ++ post)) pre.length = some (s, pre.length + 6 + s.length) := by
 have hl := KS s
 have ht := told (pre := pre) (s := s) (x := post) (j := (Cc s).length) (by omega) (by omega)
 rw [List.take_length] at ht
 have hd : ((pre ++ (Cc s ++ post)).drop (pre.length + 2)).take s.length = s := by
  rw [← List.drop_drop, List.drop_left]
  have h2 : (Bm (s.length : Int) 2).length = 2 := CD ..
  have : (Cc s ++ post).drop 2 = s ++ (Bm (Rg (KR s)) 4 ++ post) := by
   unfold Cc KR
   rw [List.append_assoc, List.append_assoc, List.drop_append_of_le_length (by omega), List.drop_of_length_le (by omega), List.nil_append]
  rw [this, List.take_left]
 have hf : ((pre ++ (Cc s ++ post)).drop pre.length).take (6 + s.length) = Cc s := by
  rw [List.drop_left, ← hl, List.take_left]
 unfold Qr
 rw [ht, Int.toNat_natCast, hd, hf, if_pos (by simp only [List.length_append]; omega), if_pos ⟨hs, by simp only [List.length_append]; omega⟩, if_pos rfl]
theorem iR (pre s : List Int) {j : Nat} (hs : s.length ≤ 1024) (hj : j < 6 + s.length) : Qr (pre ++ (Cc s).take j) pre.length = none := by
 have hl := KS s
 have hlen : (pre ++ (Cc s).take j).length = pre.length + j := by simp only [List.length_append, List.length_take]; omega
 unfold Qr
 by_cases h6 : j < 6
 ·rw [if_neg (by omega)]
 ·have ht := told (pre := pre) (s := s) (x := []) (j := j) (by omega) (by omega)
  rw [List.append_nil] at ht
  rw [if_pos (by omega), ht, Int.toNat_natCast, if_neg (by omega)]
theorem iX (t : List Int) : Qr t t.length = none := by unfold Qr; rw [if_neg (by omega)]
theorem iJ {part : List Int} : ∀ (ss : List (List Int)) (pre : List Int) (f : Nat), (∀ s ∈ ss, s.length ≤ 1024) → ss.length < f → Qr (pre ++ (CJ ss ++ part)) (pre.length + (CJ ss).length) = none → loadN (pre ++ (CJ ss ++ part)) f pre.length = (ss, pre.length + (CJ ss).length)
 | [], pre, f + 1, _, _, h => by
  unfold loadN
  simp only [CJ, List.flatMap_nil, List.length_nil, Nat.add_zero] at h ⊢
  rw [h]
 | s :: ss, pre, f + 1, hs, hf, h => by
  have e : pre ++ (CJ (s :: ss) ++ part) = pre ++ (Cc s ++ (CJ ss ++ part)) := by simp [CJ]
  have e2 : pre ++ (Cc s ++ (CJ ss ++ part)) = (pre ++ Cc s) ++ (CJ ss ++ part) := by simp
  have hl : (CJ (s :: ss)).length = 6 + s.length + (CJ ss).length := by simp [CJ, KS]
  have hg := iY pre s (CJ ss ++ part) (hs s (List.mem_cons_self ..))
  have hpl : (pre ++ Cc s).length = pre.length + 6 + s.length := by rw [List.length_append, KS]; omega
  rw [e] at h ⊢
  unfold loadN
  rw [hg]
  simp only
  have ih := iJ (part := part) ss (pre ++ Cc s) f (fun x hx => hs x (List.mem_cons_of_mem _ hx)) (by simp at hf; omega) (by rw [← e2, hpl]; rw [hl] at h; rw [show pre.length + 6 + s.length + (CJ ss).length = pre.length + (6 + s.length + (CJ ss).length) by omega]; exact h)
  rw [hpl, ← e2] at ih
  rw [ih, hl]
  exact Prod.ext rfl (by simp only; omega)
theorem iM (ss : List (List Int)) (hs : ∀ s ∈ ss, s.length ≤ 1024) {f : Nat} (hf : ss.length < f) : loadN (CJ ss) f 0 = (ss, (CJ ss).length) := by
 have := iJ (part := []) ss [] f hs hf (by simp only [List.nil_append, List.append_nil, List.length_nil, Nat.zero_add]; exact iX _)
 simpa using this
theorem iZ (ss : List (List Int)) (s : List Int) {j : Nat} (hs : ∀ x ∈ ss, x.length ≤ 1024) (h1 : s.length ≤ 1024) (hj : j < 6 + s.length) {f : Nat} (hf : ss.length < f) : loadN (CJ ss ++ (Cc s).take j) f 0 = (ss, (CJ ss).length) := by
 have := iJ (part := (Cc s).take j) ss [] f hs hf (by simp only [List.nil_append, List.length_nil, Nat.zero_add]; exact iR _ _ h1 hj)
 simpa using this
theorem journ_take : ∀ (ss : List (List Int)) (k : Nat), (∀ s ∈ ss, s.length = 1) → k ≤ 7 * ss.length → (CJ ss).take k = CJ (ss.take (k / 7)) ++ (match ss[k / 7]? with | some s => (Cc s).take (k % 7) | none => [])
 | [], k, _, hk => by
  have : k = 0 := by simpa using hk
  subst this; rfl
 | s :: ss, k, h, hk => by
  have h1 := h s (List.mem_cons_self ..)
  have hl := KS s
  have e : CJ (s :: ss) = Cc s ++ CJ ss := by simp [CJ]
  by_cases h7 : k < 7
  ·rw [show k / 7 = 0 by omega, show k % 7 = k by omega, e, List.take_append_of_le_length (by omega)]
   simp [CJ]
  ·obtain ⟨q, rfl⟩ : ∃ q, k = q + 7 := ⟨k - 7, by omega⟩
   have ih := journ_take ss q (fun x hx => h x (List.mem_cons_of_mem _ hx)) (by simp at hk; omega)
   rw [show (q + 7) / 7 = q / 7 + 1 by omega, show (q + 7) % 7 = q % 7 by omega, e, List.take_append]
   rw [List.take_of_length_le (by omega), show q + 7 - (Cc s).length = q by omega, ih]
   simp only [List.take_succ_cons, List.getElem?_cons_succ]
   simp [CJ]
theorem iS (ss : List (List Int)) {k : Nat} (h : ∀ s ∈ ss, s.length = 1) (hk : k ≤ 7 * ss.length) {f : Nat} (hf : ss.length < f) : (loadN ((CJ ss).take k) f 0).1 = ss.take (k / 7) := by
 have h1 : ∀ s ∈ ss.take (k / 7), s.length ≤ 1024 := fun s hs => by have := h s (List.mem_of_mem_take hs); omega
 have hl : (ss.take (k / 7)).length < f := by rw [List.length_take]; omega
 rw [journ_take ss k h hk]
 cases hx : ss[k / 7]? with
 | none =>
  simp only [List.append_nil]
  rw [iM _ h1 hl]
 | some s =>
  simp only
  have := h s (List.mem_of_getElem? hx)
  rw [iZ _ s h1 (by omega) (by omega) hl]
theorem iQ (ps : List Int) (k : Nat) : (Gn ps).take k = Gn (ps.take k) := by simp [Gn, List.map_take]
theorem iP {ps : List Int} (hl : ps.length ≤ 256) {k : Nat} (hk : k ≤ 7 * ps.length) : Pr ((CJ (Gn ps)).take k) = Gn (ps.take (k / 7)) := by
 have h1 := XJ ps
 have hpl := QC ps
 have hj := OC (Gn ps) h1
 unfold Pr
 rw [List.take_of_length_le (by rw [List.length_take]; omega)]
 rw [iS (Gn ps) h1 (by omega) (by omega), iQ]
theorem iK (c : Cfg) {ps : List Int} (hl : ps.length ≤ 256) : Uh c (Gn ps) = ps.takeWhile fun x => decide (x < c.m) := by
 unfold Uh
 rw [List.take_of_length_le (by rw [QC]; omega)]
 unfold Gn
 rw [List.takeWhile_map, List.map_map]
 have e : ((fun s => !Iv c s) ∘ fun x : Int => [x]) = fun x : Int => decide (x < c.m) := by
  funext x
  show (!(decide ([x].length ≠ 1) || decide (x ≥ c.m))) = decide (x < c.m)
  have h1 : decide ([x].length ≠ 1) = false := decide_eq_false (by simp)
  rw [h1, Bool.false_or]
  by_cases hx : x < c.m
  ·rw [decide_eq_true hx, decide_eq_false (by omega)]; rfl
  ·rw [decide_eq_false hx, decide_eq_true (by omega)]; rfl
 rw [e]
 have e2 : ((fun s : List Int => s.headD 0) ∘ fun x : Int => [x]) = id := rfl
 rw [e2, List.map_id]
theorem jE {α : Type} {p : α → Bool} : ∀ (l : List α) (k : Nat), (l.take k).takeWhile p = (l.takeWhile p).take k
 | [], k => by simp
 | a :: l, 0 => by simp
 | a :: l, k + 1 => by
  rw [List.take_succ_cons, List.takeWhile_cons, List.takeWhile_cons]
  cases p a with
  | false => simp
  | true => simp [jE l k]
theorem jC {c : Cfg} (hc : Al c = true) {ps : List Int} (hl : ps.length ≤ 256) (h : ∀ x ∈ ps, 0 ≤ x) {k : Nat} (hk : k ≤ 7 * ps.length) : ∃ s, EX c ((CJ (Gn ps)).take k) = (s, 0) ∧ GA c ((ps.takeWhile fun x => decide (x < c.m)).take (k / 7)) = some s := by
 have hlt : (ps.take (k / 7)).length ≤ 256 := by rw [List.length_take]; omega
 have hall : ∀ x ∈ (ps.take (k / 7)).takeWhile (fun x => decide (x < c.m)), 0 ≤ x ∧ x < c.m := fun x hx => by
  obtain ⟨h1, h2⟩ := Me _ x hx
  exact ⟨h x (List.mem_of_mem_take h2), of_decide_eq_true h1⟩
 have hlw : ((ps.take (k / 7)).takeWhile (fun x => decide (x < c.m))).length ≤ 256 := by
  rw [jE, List.length_take]
  rw [List.length_take] at hlt
  have : ((ps.takeWhile fun x => decide (x < c.m))).length ≤ ps.length := (List.takeWhile_sublist _).length_le
  omega
 obtain ⟨s, h1, h2, _⟩ := RW hc hlw hall
 refine ⟨s, ?_, by rw [← jE]; exact h1⟩
 unfold EX
 rw [if_pos hc, iP hl hk, iK c hlt]
 exact h2
theorem jM {c : Cfg} (hc : Al c = true) {qs : List Int} {i j : Nat} (hij : i ≤ j) {s t : St} (hs : GA c (qs.take i) = some s) (ht : GA c (qs.take j) = some t) : s.es.length ≤ t.es.length := by
 obtain ⟨u, h1, h2, _⟩ := jD hc ht i
 rw [List.take_take, Nat.min_eq_left hij, hs] at h1
 cases h1
 exact h2
theorem Pz : ∀ {ss : List (List Int)}, (∀ s ∈ ss, okB s) → okB (CJ ss)
 | [], _ => fun b hb => by simp [CJ] at hb
 | s :: ss, h => by
  have e : CJ (s :: ss) = Cc s ++ CJ ss := by simp [CJ]
  rw [e]
  refine GJ ?_ (Pz fun x hx => h x (List.mem_cons_of_mem _ hx))
  unfold Cc KR
  exact GJ (GJ (HN _ _) (h s List.mem_cons_self)) (HN _ _)
theorem iU {a : List Int} {m : Int} (hm : m ≤ 7) (h : ∀ x ∈ a, 0 ≤ x ∧ x ≤ m) : (a.all fun x => within x 0 7) = true := by
 rw [List.all_eq_true]
 intro x hx
 have := h x hx
 exact within_iff.2 ⟨by omega, by omega⟩
theorem iT {a : List Int} (h : ∀ x ∈ a, 0 ≤ x ∧ x ≤ 7) (la : a.length ≤ 256) : Fw a = (CJ (Gn a), 0) ∧ (CJ (Gn a)).length = 7 * a.length ∧ okB (CJ (Gn a)) :=
 ⟨Se (iU (Int.le_refl _) h) (by omega), by rw [OC _ (XJ a), QC], Pz (XI (iU (Int.le_refl _) h))⟩
theorem kJ {n k : Nat} : builtinP T .max [3, 3] [.int .i64 (n : Int), .int .i64 (k : Int)] = some (.int .i64 ((max n k : Nat) : Int)) := by
 show some (V.int .i64 (if (k : Int) > (n : Int) then (k : Int) else (n : Int))) = _
 rcases Nat.le_total n k with h1 | h1
 ·rw [Nat.max_eq_right h1]
  split
  ·rfl
  ·rw [show n = k by omega]
 ·rw [Nat.max_eq_left h1, if_neg (by omega)]
theorem jQ (c : Cfg) (cf : c.Fit) {a : List Int} (h : ∀ x ∈ a, 0 ≤ x ∧ x ≤ 7) (la : a.length ≤ 40) :
  (Al c = false ∧ ∀ k, EX c ((CJ (Gn a)).take k) = (DN, 2500)) ∨
  (Al c = true ∧ ∃ F : Nat → St, (∀ k, k ≤ 7 * a.length → EX c ((CJ (Gn a)).take k) = (F k, 0) ∧ (F k).Fit) ∧ ∀ i j, i ≤ j → j ≤ 7 * a.length → (F i).es.length ≤ (F j).es.length) := by
 cases hc : Al c with
 | false => exact .inl ⟨rfl, fun k => RQ hc⟩
 | true =>
  refine .inr ⟨rfl, fun k => (EX c ((CJ (Gn a)).take k)).1, fun k hk => ?_, fun i j hij hj => ?_⟩
  ·obtain ⟨s, h1, h2⟩ := jC hc (by omega) (fun x hx => (h x hx).1) hk
   have hst := bT hc h2
   show EX c ((CJ (Gn a)).take k) = ((EX c ((CJ (Gn a)).take k)).1, 0) ∧ (EX c ((CJ (Gn a)).take k)).1.Fit
   rw [h1]
   exact ⟨rfl, Uf hst.ok (by rw [hst.c]; exact cf)⟩
  ·obtain ⟨s, h1, h2⟩ := jC hc (k := i) (by omega) (fun x hx => (h x hx).1) (by omega)
   obtain ⟨t, h3, h4⟩ := jC hc (k := j) (by omega) (fun x hx => (h x hx).1) hj
   show (EX c ((CJ (Gn a)).take i)).1.es.length ≤ (EX c ((CJ (Gn a)).take j)).1.es.length
   rw [h1, h3]
   exact jM hc (Nat.div_le_div_right hij) h2 h4
theorem law_topTwice {D : Type} (K : Heap) (vs : List V) (ds : List (DataW D)) (ro : Ro K) (h : RdAll T K [26, 27, 3, 3] vs ds) : ∃ K', Call Tryz.prog 13 vs K (.bool true) K' := by
 obtain ⟨v1, vs, d1, ds, rfl, rfl, hv1, h⟩ := Un h
 obtain ⟨v2, vs, d2, ds, rfl, rfl, hv2, h⟩ := Un h
 obtain ⟨v3, vs, d3, ds, rfl, rfl, hv3, h⟩ := Un h
 obtain ⟨v4, vs, d4, ds, rfl, rfl, hv4, h⟩ := Un h
 obtain ⟨rfl, rfl⟩ := XQ h
 obtain ⟨c, rv, rfl, hr, cf⟩ := XR hv1
 obtain ⟨ps, hps, hpl⟩ := RO hv2
 obtain ⟨ca, rfl, _⟩ := hv3.int T3 rfl
 obtain ⟨cb, rfl, _⟩ := hv4.int T3 rfl
 clear hv1 hv2 hv3 hv4 h
 replace hpl : ps.length * 8 ≤ 140737488351232 := Nat.le_trans hpl (by decide)
 have l1 := cf.rows
 have l2 := cf.row
 have s3 : rv.cells = [rv] ∧ rv.isTup = false := by obtain ⟨_, h, _⟩ := hr; exact h.cells
 have hlen := hps.len T27 rfl
 obtain ⟨n, hn⟩ : ∃ n, ps.length = n := ⟨_, rfl⟩
 rw [hn] at hlen hpl
 refine ⟨K, ?_⟩
 refine AQ fit mixed Tryz.func13 rfl rfl rfl (by kernel_rfl) rfl fun hM => ?_
 refine AO (AK ?_)
 refine Ax T26 fun b4 H1 hM => ?_
 refine goM ?_
 refine AA (gQ _) ?_
 refine goM ?_
 replace hM := hM.nil 1 AH
 refine iV (fun ρ h => ∃ (v : V) (a : List Int), a.length ≤ 40 ∧ (∀ x ∈ a, 0 ≤ x ∧ x ≤ 7) ∧ Mem K h [.own 1 AH v a, .box b4 (BJ c rv)] ∧ ρ 2 = .int .i64 ca ∧ ρ 3 = .int .i64 cb ∧ ρ 4 = .ptr b4 0 ∧ ρ 9 = v) ?_ ?_
 ·refine AT (fun cc ρ h => ∃ (k : Nat) (v : V) (a : List Int), k ≤ n ∧ k ≤ 40 ∧ cc = 40 - k ∧ a.length = k ∧ (∀ x ∈ a, 0 ≤ x ∧ x ≤ 7) ∧ Mem K h [.own 1 AH v a, .box b4 (BJ c rv)] ∧ ρ 1 = v2 ∧ ρ 2 = .int .i64 ca ∧ ρ 3 = .int .i64 cb ∧ ρ 4 = .ptr b4 0 ∧ ρ 9 = v ∧ ρ 10 = .int .i64 (k : Int)) ⟨0, .AN, [], Nat.zero_le _, Nat.zero_le _, rfl, rfl, (fun x hx => by cases hx), hM, by simp [AD, AB, BT, *]⟩ ?_
  repeat clear hM
  rintro _ ρ h ⟨k, v, a, hk, hk20, rfl, hal, hain, hM, g1, g2, g3, g4, g9, g10⟩
  by_cases hgo : k < n ∧ k < 40
  ·obtain ⟨hk', hk2⟩ := hgo
   have dk : decide ((k : Int) < (n : Int)) = true := decide_eq_true (by omega)
   have d2 : decide ((k : Int) < 40) = true := decide_eq_true (by omega)
   have hw := AG (n := k) (by omega)
   obtain ⟨x, hx⟩ : ∃ x, ps[k]? = some x := ⟨ps[k]'(by omega), by simp⟩
   obtain ⟨bo, oo, _, ji, rfl, _, jlo, _⟩ := (hps.mono hM.pre).get T27 rfl T3 rfl hx
   have jl := AF T3 rfl jlo
   obtain ⟨y, hy, hy0, hy1⟩ := iN x 7 (by decide) (by decide)
   replace hy : IntKind.i64.wrap ((BitVec.ofInt IntKind.i64.bits x &&& BitVec.ofInt IntKind.i64.bits 7).toNat : Int) = y := hy
   have hain2 : ∀ z ∈ a ++ [y], 0 ≤ z ∧ z ≤ 7 := fun z hz => by
    rcases List.mem_append.1 hz with hz | hz
    ·exact hain z hz
    ·simp at hz; subst hz; exact ⟨hy0, by omega⟩
   clear hx jlo hain
   refine goM ?_
   refine Aa AH [y] [.int .i64 y] T27 rfl T3 rfl (Ba [y]) (by decide) fun e1 H4 hM => ?_
   refine goM ?_
   refine Bg (hM.sl .here) (xs := a) (hh := .there .here) (hb := by simp only [List.length_cons, List.length_nil]; omega) fun v2 H5 hM => ?_
   replace hM := hM.drop
   refine goM ?_
   exact ⟨40 - (k + 1), by omega, k + 1, v2, a ++ [y], by omega, by omega, rfl, by rw [List.length_append, hal]; rfl, hain2, hM, by simp [AD, AB, *]⟩
  ·by_cases hkn : k < n
   ·have dk : decide ((k : Int) < (n : Int)) = true := decide_eq_true (by omega)
    have d2 : decide ((k : Int) < 40) = false := decide_eq_false (by omega)
    clear hgo
    refine goM ?_
    exact ⟨v, a, by omega, hain, hM, by simp [AD, AB, *]⟩
   ·have dk : decide ((k : Int) < (n : Int)) = false := decide_eq_false (by omega)
    clear hgo
    refine goM ?_
    exact ⟨v, a, by omega, hain, hM, by simp [AD, AB, *]⟩
 ·repeat clear hM
  clear hlen hps hpl hn
  rintro ρ h ⟨v, a, hal, hain, hM, g2, g3, g4, g9⟩
  obtain ⟨hJ, hJl, hJo⟩ := iT hain (by omega)
  have hT := jQ c cf hain hal
  have c1 := Pp h v a (hM.sl .here) (by omega)
  rw [hJ] at c1
  simp only at c1
  have hsl := HV (CJ (Gn a))
  obtain ⟨J, hJe⟩ : ∃ J, CJ (Gn a) = J := ⟨_, rfl⟩
  rw [hJe] at c1 hsl hJl hJo hT
  obtain ⟨n, hn⟩ : ∃ n, J.length = n := ⟨_, rfl⟩
  rw [hn] at hsl hJl
  have hn3 : n ≤ 280 := by omega
  have h7 : n ≤ 7 * a.length := by omega
  clear hJl
  have Ua := fJ ca (m := (n : Int) + 1) (by omega) (by omega)
  have Ub := fJ cb (m := (n : Int) + 1) (by omega) (by omega)
  have hwn := AG (n := n) (by omega)
  generalize eN ca ((n : Int) + 1) = k at *
  generalize eN cb ((n : Int) + 1) = m at *
  obtain ⟨u1, u2, u3, u4, u5⟩ := Ua
  obtain ⟨w1, _, w3, w4, _⟩ := Ub
  have hkn : k ≤ n := by omega
  have hmn : m ≤ n := by omega
  have hmx := kJ (n := k) (k := m)
  have hMn : max k m ≤ n := Nat.max_le.2 ⟨hkn, hmn⟩
  have hkM : k ≤ max k m := Nat.le_max_left _ _
  have hmM : m ≤ max k m := Nat.le_max_right _ _
  have hcase : max k m = k ∧ m ≤ k ∨ max k m = m ∧ k < m := by omega
  have e1 : (J.drop 0).take (max k m - 0) = J.take (max k m) := rfl
  have e2 : (J.drop 0).take (k - 0) = J.take k := rfl
  have e3 : (J.drop 0).take (m - 0) = J.take m := rfl
  have hoT : ∀ i, okB (J.take i) := fun i z hz => hJo z (List.mem_of_mem_take hz)
  have hlT : ∀ i, (J.take i).length ≤ 2 ^ 47 := fun i => by rw [List.length_take]; omega
  obtain ⟨M, hMe⟩ : ∃ M, max k m = M := ⟨_, rfl⟩
  rw [hMe] at hmx hMn hkM hmM hcase e1
  clear u1 w1 hJ hJe hMe hain
  have c0 := fun (H : Heap) (hp : K <+: H) => EA H c rv (hr.mono hp) (by omega) (fun r hr => by have := l2 r hr; omega)
  rcases hT with ⟨hc, hrec⟩ | ⟨hc, F, hF, hFe⟩
  ·have hx := hrec M
   have hy := hrec k
   have hz := hrec m
   rw [hc] at c0
   clear hrec hcase hc
   refine goM ?_
   refine AA c1 ?_
   clear c1
   refine goM ?_
   refine AA (MM _ _) ?_
   refine goM ?_
   refine CU (EZ 0 M eLk eLk eLk rfl (DG _ rfl (by omega))) ?_
   rw [e1]
   obtain ⟨_, H2, c1, qa, rfl, ka, m1⟩ := gJ hx h (hr.mono hM.pre) cf (hoT M) (hlT M)
   refine goM ?_
   refine Be c1 (.inl m1.pre) ?_
   replace hM := hM.BH m1
   clear c1 m1
   refine goM ?_
   refine IZ (cs := Au) T32 rfl fun b15 H3 hM => ?_
   refine DT T32 fun H4 hM => ?_
   refine goM ?_
   refine CU (EZ 0 k eLk eLk eLk rfl (DG _ rfl (by omega))) ?_
   rw [e2]
   obtain ⟨_, H5, c1, qb, rfl, kb, m1⟩ := gJ hy H4 (hr.mono hM.pre) cf (hoT k) (hlT k)
   refine goM ?_
   refine Be c1 (.inl m1.pre) ?_
   replace hM := hM.BH m1
   clear c1 m1
   refine goM ?_
   refine IZ (cs := Au) T32 rfl fun b17 H6 hM => ?_
   refine DT T32 fun H7 hM => ?_
   refine goM ?_
   refine CU (EZ 0 m eLk eLk eLk rfl (DG _ rfl (by omega))) ?_
   rw [e3]
   obtain ⟨_, H8, c1, qc, rfl, kc, m1⟩ := gJ hz H7 (hr.mono hM.pre) cf (hoT m) (hlT m)
   refine goM ?_
   refine Be c1 (.inl m1.pre) ?_
   replace hM := hM.BH m1
   clear c1 m1
   refine goM ?_
   refine IZ (cs := Au) T32 rfl fun b19 H9 hM => ?_
   refine DT T32 fun H10 hM => ?_
   have c0' := c0 H10 hM.pre
   clear c0 hoT hlT
   refine goM ?_
   refine AA (MM _ _) ?_
   refine goM ?_
   refine AA (MM _ _) ?_
   refine goM ?_
   refine AA (MM _ _) ?_
   refine goM ?_
   refine AA (MM _ _) ?_
   refine goM ?_
   refine AA (MM _ _) ?_
   refine goM ?_
   refine AA c0' ?_
   refine goM ?_
   exact AY ⟨rfl, hM.pre⟩
  ·obtain ⟨hx, fx⟩ := hF M (by omega)
   obtain ⟨hy, fy⟩ := hF k (by omega)
   obtain ⟨hz, fz⟩ := hF m (by omega)
   refine goM ?_
   refine AA c1 ?_
   clear c1
   refine goM ?_
   refine AA (MM _ _) ?_
   refine goM ?_
   refine CU (EZ 0 M eLk eLk eLk rfl (DG _ rfl (by omega))) ?_
   rw [e1]
   obtain ⟨_, H2, c1, qa, rfl, ka, m1⟩ := gJ hx h (hr.mono hM.pre) cf (hoT M) (hlT M)
   refine goM ?_
   refine Be c1 (.inl m1.pre) ?_
   replace hM := hM.BH m1
   clear c1 m1
   refine goM ?_
   refine IZ (cs := Au) T32 rfl fun b15 H3 hM => ?_
   refine DT T32 fun H4 hM => ?_
   refine goM ?_
   refine CU (EZ 0 k eLk eLk eLk rfl (DG _ rfl (by omega))) ?_
   rw [e2]
   obtain ⟨_, H5, c1, qb, rfl, kb, m1⟩ := gJ hy H4 (hr.mono hM.pre) cf (hoT k) (hlT k)
   refine goM ?_
   refine Be c1 (.inl m1.pre) ?_
   replace hM := hM.BH m1
   clear c1 m1
   refine goM ?_
   refine IZ (cs := Au) T32 rfl fun b17 H6 hM => ?_
   refine DT T32 fun H7 hM => ?_
   refine goM ?_
   refine CU (EZ 0 m eLk eLk eLk rfl (DG _ rfl (by omega))) ?_
   rw [e3]
   obtain ⟨_, H8, c1, qc, rfl, kc, m1⟩ := gJ hz H7 (hr.mono hM.pre) cf (hoT m) (hlT m)
   refine goM ?_
   refine Be c1 (.inl m1.pre) ?_
   replace hM := hM.BH m1
   clear c1 m1
   refine goM ?_
   refine IZ (cs := Au) T32 rfl fun b19 H9 hM => ?_
   refine DT T32 fun H10 hM => ?_
   have ly := (kb.at_ hM).es.len T29 rfl
   have lz := (kc.at_ hM).es.len T29 rfl
   rcases hcase with ⟨he, hle⟩ | ⟨he, hle⟩
   ·have dg : decide ((k : Int) ≥ (m : Int)) = true := decide_eq_true (by omega)
    have hfe := hFe m k hle (by omega)
    have dl : decide (((F m).es.length : Int) ≤ ((F k).es.length : Int)) = true := decide_eq_true (by omega)
    have hkb := kb
    have c1 := fC H10 (F M) (ka.at_ hM) (by rw [he]; exact kb.at_ hM) fx
    rw [he] at c1
    clear hF hFe c0 hoT hlT hx hy hz fx fy fz hfe
    rw [he] at hM
    refine goM ?_
    refine AA (MM _ _) ?_
    refine goM ?_
    refine AA (MM _ _) ?_
    refine goM ?_
    refine AA (MM _ _) ?_
    refine goM ?_
    refine AA c1 ?_
    refine goM ?_
    exact AY ⟨rfl, hM.pre⟩
   ·have dg : decide ((k : Int) ≥ (m : Int)) = false := decide_eq_false (by omega)
    have hfe := hFe k m (by omega) (by omega)
    have dl : decide (((F k).es.length : Int) ≤ ((F m).es.length : Int)) = true := decide_eq_true (by omega)
    have c1 := fC H10 (F M) (ka.at_ hM) (by rw [he]; exact kc.at_ hM) fx
    rw [he] at c1
    clear hF hFe c0 hoT hlT hx hy hz fx fy fz hfe
    rw [he] at hM
    refine goM ?_
    refine AA (MM _ _) ?_
    refine goM ?_
    refine AA (MM _ _) ?_
    refine goM ?_
    refine AA (MM _ _) ?_
    refine goM ?_
    refine AA c1 ?_
    refine goM ?_
    exact AY ⟨rfl, hM.pre⟩
end Go.Proofs.YtncjbjlmgnjhiaaGreat.VM
