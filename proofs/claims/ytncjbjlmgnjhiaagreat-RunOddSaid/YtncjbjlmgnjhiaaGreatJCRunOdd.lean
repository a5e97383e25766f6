/- Joined texts: VmW, MemB, IntA, JourP, RunJ, RunK, FrP, FrD, LawH. -/
import Derived.Test.YtncjbjlmgnjhiaaGreatJC1
import Derived.Test.YtncjbjlmgnjhiaaGreatJC2
import Derived.Test.YtncjbjlmgnjhiaaGreatJC3
import Derived.Test.YtncjbjlmgnjhiaaGreatJC4
import Derived.Test.YtncjbjlmgnjhiaaGreatJC5
import Derived.Test.YtncjbjlmgnjhiaaGreatJC6
import Derived.Test.YtncjbjlmgnjhiaaGreatJC7
import Derived.Test.YtncjbjlmgnjhiaaGreatJC8
import Derived.Test.YtncjbjlmgnjhiaaGreatJC9
import Derived.Test.YtncjbjlmgnjhiaaGreatJC10
import Derived.Test.YtncjbjlmgnjhiaaGreatJC11
import Derived.Test.YtncjbjlmgnjhiaaGreatJC12
import Derived.Test.YtncjbjlmgnjhiaaGreatJC13
import Derived.Test.YtncjbjlmgnjhiaaGreatJCRunAllp0
import Derived.Test.YtncjbjlmgnjhiaaGreatJCRunAll
namespace Go.Proofs.YtncjbjlmgnjhiaaGreat.VM
open Go
set_option linter.unusedVariables false
set_option linter.unusedSimpArgs false
variable {T : Tab} {α : Type} {D : Type}
theorem Un {K : Heap} {t : Nat} {ts : List Nat} {vs : List V} {ds : List (DataW D)} (h : RdAll T K (t :: ts) vs ds) : ∃ v vs' d ds', vs = v :: vs' ∧ ds = d :: ds' ∧ RdV T K t v d ∧ RdAll T K ts vs' ds' := by
 match vs, ds, h with
 | v :: vs', d :: ds', ⟨h1, h2⟩ => exact ⟨v, vs', d, ds', rfl, rfl, h1, h2⟩
theorem XQ {K : Heap} {vs : List V} {ds : List (DataW D)} (h : RdAll T K [] vs ds) : vs = [] ∧ ds = [] := by
 match vs, ds, h with
 | [], [], _ => exact ⟨rfl, rfl⟩
end Go.Proofs.YtncjbjlmgnjhiaaGreat.VM
namespace Go.Proofs.YtncjbjlmgnjhiaaGreat.VM
open Go
set_option linter.unusedVariables false
set_option linter.unusedSimpArgs false
variable {P : Program} {T : Tab} {α β : Type}
section steps
variable {ops : Array Oper} {rest : List Oper} {Q : Rho → Heap → Prop} {ρ : Rho} {h h' B : Heap} {v a w : V} {k : Nat} {d : Option Nat} {op : Op} {t t' : Nat} {p : String} {af : Array Edge} {L : List Res} {f : Res → List Res} {x y : Operand} {cs ds cs' : List V} {i ie : TI} {ps : List DZ}
end steps
theorem iV {c : Code} {id : Nat} {n : Rho → Heap → Prop} {Q : Exit → Rho → Heap → Prop} {ρ : Rho} {h : Heap} (I : Rho → Heap → Prop) (h1 : wq P T c (Bk id (Th I fun _ _ _ => False)) ρ h) (h2 : ∀ ρ h, I ρ h → n ρ h) : wq P T c (Bk id (Th n Q)) ρ h :=
 Bt c (fun x ρ h hx => by
  cases x with
  | normal => exact AS (AR (h2 ρ h hx))
  | exit id' =>
   simp only [Bk] at hx ⊢
   split at hx
   ·rename_i e
    rw [if_pos e]; exact AR (h2 ρ h hx)
   ·exact hx.elim
  | _ => exact hx.elim) h1
end Go.Proofs.YtncjbjlmgnjhiaaGreat.VM
namespace Go.Proofs.YtncjbjlmgnjhiaaGreat.VM
open Go
set_option linter.unusedVariables false
set_option linter.unusedSimpArgs false
attribute [local irreducible] wq wqL wqD wqE wqO Th Bk EndR
set_option maxHeartbeats 8000000
theorem iN (x : Int) (m : Nat) (hm : m < 2 ^ 62) (hmb : (BitVec.ofInt IntKind.i64.bits (m : Int)).toNat = m) : ∃ y : Int, IntKind.i64.wrap ((BitVec.ofInt IntKind.i64.bits x &&& BitVec.ofInt IntKind.i64.bits (m : Int)).toNat : Int) = y ∧ 0 ≤ y ∧ y ≤ m := by
 have h : (BitVec.ofInt IntKind.i64.bits x &&& BitVec.ofInt IntKind.i64.bits (m : Int)).toNat ≤ m := by
  rw [BitVec.toNat_and]
  exact Nat.le_trans Nat.and_le_right (by rw [hmb]; exact Nat.le_refl _)
 exact ⟨((BitVec.ofInt IntKind.i64.bits x &&& BitVec.ofInt IntKind.i64.bits (m : Int)).toNat : Int), Am (by omega), by omega, by omega⟩
theorem iY (pre s post : List Int) (hs : s.length ≤ 1024) : Qr (pre ++ (Cc s ++ post)) pre.length = some (s, pre.length + 6 + s.length) := by
 have hl := KS s
 have ht := told (pre := pre) (s := s) (x := post) (j := (Cc s).length) (by omega) (by omega)
 rw [List.take_length] at ht
 have hd : ((pre ++ (Cc s ++ post)).drop (pre.length + 2)).take s.length = s := by
  rw [← List.drop_drop, List.drop_left]
  have h2 : (Bm (s.length : Int) 2).length = 2 := CD ..
  have : (Cc s ++ post).drop 2 = s ++ (Bm (Rg (KR s)) 4 ++ post) := by
   unfold Cc KR
   rw [List.append_assoc, List.append_assoc, List.drop_append_of_le_length (by omega), List.drop_of_length_le (by omega), List.nil_append]
  rw [this, List.take_left]
 have hf : ((pre ++ (Cc s ++ post)).drop pre.length).take (6 + s.length) = Cc s := by
  rw [List.drop_left, ← hl, List.take_left]
 unfold Qr
 rw [ht, Int.toNat_natCast, hd, hf, if_pos (by simp only [List.length_append]; omega), if_pos ⟨hs, by simp only [List.length_append]; omega⟩, if_pos rfl]
theorem iR (pre s : List Int) {j : Nat} (hs : s.length ≤ 1024) (hj : j < 6 + s.length) : Qr (pre ++ (Cc s).take j) pre.length = none := by
 have hl := KS s
 have hlen : (pre ++ (Cc s).take j).length = pre.length + j := by simp only [List.length_append, List.length_take]; omega
 unfold Qr
 by_cases h6 : j < 6
 ·rw [if_neg (by omega)]
 ·have ht := told (pre := pre) (s := s) (x := []) (j := j) (by omega) (by omega)
  rw [List.append_nil] at ht
  rw [if_pos (by omega), ht, Int.toNat_natCast, if_neg (by omega)]
theorem iX (t : List Int) : Qr t t.length = none := by unfold Qr; rw [if_neg (by omega)]
theorem iJ {part : List Int} : ∀ (ss : List (List Int)) (pre : List Int) (f : Nat), (∀ s ∈ ss, s.length ≤ 1024) → ss.length < f → Qr (pre ++ (CJ ss ++ part)) (pre.length + (CJ ss).length) = none → loadN (pre ++ (CJ ss ++ part)) f pre.length = (ss, pre.length + (CJ ss).length)
 | [], pre, f + 1, _, _, h => by
  unfold loadN
  simp only [CJ, List.flatMap_nil, List.length_nil, Nat.add_zero] at h ⊢
  rw [h]
 | s :: ss, pre, f + 1, hs, hf, h => by
  have e : pre ++ (CJ (s :: ss) ++ part) = pre ++ (Cc s ++ (CJ ss ++ part)) := by simp [CJ]
  have e2 : pre ++ (Cc s ++ (CJ ss ++ part)) = (pre ++ Cc s) ++ (CJ ss ++ part) := by simp
  have hl : (CJ (s :: ss)).length = 6 + s.length + (CJ ss).length := by simp [CJ, KS]
  have hg := iY pre s (CJ ss ++ part) (hs s (List.mem_cons_self ..))
  have hpl : (pre ++ Cc s).length = pre.length + 6 + s.length := by rw [List.length_append, KS]; omega
  rw [e] at h ⊢
  unfold loadN
  rw [hg]
  simp only
  have ih := iJ (part := part) ss (pre ++ Cc s) f (fun x hx => hs x (List.mem_cons_of_mem _ hx)) (by simp at hf; omega) (by rw [← e2, hpl]; rw [hl] at h; rw [show pre.length + 6 + s.length + (CJ ss).length = pre.length + (6 + s.length + (CJ ss).length) by omega]; exact h)
  rw [hpl, ← e2] at ih
  rw [ih, hl]
  exact Prod.ext rfl (by simp only; omega)
theorem iM (ss : List (List Int)) (hs : ∀ s ∈ ss, s.length ≤ 1024) {f : Nat} (hf : ss.length < f) : loadN (CJ ss) f 0 = (ss, (CJ ss).length) := by
 have := iJ (part := []) ss [] f hs hf (by simp only [List.nil_append, List.append_nil, List.length_nil, Nat.zero_add]; exact iX _)
 simpa using this
theorem iZ (ss : List (List Int)) (s : List Int) {j : Nat} (hs : ∀ x ∈ ss, x.length ≤ 1024) (h1 : s.length ≤ 1024) (hj : j < 6 + s.length) {f : Nat} (hf : ss.length < f) : loadN (CJ ss ++ (Cc s).take j) f 0 = (ss, (CJ ss).length) := by
 have := iJ (part := (Cc s).take j) ss [] f hs hf (by simp only [List.nil_append, List.length_nil, Nat.zero_add]; exact iR _ _ h1 hj)
 simpa using this
theorem journ_take : ∀ (ss : List (List Int)) (k : Nat), (∀ s ∈ ss, s.length = 1) → k ≤ 7 * ss.length → (CJ ss).take k = CJ (ss.take (k / 7)) ++ (match ss[k / 7]? with | some s => (Cc s).take (k % 7) | none => [])
 | [], k, _, hk => by
  have : k = 0 := by simpa using hk
  subst this; rfl
 | s :: ss, k, h, hk => by
  have h1 := h s (List.mem_cons_self ..)
  have hl := KS s
  have e : CJ (s :: ss) = Cc s ++ CJ ss := by simp [CJ]
  by_cases h7 : k < 7
  ·rw [show k / 7 = 0 by omega, show k % 7 = k by omega, e, List.take_append_of_le_length (by omega)]
   simp [CJ]
  ·obtain ⟨q, rfl⟩ : ∃ q, k = q + 7 := ⟨k - 7, by omega⟩
   have ih := journ_take ss q (fun x hx => h x (List.mem_cons_of_mem _ hx)) (by simp at hk; omega)
   rw [show (q + 7) / 7 = q / 7 + 1 by omega, show (q + 7) % 7 = q % 7 by omega, e, List.take_append]
   rw [List.take_of_length_le (by omega), show q + 7 - (Cc s).length = q by omega, ih]
   simp only [List.take_succ_cons, List.getElem?_cons_succ]
   simp [CJ]
theorem iS (ss : List (List Int)) {k : Nat} (h : ∀ s ∈ ss, s.length = 1) (hk : k ≤ 7 * ss.length) {f : Nat} (hf : ss.length < f) : (loadN ((CJ ss).take k) f 0).1 = ss.take (k / 7) := by
 have h1 : ∀ s ∈ ss.take (k / 7), s.length ≤ 1024 := fun s hs => by have := h s (List.mem_of_mem_take hs); omega
 have hl : (ss.take (k / 7)).length < f := by rw [List.length_take]; omega
 rw [journ_take ss k h hk]
 cases hx : ss[k / 7]? with
 | none =>
  simp only [List.append_nil]
  rw [iM _ h1 hl]
 | some s =>
  simp only
  have := h s (List.mem_of_getElem? hx)
  rw [iZ _ s h1 (by omega) (by omega) hl]
theorem iQ (ps : List Int) (k : Nat) : (Gn ps).take k = Gn (ps.take k) := by simp [Gn, List.map_take]
theorem iP {ps : List Int} (hl : ps.length ≤ 256) {k : Nat} (hk : k ≤ 7 * ps.length) : Pr ((CJ (Gn ps)).take k) = Gn (ps.take (k / 7)) := by
 have h1 := XJ ps
 have hpl := QC ps
 have hj := OC (Gn ps) h1
 unfold Pr
 rw [List.take_of_length_le (by rw [List.length_take]; omega)]
 rw [iS (Gn ps) h1 (by omega) (by omega), iQ]
theorem jA {ps : List Int} (hl : ps.length ≤ 256) : Pr (CJ (Gn ps)) = Gn ps := by
 have hj := OC (Gn ps) (XJ ps)
 have := iP hl (k := 7 * ps.length) (Nat.le_refl _)
 rw [List.take_of_length_le (by rw [hj, QC]; omega), show 7 * ps.length / 7 = ps.length by omega, List.take_length] at this
 exact this
theorem iK (c : Cfg) {ps : List Int} (hl : ps.length ≤ 256) : Uh c (Gn ps) = ps.takeWhile fun x => decide (x < c.m) := by
 unfold Uh
 rw [List.take_of_length_le (by rw [QC]; omega)]
 unfold Gn
 rw [List.takeWhile_map, List.map_map]
 have e : ((fun s => !Iv c s) ∘ fun x : Int => [x]) = fun x : Int => decide (x < c.m) := by
  funext x
  show (!(decide ([x].length ≠ 1) || decide (x ≥ c.m))) = decide (x < c.m)
  have h1 : decide ([x].length ≠ 1) = false := decide_eq_false (by simp)
  rw [h1, Bool.false_or]
  by_cases hx : x < c.m
  ·rw [decide_eq_true hx, decide_eq_false (by omega)]; rfl
  ·rw [decide_eq_false hx, decide_eq_true (by omega)]; rfl
 rw [e]
 have e2 : ((fun s : List Int => s.headD 0) ∘ fun x : Int => [x]) = id := rfl
 rw [e2, List.map_id]
theorem iL {α : Type} {p : α → Bool} : ∀ l : List α, (∀ x ∈ l, p x = true) → l.takeWhile p = l
 | [], _ => rfl
 | a :: l, h => by
  rw [List.takeWhile_cons, h a (List.mem_cons_self ..), if_pos rfl, iL l fun x hx => h x (List.mem_cons_of_mem _ hx)]
theorem iW (c : Cfg) {ps : List Int} (hl : ps.length ≤ 256) (h : ∀ x ∈ ps, x < c.m) : Uh c (Gn ps) = ps := by
 rw [iK c hl]
 exact iL ps fun x hx => decide_eq_true (h x hx)
theorem jB {c : Cfg} (hc : Al c = true) {ps : List Int} (hl : ps.length ≤ 256) (h : ∀ x ∈ ps, 0 ≤ x ∧ x < c.m) : EX c (CJ (Gn ps)) = FH c ps := by
 unfold EX
 rw [if_pos hc, jA hl, iW c hl fun x hx => (h x hx).2]
theorem jH : ∀ ss : List (List Int), 6 * ss.length ≤ (CJ ss).length
 | [] => by simp [CJ]
 | s :: ss => by
  have ih := jH ss
  have : CJ (s :: ss) = Cc s ++ CJ ss := by simp [CJ]
  rw [this, List.length_append, KS, List.length_cons]; omega
theorem jX (ss : List (List Int)) (hs : ∀ s ∈ ss, s.length ≤ 1024) (hl : (CJ ss).length ≤ 65536) : Pr (CJ ss) = ss := by
 have := jH ss
 unfold Pr
 rw [List.take_of_length_le hl, iM ss hs (by omega)]
theorem jT (c : Cfg) {a : List Int} {o : List Int} {b : List (List Int)} (hl : a.length < 256) (hin : ∀ x ∈ a, x < c.m) (ho : Iv c o = true) : Uh c (Gn a ++ (o :: b)) = a := by
 have hp := iW c (ps := a) (by omega) hin
 unfold Uh at hp ⊢
 have hpl := QC a
 rw [List.take_of_length_le (by omega)] at hp
 rw [List.take_append, List.take_of_length_le (by omega)]
 obtain ⟨q, hq⟩ : ∃ q, 256 - (Gn a).length = q + 1 := ⟨255 - (Gn a).length, by omega⟩
 rw [hq, List.take_succ_cons]
 have hall : ∀ s ∈ Gn a, (!Iv c s) = true := fun s hs => by
  obtain ⟨x, hx, rfl⟩ := List.mem_map.1 hs
  have := hin x hx
  unfold Iv
  rw [decide_eq_false (by simp), Bool.false_or]
  show (!decide (x ≥ c.m)) = true
  rw [decide_eq_false (by omega)]; rfl
 have hw : (Gn a ++ o :: b.take q).takeWhile (fun s => !Iv c s) = Gn a := by
  rw [List.takeWhile_append_of_pos hall, List.takeWhile_cons, ho]
  simp
 rw [hw]
 rw [iL _ hall] at hp
 exact hp
theorem jL {c : Cfg} (hc : Al c = true) {a : List Int} {o : List Int} {b : List (List Int)} (hl : a.length < 256) (hin : ∀ x ∈ a, x < c.m) (ho : Iv c o = true) (h1 : ∀ s ∈ Gn a ++ (o :: b), s.length ≤ 1024) (h2 : (CJ (Gn a ++ (o :: b))).length ≤ 65536) : EX c (CJ (Gn a ++ (o :: b))) = FH c a := by
 unfold EX
 rw [if_pos hc, jX _ h1 h2, jT c hl hin ho]
theorem kD {x : Nat} (hx : x < 4294967296) : ((x : Nat) : Int).fdiv (2 ^ min (Int.toNat 1) IntKind.u32.bits) = ((x / 2 : Nat) : Int) ∧
  IntKind.u32.wrap ((BitVec.ofInt IntKind.u32.bits (x : Int) &&& BitVec.ofInt IntKind.u32.bits 1).toNat : Int) = ((x % 2 : Nat) : Int) ∧
  IntKind.u32.wrap ((BitVec.ofInt IntKind.u32.bits ((x / 2 : Nat) : Int) ^^^ BitVec.ofInt IntKind.u32.bits 3988292384).toNat : Int) = ((x / 2 ^^^ 3988292384 : Nat) : Int) := by
 have h1 := aP (x := x) (y := 1) hx (by decide)
 rw [Nat.and_one_is_mod] at h1
 exact ⟨YW x, h1, NM (x := x / 2) (y := 3988292384) (by omega) (by decide)⟩
theorem kH (H : Heap) (bs : List Int) (ho : okB bs) (hl : bs.length ≤ 2 ^ 40) : Call Tryz.prog 81 [.str (strOf bs)] H (.int .i64 (Rg bs : Nat)) H := by
 have hlen := HV bs
 obtain ⟨n, hn⟩ : ∃ n, bs.length = n := ⟨_, rfl⟩
 rw [hn] at hlen hl
 refine AQ fit mixed Tryz.func81 rfl rfl rfl (by kernel_rfl) rfl fun hM => ?_
 refine goM ?_
 refine AT (fun m ρ hp => ∃ k : Nat, k ≤ n ∧ m = n - k ∧ H = hp ∧ ρ 0 = .str (strOf bs) ∧ ρ 3 = .int .u32 ((Gd bs k : Nat) : Int) ∧ ρ 4 = .int .i64 (k : Int)) ⟨0, Nat.zero_le _, rfl, rfl, rfl, by rw [No]; rfl, rfl⟩ ?_
 rintro _ ρ hp ⟨k, hk, rfl, rfl, g0, g3, g4⟩
 have hx0 := Ky ho k
 by_cases hk' : k < n
 ·have dk : decide ((k : Int) < (n : Int)) = true := decide_eq_true (by omega)
  obtain ⟨b, hb⟩ : ∃ b, bs[k]? = some b := ⟨bs[k]'(by omega), by simp⟩
  have hs := Nn hb
  unfold Kx at hs
  obtain ⟨e1, e2, e3⟩ := dN hx0 (ho b (List.mem_of_getElem? hb))
  have hw := AG (n := k) (by omega)
  obtain ⟨y, hy⟩ : ∃ y, Gd bs k ^^^ b.toNat = y := ⟨_, rfl⟩
  rw [hy] at e2 e3 hs
  obtain ⟨x0, hx⟩ : ∃ x0, Gd bs k = x0 := ⟨_, rfl⟩
  rw [hx] at e2 g3
  clear hy hx
  refine goM ?_
  refine BC (ED k eLk eLk rfl ho hb) ?_
  clear hb
  refine goM ?_
  refine AT (fun m ρ hp => ∃ j : Nat, j ≤ 8 ∧ m = 8 - j ∧ H = hp ∧ ρ 0 = .str (strOf bs) ∧ ρ 3 = .int .u32 ((crcBits j y : Nat) : Int) ∧ ρ 4 = .int .i64 (k : Int) ∧ ρ 5 = .int .i64 (j : Int)) ⟨0, by omega, rfl, rfl, by simp [AD, AB, crcBits, *]⟩ ?_
  clear g0 g3 g4
  rintro _ ρ hp ⟨j, hj, rfl, rfl, g0, g3, g4, g5⟩
  by_cases hj' : j < 8
  ·have dj : decide ((j : Int) < 8) = true := decide_eq_true (by omega)
   have hwj := AG (n := j) (by omega)
   have hst := Kw j y
   have hxj := KI j e3
   obtain ⟨xj, hxe⟩ : ∃ xj, crcBits j y = xj := ⟨_, rfl⟩
   rw [hxe] at g3 hst hxj
   obtain ⟨q1, q2, q3⟩ := kD hxj
   unfold IY at hst
   by_cases hodd : xj % 2 = 1
   ·rw [hodd] at q2
    replace q2 := q2.trans (show (((1 : Nat) : Int)) = 1 from rfl)
    rw [if_pos hodd] at hst
    rw [← hst] at q3
    clear hst hxe dk hs hodd
    refine goM ?_
    exact ⟨8 - (j + 1), by omega, j + 1, hj', rfl, rfl, by simp [AD, AB, *]⟩
   ·have h0 : xj % 2 = 0 := by omega
    rw [h0] at q2
    replace q2 := q2.trans (show (((0 : Nat) : Int)) = 0 from rfl)
    rw [if_neg hodd] at hst
    rw [← hst] at q1
    clear q3 hst hxe dk hs hodd h0
    refine goM ?_
    exact ⟨8 - (j + 1), by omega, j + 1, hj', rfl, rfl, by simp [AD, AB, *]⟩
  ·have dj : decide ((j : Int) < 8) = false := decide_eq_false (by omega)
   obtain rfl : j = 8 := by omega
   rw [← hs] at g3
   clear dk
   refine goM ?_
   exact ⟨n - (k + 1), by omega, k + 1, hk', rfl, rfl, by simp [AD, AB, *]⟩
 ·have dk : decide ((k : Int) < (n : Int)) = false := decide_eq_false (by omega)
  have hnn := eQ hx0
  rw [Pb bs (by omega)] at hnn
  have hlt := cE ho
  have hw : IntKind.i64.wrap ((Rg bs : Nat) : Int) = ((Rg bs : Nat) : Int) := Am (by omega)
  obtain ⟨x0, hx⟩ : ∃ x0, Gd bs k = x0 := ⟨_, rfl⟩
  rw [hx] at hnn g3
  clear hx hlt
  refine goM ?_
  exact AY ⟨rfl, List.prefix_refl _⟩
theorem kF (H : Heap) (s : List Int) (ho : okB s) (hs : s.length ≤ 1024) : Call Tryz.prog 36 [.str (strOf s)] H (.tup [.str (strOf (Cc s)), .int .i64 0]) H := by
 refine AQ fit mixed Tryz.func36 rfl rfl rfl (by kernel_rfl) rfl fun hM => ?_
 have h1 := HV s
 obtain ⟨n, hn⟩ : ∃ n, s.length = n := ⟨_, rfl⟩
 have c1 := Wx H n 2 (by omega)
 have a1 := HU (a := Bm n 2) (b := s) (by rw [CD]; omega)
 have hoh : okB (Bm n 2 ++ s) := GJ (HN _ _) ho
 have hhl : (Bm n 2 ++ s).length ≤ 2 ^ 40 := by rw [List.length_append, CD]; omega
 have c2 := kH H (Bm n 2 ++ s) hoh hhl
 have c3 := Wx H (Rg (Bm n 2 ++ s) : Nat) 4 (by omega)
 have a2 := HU (a := Bm n 2 ++ s) (b := Bm (Rg (Bm n 2 ++ s) : Nat) 4) (by rw [List.length_append, CD, CD]; omega)
 have he : Cc s = Bm n 2 ++ s ++ Bm (Rg (Bm n 2 ++ s) : Nat) 4 := by unfold Cc KR; rw [hn]
 rw [← he] at a2
 obtain ⟨z, hz⟩ : ∃ z, Rg (Bm n 2 ++ s) = z := ⟨_, rfl⟩
 rw [hz] at c2 c3 a2
 have dn : decide ((n : Int) > 1024) = false := decide_eq_false (by omega)
 rw [hn] at h1
 clear he hz hoh hhl hn
 generalize Bm n 2 ++ s = A at *
 generalize Bm (z : Int) 4 = B at *
 refine goM ?_
 refine AA c1 ?_
 refine goM ?_
 refine BC (EC eLk eLk a1) ?_
 refine goM ?_
 refine AA c2 ?_
 refine goM ?_
 refine AA c3 ?_
 refine goM ?_
 refine BC (EC eLk eLk a2) ?_
 refine goM ?_
 exact An ⟨rfl, hM.pre⟩
theorem kR (H : Heap) (v : V) (xs : List (List Int)) (hv : Sl 1 bsC H v xs) (h1 : ∀ x ∈ xs, x.length ≤ 1024) (ho : ∀ x ∈ xs, okB x) (hn : xs.length ≤ 2 ^ 40) (hj : (CJ xs).length ≤ 65536) :
  Call Tryz.prog 37 [v] H (.tup [.str (strOf (CJ xs)), .int .i64 0]) H := by
 have hlen := hv.len T70 rfl
 obtain ⟨n, hnn⟩ : ∃ n, xs.length = n := ⟨_, rfl⟩
 rw [hnn] at hlen hn
 have hjs : ∀ k x, xs[k]? = some x → CJ (xs.take (k + 1)) = CJ (xs.take k) ++ Cc x := fun k x hx => by
  rw [List.take_add_one, hx]
  simp [CJ]
 have hjl : ∀ k, (CJ (xs.take k)).length ≤ (CJ xs).length := fun k => by
  have : CJ xs = CJ (xs.take k) ++ CJ (xs.drop k) := by
   unfold CJ
   rw [← List.flatMap_append, List.take_append_drop]
  rw [this, List.length_append]; omega
 refine AQ fit mixed Tryz.func37 rfl rfl rfl (by kernel_rfl) rfl fun hM => ?_
 refine goM ?_
 refine AT (fun m ρ hp => ∃ k : Nat, k ≤ n ∧ m = n - k ∧ H = hp ∧ ρ 0 = v ∧ ρ 4 = .str (strOf (CJ (xs.take k))) ∧ ρ 5 = .int .i64 (k : Int)) ⟨0, Nat.zero_le _, rfl, rfl, rfl, rfl, rfl⟩ ?_
 rintro _ ρ hp ⟨k, hk, rfl, rfl, g0, g4, g5⟩
 by_cases hk' : k < n
 ·have dk : decide ((k : Int) < (n : Int)) = true := decide_eq_true (by omega)
  have hw := AG (n := k) (by omega)
  obtain ⟨x, hx⟩ : ∃ x, xs[k]? = some x := ⟨xs[k]'(by omega), by simp⟩
  obtain ⟨b2, o2, _, hi2, rfl, _, hlo2, _⟩ := hv.get T70 rfl T9 rfl hx
  have ho2 := AF T9 rfl hlo2
  have hm := List.mem_of_getElem? hx
  have c1 := kF H x (ho x hm) (h1 x hm)
  have e := hjs k x hx
  have hb := hjl (k + 1)
  rw [e, List.length_append] at hb
  have a1 := HU (a := CJ (xs.take k)) (b := Cc x) (by omega)
  rw [← e] at a1
  have l1 := HV (CJ (xs.take k))
  have l2 := HV (Cc x)
  have w3 : IntKind.i64.wrap (((CJ (xs.take k)).length : Int) + ((Cc x).length : Int)) = ((CJ (xs.take k)).length : Int) + ((Cc x).length : Int) := wrap_i64 (by omega) (by omega)
  have d6 : decide (((CJ (xs.take k)).length : Int) + ((Cc x).length : Int) > 65536) = false := decide_eq_false (by omega)
  clear hjs hjl hx hlo2 hm e hb
  generalize CJ (xs.take k) = A at *
  generalize Cc x = B at *
  generalize (A.length : Int) = la at *
  generalize (B.length : Int) = lb at *
  refine goM ?_
  refine AA c1 ?_
  refine goM ?_
  refine BC (EC eLk eLk a1) ?_
  refine goM ?_
  exact ⟨n - (k + 1), by omega, k + 1, hk', rfl, rfl, by simp [AD, AB, *]⟩
 ·have dk : decide ((k : Int) < (n : Int)) = false := decide_eq_false (by omega)
  rw [List.take_of_length_le (by omega)] at g4
  clear hjs hjl
  refine goM ?_
  exact An ⟨rfl, List.prefix_refl _⟩
def iO (k : Nat) (o : List Int) (b : List Int) : List (List Int) := if b.length ≤ k then Gn b else Gn (b.take k) ++ o :: Gn (b.drop k)
theorem jI (a b : List Int) : Gn (a ++ b) = Gn a ++ Gn b := by simp [Gn]
theorem kN {k : Nat} {o b : List Int} {y : Int} (h : b.length < k) : iO k o b ++ [[y]] = iO k o (b ++ [y]) := by
 unfold iO
 rw [if_pos (by omega), if_pos (by rw [List.length_append]; show b.length + 1 ≤ k; omega), jI]
 rfl
theorem kK {k : Nat} {o b : List Int} {y : Int} (h : b.length = k) : iO k o b ++ [o] ++ [[y]] = iO k o (b ++ [y]) := by
 unfold iO
 rw [if_pos (by omega), if_neg (by rw [List.length_append]; show ¬ b.length + 1 ≤ k; omega), List.take_append_of_le_length (by omega), List.take_of_length_le (by omega), List.drop_append_of_le_length (by omega), List.drop_of_length_le (by omega)]
 simp [Gn]
theorem kL {k : Nat} {o b : List Int} {y : Int} (h : k < b.length) : iO k o b ++ [[y]] = iO k o (b ++ [y]) := by
 unfold iO
 rw [if_neg (by omega), if_neg (by rw [List.length_append]; show ¬ b.length + 1 ≤ k; omega), List.take_append_of_le_length (by omega), List.drop_append_of_le_length (by omega), jI]
 simp [Gn]
theorem jG (k : Nat) (o b : List Int) : (iO k o b).length ≤ b.length + 1 := by
 unfold iO
 split
 ·rw [QC]; omega
 ·rw [List.length_append, List.length_cons, QC, QC, List.length_take, List.length_drop]; omega
theorem kM {k : Nat} {o b : List Int} {s : List Int} (hs : s ∈ iO k o b) : s = o ∨ ∃ x ∈ b, s = [x] := by
 unfold iO at hs
 split at hs
 ·unfold Gn at hs
  obtain ⟨x, hx, rfl⟩ := List.mem_map.1 hs
  exact .inr ⟨x, hx, rfl⟩
 ·rcases List.mem_append.1 hs with hs | hs
  ·unfold Gn at hs
   obtain ⟨x, hx, rfl⟩ := List.mem_map.1 hs
   exact .inr ⟨x, List.mem_of_mem_take hx, rfl⟩
  ·rcases List.mem_cons.1 hs with rfl | hs
   ·exact .inl rfl
   ·unfold Gn at hs
    obtain ⟨x, hx, rfl⟩ := List.mem_map.1 hs
    exact .inr ⟨x, List.mem_of_mem_drop hx, rfl⟩
theorem jF : ∀ ss : List (List Int), (∀ s ∈ ss, s.length ≤ 2) → (CJ ss).length ≤ 8 * ss.length
 | [], _ => by simp [CJ]
 | s :: ss, h => by
  have e : CJ (s :: ss) = Cc s ++ CJ ss := by simp [CJ]
  have h1 := h s List.mem_cons_self
  have ih := jF ss fun x hx => h x (List.mem_cons_of_mem _ hx)
  rw [e, List.length_append, KS, List.length_cons]
  omega
def kQ : List (List Int) := [[], [2], [0, 0], [255]]
theorem kO {y : Nat} (h : y < 4) : ∃ o, kQ[y]? = some o ∧ Iv Bv o = true ∧ o.length ≤ 2 ∧ okB o := by
 match y, h with
 | 0, _ => exact ⟨[], rfl, by decide, by decide, fun b hb => by cases hb⟩
 | 1, _ => exact ⟨[2], rfl, by decide, by decide, fun b hb => by simp at hb; subst hb; decide⟩
 | 2, _ => exact ⟨[0, 0], rfl, by decide, by decide, fun b hb => by simp at hb; subst hb; decide⟩
 | 3, _ => exact ⟨[255], rfl, by decide, by decide, fun b hb => by simp at hb; subst hb; decide⟩
theorem jR (xs : List (List Int)) : Cells 1 bsC (xs.flatMap fun s => [V.str (strOf s)]) xs := Fc (R := bsC) (fun s => [V.str (strOf s)]) (fun s => ⟨rfl, rfl⟩) xs
theorem jY {k : Nat} {o b : List Int} (hb : ∀ x ∈ b, 0 ≤ x ∧ x ≤ 1) (lb : b.length ≤ 20) (ho : Iv Bv o = true) (lo : o.length ≤ 2) (oo : okB o) :
  ∃ A, FH Bv (b.take k) = (A, 0) ∧ EX Bv (CJ (iO k o b)) = (A, 0) ∧ A.Fit ∧ (∀ s ∈ iO k o b, s.length ≤ 1024 ∧ okB s) ∧ (CJ (iO k o b)).length ≤ 65536 := by
 have e2 : Bv.m = 2 := rfl
 have hin : ∀ x ∈ b.take k, 0 ≤ x ∧ x < Bv.m := fun x hx => by rw [e2]; have := hb x (List.mem_of_mem_take hx); omega
 have hlt : (b.take k).length ≤ 20 := by rw [List.length_take]; omega
 obtain ⟨A, _, hR, hst, _⟩ := RW IJ (ps := b.take k) (by omega) hin
 have hall : ∀ s ∈ iO k o b, s.length ≤ 2 ∧ okB s := fun s hs => by
  rcases kM hs with rfl | ⟨x, hx, rfl⟩
  ·exact ⟨lo, oo⟩
  ·exact ⟨by simp, fun z hz => by simp at hz; subst hz; have := hb z hx; omega⟩
 have hj : (CJ (iO k o b)).length ≤ 65536 := by
  have h1 := jF (iO k o b) fun s hs => (hall s hs).1
  have h2 := jG k o b
  omega
 refine ⟨A, hR, ?_, Uf hst.ok (by rw [hst.c]; exact Jo), fun s hs => ⟨by have := (hall s hs).1; omega, (hall s hs).2⟩, hj⟩
 by_cases hk : b.length ≤ k
 ·have e : iO k o b = Gn b := by unfold iO; rw [if_pos hk]
  rw [List.take_of_length_le hk] at hin hR
  rw [e, jB IJ (by omega) hin]
  exact hR
 ·have e : iO k o b = Gn (b.take k) ++ o :: Gn (b.drop k) := by unfold iO; rw [if_neg hk]
  rw [e] at hj ⊢
  rw [jL IJ (by omega) (fun x hx => (hin x hx).2) ho (fun s hs => by have := (hall s (by rw [e]; exact hs)).1; omega) hj]
  exact hR
theorem law_runOdd {D : Type} (K : Heap) (vs : List V) (ds : List (DataW D)) (ro : Ro K) (h : RdAll T K [27, 3, 3] vs ds) : ∃ K', Call Tryz.prog 7 vs K (.bool true) K' := by
 obtain ⟨v1, vs, d1, ds, rfl, rfl, hv1, h⟩ := Un h
 obtain ⟨v2, vs, d2, ds, rfl, rfl, hv2, h⟩ := Un h
 obtain ⟨v3, vs, d3, ds, rfl, rfl, hv3, h⟩ := Un h
 obtain ⟨rfl, rfl⟩ := XQ h
 obtain ⟨ps, hps, hpl⟩ := RO hv1
 obtain ⟨ca, rfl, _⟩ := hv2.int T3 rfl
 obtain ⟨wh, rfl, _⟩ := hv3.int T3 rfl
 clear hv1 hv2 hv3 h
 replace hpl : ps.length * 8 ≤ 140737488351232 := Nat.le_trans hpl (by decide)
 have hlen := hps.len T27 rfl
 obtain ⟨n, hn⟩ : ∃ n, ps.length = n := ⟨_, rfl⟩
 rw [hn] at hlen hpl
 obtain ⟨yi, hyi, hyi0, hyi1⟩ := iN wh 3 (by decide) (by decide)
 replace hyi : IntKind.i64.wrap ((BitVec.ofInt IntKind.i64.bits wh &&& BitVec.ofInt IntKind.i64.bits 3).toNat : Int) = yi := hyi
 obtain ⟨yo, rfl⟩ : ∃ yo : Nat, yi = yo := ⟨yi.toNat, by omega⟩
 obtain ⟨o, ho, hod, hol, hoo⟩ := kO (y := yo) (by omega)
 have hmb : builtinP T .min [3, 3] [.int .i64 (n : Int), .int .i64 20] = some (.int .i64 ((min n 20 : Nat) : Int)) := Vr (k := 20)
 have hm20 : min n 20 ≤ 20 := Nat.min_le_right _ _
 obtain ⟨m, hm⟩ : ∃ m, min n 20 = m := ⟨_, rfl⟩
 rw [hm] at hmb hm20
 have U := fJ ca (m := (m : Int) + 1) (by omega) (by omega)
 have hwm := AG (n := m) (by omega)
 generalize eN ca ((m : Int) + 1) = k at *
 obtain ⟨u1, u2, u3, u4, u5⟩ := U
 clear u1 hm
 refine ⟨K, ?_⟩
 refine AQ fit mixed Tryz.func7 rfl rfl rfl (by kernel_rfl) rfl fun hM => ?_
 refine goM ?_
 refine AA (YB _) ?_
 refine goM ?_
 replace hM := (hM.nil 1 AH).nil 1 bsC
 refine iV (fun ρ h => ∃ (u w : V) (b : List Int), b.length ≤ 20 ∧ (∀ x ∈ b, 0 ≤ x ∧ x ≤ 1) ∧ Mem K h [.own 1 bsC u (iO k o b), .own 1 AH w (b.take k)] ∧ ρ 7 = u ∧ ρ 8 = w) ?_ ?_
 ·have hM0 : Mem K K [.own 1 bsC .AN (iO k o []), .own 1 AH .AN (([] : List Int).take k)] := by
   rw [List.take_nil]
   exact hM
  refine AT (fun cc ρ h => ∃ (i : Nat) (u w : V) (b : List Int), i ≤ n ∧ i ≤ 20 ∧ cc = 20 - i ∧ b.length = i ∧ (∀ x ∈ b, 0 ≤ x ∧ x ≤ 1) ∧ Mem K h [.own 1 bsC u (iO k o b), .own 1 AH w (b.take k)] ∧ ρ 0 = v1 ∧ ρ 2 = .int .i64 wh ∧ ρ 7 = u ∧ ρ 8 = w ∧ ρ 9 = .int .i64 (k : Int) ∧ ρ 10 = .int .i64 (i : Int)) ⟨0, .AN, .AN, [], Nat.zero_le _, Nat.zero_le _, rfl, rfl, (fun x hx => by cases hx), hM0, by simp [AD, AB, BT, *]⟩ ?_
  clear hM hM0
  rintro _ ρ h ⟨i, u, w, b, hi, hi20, rfl, hbl, hbin, hM, g0, g2, g7, g8, g9, g10⟩
  by_cases hgo : i < n ∧ i < 20
  ·obtain ⟨hi', hi2⟩ := hgo
   have dk : decide ((i : Int) < (n : Int)) = true := decide_eq_true (by omega)
   have d2 : decide ((i : Int) < 20) = true := decide_eq_true (by omega)
   have hw := AG (n := i) (by omega)
   obtain ⟨x, hx⟩ : ∃ x, ps[i]? = some x := ⟨ps[i]'(by omega), by simp⟩
   have hget := fun (h : Heap) (hp : K <+: h) => (hps.mono hp).get T27 rfl T3 rfl hx
   obtain ⟨y, hy, hy0, hy1⟩ := iN x 1 (by decide) (by decide)
   replace hy : IntKind.i64.wrap ((BitVec.ofInt IntKind.i64.bits x &&& BitVec.ofInt IntKind.i64.bits 1).toNat : Int) = y := hy
   have wy : IntKind.u8.wrap y = y := by rw [wrap_u8]; omega
   have hbin2 : ∀ z ∈ b ++ [y], 0 ≤ z ∧ z ≤ 1 := fun z hz => by
    rcases List.mem_append.1 hz with hz | hz
    ·exact hbin z hz
    ·simp at hz; subst hz; exact ⟨hy0, by omega⟩
   have hml := jG k o b
   have htl : (b.take k).length ≤ 20 := by rw [List.length_take]; omega
   rw [hbl] at hml
   clear hx hbin
   rcases Nat.lt_trichotomy i k with hik | hik | hik
   ·have deq : ((i : Int) == (k : Int)) = false := by simp; omega
    have dlt : decide ((i : Int) < (k : Int)) = true := decide_eq_true (by omega)
    have e1 := kN (k := k) (o := o) (b := b) (y := y) (by omega)
    have e2 : b.take k ++ [y] = (b ++ [y]).take k := by rw [List.take_of_length_le (by omega), List.take_of_length_le (by rw [List.length_append]; show b.length + 1 ≤ k; omega)]
    obtain ⟨bo, oo, _, ji, rfl, _, jlo, _⟩ := hget h hM.pre
    have jl := AF T3 rfl jlo
    clear jlo
    refine goM ?_
    refine Aa EO [y] [.int .u8 y] T68 rfl T5 rfl (Cells.one (sz := 1) rfl rfl) (by decide) fun e3 H1 hM => ?_
    refine goM ?_
    refine BC (NU eLk (hM.sl .here)) ?_
    refine goM ?_
    refine Aa bsC [[y]] [.str (strOf [y])] T70 rfl T9 rfl (Cells.one (sz := 1) rfl rfl) (by decide) fun e4 H2 hM => ?_
    refine goM ?_
    refine Bg (hM.sl .here) (xs := iO k o b) (hh := .there (.there .here)) (hb := by simp only [List.length_cons, List.length_nil]; have : (T 9).get!.bytes = 16 := rfl; omega) fun u2 H3 hM => ?_
    rw [e1] at hM
    replace hM := hM.drop.drop
    clear jl e1 ji
    obtain ⟨bo2, oo2, _, ji2, rfl, _, jlo2, _⟩ := hget H3 hM.pre
    have jl2 := AF T3 rfl jlo2
    clear jlo2 hget
    refine goM ?_
    refine Aa AH [y] [.int .i64 y] T27 rfl T3 rfl (Ba [y]) (by decide) fun e5 H4 hM => ?_
    refine goM ?_
    refine Bg (hM.sl .here) (xs := b.take k) (hh := .there (.there .here)) (hb := by simp only [List.length_cons, List.length_nil]; omega) fun w2 H5 hM => ?_
    rw [e2] at hM
    replace hM := hM.drop
    clear e2
    refine goM ?_
    exact ⟨20 - (i + 1), by omega, i + 1, u2, w2, b ++ [y], by omega, by omega, rfl, by rw [List.length_append, hbl]; rfl, hbin2, hM, by simp [AD, AB, *]⟩
   ·subst hik
    have deq : ((i : Int) == (i : Int)) = true := by simp
    have dlt : decide ((i : Int) < (i : Int)) = false := decide_eq_false (by omega)
    have e1 := kK (k := i) (o := o) (b := b) (y := y) hbl
    have e2 : b.take i = (b ++ [y]).take i := by rw [List.take_append_of_le_length (by omega)]
    rw [e2] at hM
    refine goM ?_
    refine Aa bsC kQ [.str ⟨#[]⟩, .str ⟨#[2]⟩, .str ⟨#[0, 0]⟩, .str ⟨#[255]⟩] T70 rfl T9 rfl (jR kQ) (by decide) fun e6 H1 hM => ?_
    obtain ⟨bq, oq, _, jq, rfl, _, jqlo, _⟩ := (hM.sl .here).get T70 rfl T9 rfl ho
    have jql := AF T9 rfl jqlo
    clear jqlo
    refine goM ?_
    refine Aa bsC [o] [.str (strOf o)] T70 rfl T9 rfl (Cells.one (sz := 1) rfl rfl) (by decide) fun e7 H2 hM => ?_
    refine goM ?_
    refine Bg (hM.sl .here) (xs := iO i o b) (hh := .there (.there .here)) (hb := by simp only [List.length_cons, List.length_nil]; have : (T 9).get!.bytes = 16 := rfl; omega) fun u2 H3 hM => ?_
    replace hM := hM.drop.drop
    clear jql jq
    obtain ⟨bo, oo, _, ji, rfl, _, jlo, _⟩ := hget H3 hM.pre
    have jl := AF T3 rfl jlo
    clear jlo hget
    refine goM ?_
    refine Aa EO [y] [.int .u8 y] T68 rfl T5 rfl (Cells.one (sz := 1) rfl rfl) (by decide) fun e3 H4 hM => ?_
    refine goM ?_
    refine BC (NU eLk (hM.sl .here)) ?_
    refine goM ?_
    refine Aa bsC [[y]] [.str (strOf [y])] T70 rfl T9 rfl (Cells.one (sz := 1) rfl rfl) (by decide) fun e4 H5 hM => ?_
    refine goM ?_
    refine Bg (hM.sl .here) (xs := iO i o b ++ [o]) (hh := .there (.there .here)) (hb := by simp only [List.length_cons, List.length_nil, List.length_append]; have : (T 9).get!.bytes = 16 := rfl; omega) fun u3 H6 hM => ?_
    rw [e1] at hM
    replace hM := hM.drop.drop
    clear e1 e2
    refine goM ?_
    exact ⟨20 - (i + 1), by omega, i + 1, u3, w, b ++ [y], by omega, by omega, rfl, by rw [List.length_append, hbl]; rfl, hbin2, hM, by simp [AD, AB, *]⟩
   ·have deq : ((i : Int) == (k : Int)) = false := by simp; omega
    have dlt : decide ((i : Int) < (k : Int)) = false := decide_eq_false (by omega)
    have e1 := kL (k := k) (o := o) (b := b) (y := y) (by omega)
    have e2 : b.take k = (b ++ [y]).take k := by rw [List.take_append_of_le_length (by omega)]
    rw [e2] at hM
    obtain ⟨bo, oo, _, ji, rfl, _, jlo, _⟩ := hget h hM.pre
    have jl := AF T3 rfl jlo
    clear jlo hget
    refine goM ?_
    refine Aa EO [y] [.int .u8 y] T68 rfl T5 rfl (Cells.one (sz := 1) rfl rfl) (by decide) fun e3 H1 hM => ?_
    refine goM ?_
    refine BC (NU eLk (hM.sl .here)) ?_
    refine goM ?_
    refine Aa bsC [[y]] [.str (strOf [y])] T70 rfl T9 rfl (Cells.one (sz := 1) rfl rfl) (by decide) fun e4 H2 hM => ?_
    refine goM ?_
    refine Bg (hM.sl .here) (xs := iO k o b) (hh := .there (.there .here)) (hb := by simp only [List.length_cons, List.length_nil]; have : (T 9).get!.bytes = 16 := rfl; omega) fun u2 H3 hM => ?_
    rw [e1] at hM
    replace hM := hM.drop.drop
    clear e1 e2
    refine goM ?_
    exact ⟨20 - (i + 1), by omega, i + 1, u2, w, b ++ [y], by omega, by omega, rfl, by rw [List.length_append, hbl]; rfl, hbin2, hM, by simp [AD, AB, *]⟩
  ·by_cases hkn : i < n
   ·have dk : decide ((i : Int) < (n : Int)) = true := decide_eq_true (by omega)
    have d2 : decide ((i : Int) < 20) = false := decide_eq_false (by omega)
    clear hgo
    refine goM ?_
    exact ⟨u, w, b, by omega, hbin, hM, by simp [AD, AB, *]⟩
   ·have dk : decide ((i : Int) < (n : Int)) = false := decide_eq_false (by omega)
    clear hgo
    refine goM ?_
    exact ⟨u, w, b, by omega, hbin, hM, by simp [AD, AB, *]⟩
 ·clear hM hlen hps hpl hn
  rintro ρ h ⟨u, w, b, hbl, hbin, hM, g7, g8⟩
  obtain ⟨A, hR, hC, Af, hall, hj⟩ := jY (k := k) hbin hbl hod hol hoo
  have hml := jG k o b
  have htl : (b.take k).length ≤ 20 := by rw [List.length_take]; omega
  have c1 := kR h u (iO k o b) (hM.sl .here) (fun s hs => (hall s hs).1) (fun s hs => (hall s hs).2) (by omega) hj
  have hJo := Pz fun s hs => (hall s hs).2
  have hsm := Zl
  have hcf := Jo
  generalize Bv = c at *
  obtain ⟨J, hJ⟩ : ∃ J, CJ (iO k o b) = J := ⟨_, rfl⟩
  rw [hJ] at c1 hC hj hJo
  clear hJ hall hbin hod
  refine goM ?_
  refine AA c1 ?_
  clear c1
  refine goM ?_
  obtain ⟨_, H3, c1, rv, xv, rfl, m0⟩ := hsm h
  refine AA c1 ?_
  replace hM := hM.BH m0
  clear c1 m0
  obtain ⟨_, H4, c1, qa, rfl, ka, m1⟩ := gJ hC H3 (Jl (hM.fact (F := EY rv xv c.rows) .here)) hcf hJo (by omega)
  refine goM ?_
  refine AA c1 ?_
  replace hM := hM.BH m1
  clear c1 m1
  refine goM ?_
  refine Aj (cs := Au) T32 rfl fun b13 H5 hM => ?_
  refine AM T32 fun H6 hM => ?_
  refine goM ?_
  obtain ⟨_, H7, c1, rv2, xv2, rfl, m0⟩ := hsm H6
  refine AA c1 ?_
  replace hM := hM.BH m0
  clear c1 m0
  obtain ⟨_, H8, c1, qb, rfl, kb, m1⟩ := Zb hR H7 (Jl (hM.fact (F := EY rv2 xv2 c.rows) .here)) hcf (hM.sl (v := w) (xs := b.take k) hsG) (by omega)
  refine goM ?_
  refine AA c1 ?_
  replace hM := hM.BH m1
  clear c1 m1
  refine goM ?_
  refine Aj (cs := Au) T32 rfl fun b15 H9 hM => ?_
  refine AM T32 fun H10 hM => ?_
  have c1 := fC H10 A (ka.at_ hM) (kb.at_ hM) Af
  refine goM ?_
  refine AA (MM _ _) ?_
  refine goM ?_
  refine AA (MM _ _) ?_
  refine goM ?_
  refine AA c1 ?_
  refine goM ?_
  exact AY ⟨rfl, hM.pre⟩
end Go.Proofs.YtncjbjlmgnjhiaaGreat.VM
