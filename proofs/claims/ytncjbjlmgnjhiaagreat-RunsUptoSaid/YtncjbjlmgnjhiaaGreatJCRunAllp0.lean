/- Joined texts: VmW, VmY, Num, StoreP, NetA, NetB, NetC, DrawB, NetE, NetF, NetI, RefA, OptB, TrainC, TrainD, LowA, LowB, InitA, InitB, TrainE, HelpC, StoreE, StoreF, TrainG, StoreG, MembE, RankA, RowD, EvA, StepV, StepA, EvB, CtlD, CtlE, CtlF, CtlG, FoldV, StepD, StepH, StepI, RankD. -/
import Derived.Test.YtncjbjlmgnjhiaaGreatJC1
import Derived.Test.YtncjbjlmgnjhiaaGreatJC2
import Derived.Test.YtncjbjlmgnjhiaaGreatJC3
import Derived.Test.YtncjbjlmgnjhiaaGreatJC4
import Derived.Test.YtncjbjlmgnjhiaaGreatJC5
import Derived.Test.YtncjbjlmgnjhiaaGreatJC6
import Derived.Test.YtncjbjlmgnjhiaaGreatJC7
import Derived.Test.YtncjbjlmgnjhiaaGreatJC8
import Derived.Test.YtncjbjlmgnjhiaaGreatJC9
import Derived.Test.YtncjbjlmgnjhiaaGreatJC10
import Derived.Test.YtncjbjlmgnjhiaaGreatJC11
import Derived.Test.YtncjbjlmgnjhiaaGreatJC12
import Derived.Test.YtncjbjlmgnjhiaaGreatJC13
namespace Go.Proofs.YtncjbjlmgnjhiaaGreat.VM
open Go
set_option linter.unusedVariables false
set_option linter.unusedSimpArgs false
variable {T : Tab} {α : Type} {D : Type}
theorem Rd.isStr {K : Heap} {t : Nat} {i : TI} {cs : List V} {d : DataW D} (hT : T t = some i) (hk : i.k = .str) (h : Rd T K t cs d) : ∃ s, cs = [.str s] ∧ s.size ≤ reachBytes := by
 cases h with
 | str h hk' hs => exact ⟨_, rfl, hs⟩
 | int h hk' => rw [hT] at h; cases h; rw [hk] at hk'; cases hk'
 | bool h hk' => rw [hT] at h; cases h; rw [hk] at hk'; cases hk'
 | AN h hk' => rw [hT] at h; cases h; rw [hk] at hk'; cases hk'
 | slc h hk' => rw [hT] at h; cases h; rw [hk] at hk'; cases hk'
 | strct h hk' => rw [hT] at h; cases h; rw [hk] at hk'; cases hk'
end Go.Proofs.YtncjbjlmgnjhiaaGreat.VM
namespace Go.Proofs.YtncjbjlmgnjhiaaGreat.VM
open Go
set_option linter.unusedVariables false
set_option linter.unusedSimpArgs false
variable {P : Program} {T : Tab} {ops : Array Oper} {rest : List Oper} {Q : Rho → Heap → Prop} {ρ : Rho} {h h' : Heap} {v : V} {k : Nat} {d : Option Nat} {op : Op} {t : Nat} {p : String} {af : Array Edge}
theorem Wb {a b : V} {xs : Array Operand} {t1 t2 : Nat} {e : Nat} {i ie : TI} {n : Nat} {news : List V} (hn : newsOf T ie t2 b h = some (n, news)) (ha : appendV ie a n news h = some (v, h')) (hw : wqD P T ops (k + 1) rest Q (ρ.put d v) h') (hx : evs ρ.ev xs.toList = some [a, b] := by exact eLk) (hT : T t1 = some i := by rfl) (hk : i.k = .slice e := by rfl) (hE : T e = some ie := by rfl) :
  wqD P T ops k (⟨d, .call { callee := .builtin .append, args := xs, argTypes := #[t1, t2] }, t, p, af, none⟩ :: rest) Q ρ h := CU (JU hx hT hk hE hn ha) hw
end Go.Proofs.YtncjbjlmgnjhiaaGreat.VM
namespace Go.Proofs.YtncjbjlmgnjhiaaGreat.VM
open Go
set_option linter.unusedVariables false
set_option linter.unusedSimpArgs false
def Mt (i h : Nat) (ws xs : List Int) : Int := JZ i h ws (Et i h ws xs)
end Go.Proofs.YtncjbjlmgnjhiaaGreat.VM
namespace Go.Proofs.YtncjbjlmgnjhiaaGreat.VM
open Go
set_option linter.unusedVariables false
set_option linter.unusedSimpArgs false
attribute [local irreducible] wq wqL wqD wqE wqO Th Bk EndR
set_option maxHeartbeats 8000000
theorem Wl (es : List Ent) (s : ByteArray) : Bj es s ≤ es.length := List.findIdx_le_length
theorem SS {es : List Ent} {s : ByteArray} (h : ∀ (j : Nat) (x : Ent), es[j]? = some x → EF x.tx s = false) : Bj es s = es.length := by
 rcases Nat.lt_or_ge (Bj es s) es.length with hlt | hge
 ·have hx : es[Bj es s]? = some (es[Bj es s]'hlt) := by simp
  have := h _ _ hx
  rw [Je hx, FZ] at this
  cases this
 ·have := Wl es s; omega
theorem YG (x a b : Int) (h : a ≤ b) : (if (if x < b then x else b) > a then (if x < b then x else b) else a) = clip x a b := by
 unfold clip; split <;> split <;> (try split) <;> omega
theorem Gr (H : Heap) (x a b : Int) (h : a ≤ b) : Call Tryz.prog 184 [.int .i64 x, .int .i64 a, .int .i64 b] H (.int .i64 (clip x a b)) H := by
 refine AJ fit mixed Tryz.func184 rfl rfl rfl (by kernel_rfl) rfl ?_
 have hc := YG x a b h
 clear h
 refine goW ?_
 refine AL (by simp only [resRf, resRs, resR]; first | done | rfl) ⟨?_, by first | exact List.prefix_refl _ | exact List.prefix_append _ _ | assumption | (refine List.IsPrefix.trans (by assumption) (List.prefix_append _ _)) | (simp only [List.append_assoc, List.cons_append, List.nil_append, List.set_cons_zero, List.set_cons_succ]; exact ⟨_, by simp only [List.append_assoc, List.cons_append, List.nil_append]; rfl⟩)⟩
 simp only [AD, AB]
 simp only [Nat.reduceEqDiff, reduceIte, Option.some.injEq, reduceCtorEq]
 try rw [hc]
theorem Fp (H : Heap) (a b : Int) : Call Tryz.prog 180 [.int .i64 a, .int .i64 b] H (.int .i64 (plus a b)) H := by
 refine AJ fit mixed Tryz.func180 rfl rfl rfl (by kernel_rfl) rfl ?_
 refine goW ?_
 refine AA (Gr _ _ (-1073741824) 1073741824 (by decide)) ?_
 refine goW ?_
 refine AL (by simp only [resRf, resRs, resR]; first | done | rfl) ⟨?_, by first | exact List.prefix_refl _ | exact List.prefix_append _ _ | assumption | (refine List.IsPrefix.trans (by assumption) (List.prefix_append _ _)) | (simp only [List.append_assoc, List.cons_append, List.nil_append, List.set_cons_zero, List.set_cons_succ]; exact ⟨_, by simp only [List.append_assoc, List.cons_append, List.nil_append]; rfl⟩)⟩
 simp [AD, AB, plus, cut]
theorem EI (H : Heap) (a b : Int) : Call Tryz.prog 182 [.int .i64 a, .int .i64 b] H (.int .i64 (times a b)) H := by
 refine AJ fit mixed Tryz.func182 rfl rfl rfl (by kernel_rfl) rfl ?_
 refine goW ?_
 refine AA (Gr _ _ (-1073741824) 1073741824 (by decide)) ?_
 refine goW ?_
 refine AL (by simp only [resRf, resRs, resR]; first | done | rfl) ⟨?_, by first | exact List.prefix_refl _ | exact List.prefix_append _ _ | assumption | (refine List.IsPrefix.trans (by assumption) (List.prefix_append _ _)) | (simp only [List.append_assoc, List.cons_append, List.nil_append, List.set_cons_zero, List.set_cons_succ]; exact ⟨_, by simp only [List.append_assoc, List.cons_append, List.nil_append]; rfl⟩)⟩
 simp [AD, AB, times, cut]
 rfl
theorem Oc (H : Heap) (i h : Nat) (hi : i ≤ 3) (hh : h ≤ 3) : Call Tryz.prog 139 [.agg [.int .i64 i, .int .i64 h]] H (.int .i64 (BA i h : Nat)) H := by
 refine AJ fit mixed Tryz.func139 rfl rfl rfl (by kernel_rfl) rfl ?_
 have hm : h * (i + 1) ≤ 12 := Nat.le_trans (Nat.mul_le_mul hh (Nat.add_le_add_right hi 1)) (by decide)
 have w1 : IntKind.i64.wrap ((i : Int) + 1) = ((i + 1 : Nat) : Int) := AG (by omega)
 have w2 : IntKind.i64.wrap ((h : Int) * ((i + 1 : Nat) : Int)) = ((h * (i + 1) : Nat) : Int) := by rw [← Int.natCast_mul]; exact Am (by omega)
 have w3 : IntKind.i64.wrap (((h * (i + 1) : Nat) : Int) + (h : Int)) = ((h * (i + 1) + h : Nat) : Int) := by rw [← Int.natCast_add]; exact Am (by omega)
 have w4 : IntKind.i64.wrap (((h * (i + 1) + h : Nat) : Int) + 1) = ((h * (i + 1) + h + 1 : Nat) : Int) := AG (by omega)
 clear hm hi hh
 refine goW ?_
 refine AL (by simp only [resRf, resRs, resR]; first | done | rfl) ⟨?_, by first | exact List.prefix_refl _ | exact List.prefix_append _ _ | assumption | (refine List.IsPrefix.trans (by assumption) (List.prefix_append _ _)) | (simp only [List.append_assoc, List.cons_append, List.nil_append, List.set_cons_zero, List.set_cons_succ]; exact ⟨_, by simp only [List.append_assoc, List.cons_append, List.nil_append]; rfl⟩)⟩
 simp only [AD, AB]
 rfl
theorem Vy (H : Heap) (u v : V) (xs ys : List Int) (hx : Sl 1 AH H u xs) (hy : Sl 1 AH H v ys) (hl : xs.length = ys.length) (mx : BF xs = true) (my : BF ys = true) : Call Tryz.prog 218 [u, v] H (.tup [.int .i64 (dot xs ys), .int .i64 0]) H := by
 refine AJ fit mixed Tryz.func218 rfl rfl rfl (by kernel_rfl) rfl ?_
 have hsmall : xs.length ≤ 16 := by simp [BF] at mx; exact mx.1
 have hlen := hx.len T27 rfl
 have hlen2 := hy.len T27 rfl
 rw [← hl] at hlen2
 have c1 := DC H u xs hx (by omega)
 have c2 := DC H v ys hy (by omega)
 rw [mx] at c1
 rw [my] at c2
 replace hl := hl.symm
 clear mx my
 refine goW ?_
 refine AA c1 ?_
 refine goW ?_
 refine AA c2 ?_
 refine goW ?_
 refine AE (fun hb => ?_) (fun hb => ?_)
 ·simp at hb
 clear hb c1 c2
 refine goW ?_
 refine AT (fun c ρ h => ∃ k, k ≤ xs.length ∧ c = xs.length - k ∧ h = H ∧ ρ 0 = u ∧ ρ 1 = v ∧ ρ 7 = .int .i64 (k : Nat) ∧ ρ 6 = .int .i64 (dot (xs.take k) (ys.take k))) ⟨0, Nat.zero_le _, rfl, rfl, rfl, rfl, rfl, rfl⟩ ?_
 rintro _ ρ h ⟨k, hk, rfl, rfl, h0, h1, h7, h6⟩
 refine goW ?_
 refine AE (fun hb => ?_) (fun hb => ?_)
 ·have hk' : k < xs.length := by simpa using hb
  clear hb
  obtain ⟨x, hxk⟩ : ∃ x, xs[k]? = some x := ⟨xs[k], by simp [hk']⟩
  obtain ⟨y, hyk⟩ : ∃ x, ys[k]? = some x := ⟨ys[k]'(by omega), by simp⟩
  obtain ⟨b, o, cs, hi, rfl, _, hlo, _⟩ := hx.get T27 rfl T3 rfl hxk
  obtain ⟨b2, o2, cs, hi2, rfl, _, hlo2, _⟩ := hy.get T27 rfl T3 rfl hyk
  have ho := AF T3 rfl hlo
  have ho2 := AF T3 rfl hlo2
  have hw := AG (n := k) (by omega)
  have hs : dot (xs.take (k + 1)) (ys.take (k + 1)) = _ := Ia hxk hyk
  have c1 := EI h x y
  have c2 := Fp h (dot (xs.take k) (ys.take k)) (times x y)
  rw [← hs] at c2
  clear hs
  refine goW ?_
  refine AI c1 ?_
  refine goW ?_
  refine AI c2 ?_
  refine goW ?_
  refine ⟨xs.length - (k + 1), by omega, k + 1, hk', rfl, rfl, ?_⟩
  simp [AD, AB, *]
 ·have hk' : k = xs.length := by have : ¬ k < xs.length := by simpa using hb
                                 omega
  subst hk'
  rw [List.take_of_length_le (Nat.le_refl _), List.take_of_length_le (by omega)] at h6
  clear hb
  refine goW ?_
  refine Ai ?_; simp [AD, AB, *]
theorem Gq (H : Heap) (i h : Int) (w : V) (ws : List Int) (hw : Sl 1 AH H w ws) (hl : ws.length ≤ 2 ^ 47) : Call Tryz.prog 86 [.agg [.int .i64 i, .int .i64 h], w] H (.bool (fits i h ws)) H := by
 refine AJ fit mixed Tryz.func86 rfl rfl rfl (by kernel_rfl) rfl ?_
 have hlen := hw.len T27 rfl
 have hw' := hw.mono (List.prefix_append H [.row [.int .i64 i, .int .i64 h] true])
 have c1 := GL (H ++ [.row [.int .i64 i, .int .i64 h] true]) i h
 have c3 := DC (H ++ [.row [.int .i64 i, .int .i64 h] true]) w ws hw' hl
 cases hs : BL i h
 ·rw [hs] at c1
  have hfin : fits i h ws = false := by simp [fits, hs]
  refine goW ?_
  refine AA c1 ?_
  refine goW ?_
  refine Ai ?_; simp [AD, AB, *]
 ·rw [hs] at c1
  obtain ⟨i, h, rfl, rfl, hi1, hi2, hh1, hh2⟩ := MZ hs
  have c2 := Oc (H ++ [.row [.int .i64 i, .int .i64 h] true]) i h hi2 hh2
  have hfin : fits i h ws = (BF ws && ((ws.length : Int) == ((BA i h : Nat) : Int))) := by rw [fits, hs, Bool.true_and, Rt, GW]
  clear hi1 hi2 hh1 hh2 hl hs
  refine goW ?_
  refine AA c1 ?_
  refine goW ?_
  refine AA c3 ?_
  refine goW ?_
  first | refine Br (fun hb => ?_) (fun hb => ?_) | refine Bp (fun hb => ?_) (fun hb => ?_)
  ·refine goW ?_
   refine AA c2 ?_
   refine goW ?_
   refine AL (by simp only [resRf, resRs, resR]; first | done | rfl) ⟨?_, by first | exact List.prefix_refl _ | exact List.prefix_append _ _ | assumption | (refine List.IsPrefix.trans (by assumption) (List.prefix_append _ _)) | (simp only [List.append_assoc, List.cons_append, List.nil_append, List.set_cons_zero, List.set_cons_succ]; exact ⟨_, by simp only [List.append_assoc, List.cons_append, List.nil_append]; rfl⟩)⟩
   simp [AD, AB, hfin, hb]
  ·refine goW ?_
   refine AL (by simp only [resRf, resRs, resR]; first | done | rfl) ⟨?_, by first | exact List.prefix_refl _ | exact List.prefix_append _ _ | assumption | (refine List.IsPrefix.trans (by assumption) (List.prefix_append _ _)) | (simp only [List.append_assoc, List.cons_append, List.nil_append, List.set_cons_zero, List.set_cons_succ]; exact ⟨_, by simp only [List.append_assoc, List.cons_append, List.nil_append]; rfl⟩)⟩
   simp [AD, AB, hfin, hb]
def mixes : Nat → Nat → Nat
 | 0, x => x
 | j + 1, x => Jt (mixes j x)
theorem OM (x : Nat) : mixes 0 x = x := by rw [mixes]
theorem OL (j x : Nat) : mixes (j + 1) x = Jt (mixes j x) := by rw [mixes]
theorem Ss (x : Nat) : mixes 3 x = Jt (Jt (Jt x)) := by simp only [mixes]
-- the document's
theorem OX (H : Heap) (s k : Nat) (hs : s ≤ 65535) (hk : k ≤ 1048576) : Call Tryz.prog 73 [.int .i64 s, .int .i64 k] H (.tup [.int .i64 (Db s k : Nat), .int .i64 0]) H := by
 refine AJ fit mixed Tryz.func73 rfl rfl rfl (by kernel_rfl) rfl ?_
 have c1 := DM H s 0 65535
 have c2 := DM H k 0 1048576
 rw [within_iff.2 ⟨by omega, by omega⟩] at c1 c2
 obtain ⟨a0, b0, c0, d0, e1, e2, e3, e4, _, e5⟩ := QK hs hk
 have e6 : (d0 : Int).tmod 2147483648 = ((Li s k : Nat) : Int) := by rw [Int.tmod_eq_emod_of_nonneg (by omega), ← e5]; omega
 have l0 : Li s k < 2147483648 := Nat.mod_lt _ (by decide)
 clear hs hk e5
 refine goW ?_
 refine AA c1 ?_
 refine goW ?_
 refine AA c2 ?_
 refine goW ?_
 refine AE (fun hb => ?_) (fun hb => ?_)
 ·cases hb
 clear hb c1 c2
 refine goW ?_
 refine AT (fun c ρ h => ∃ j, j ≤ 3 ∧ c = 3 - j ∧ h = H ∧ ρ 6 = .int .i64 (mixes j (Li s k) : Nat) ∧ ρ 7 = .int .i64 (j : Nat)) ⟨0, by decide, rfl, rfl, by rw [OM]; rfl, rfl⟩ ?_
 clear e1 e2 e3 e4 e6
 rintro _ ρ _ ⟨j, hj, rfl, rfl, h6, h7⟩
 obtain ⟨x, hx⟩ : ∃ x, mixes j (Li s k) = x := ⟨_, rfl⟩
 rw [hx] at h6
 have hlt : x < 2147483648 := by
  rw [← hx]
  cases j with
  | zero => rw [OM]; exact l0
  | succ j => rw [OL]; exact RF _
 refine goW ?_
 refine AE (fun hb => ?_) (fun hb => ?_)
 ·have hj' : j < 3 := by have : (j : Int) < 3 := by simpa using hb
                         omega
  clear hb
  obtain ⟨a1, b1, c1', f1, f2, f3, f4, _, f5, hb1⟩ := LP hlt
  have f6 : (c1' : Int).tmod 2147483648 = ((Jt x : Nat) : Int) := by rw [Int.tmod_eq_emod_of_nonneg (by omega), ← f5]; omega
  have hw := AG (n := j) (by omega)
  have hnext : mixes (j + 1) (Li s k) = Jt x := by rw [OL, hx]
  clear f5 hlt hx
  refine goW ?_
  refine ⟨3 - (j + 1), by omega, j + 1, hj', rfl, rfl, ?_⟩
  rw [hnext]
  clear hnext
  simp [AD, AB, *]
 ·have hj' : j = 3 := by have : ¬ (j : Int) < 3 := by simpa using hb
                         omega
  subst hj'
  clear hb
  have j1 : ((x : Nat) : Int).fdiv (2 ^ min (Int.toNat 8) IntKind.i64.bits) = ((x / 2 ^ 8 : Nat) : Int) := Vb x 8 (by decide)
  have j2 : ((x / 2 ^ 8 : Nat) : Int).tmod 65536 = ((x / 256 % 65536 : Nat) : Int) := by rw [Int.tmod_eq_emod_of_nonneg (by omega)]; omega
  have hd : Db s k = x / 256 % 65536 := by rw [← hx, Ss, Db]
  rw [hd]
  clear hd hx hlt
  refine goW ?_
  refine AL (by simp only [resRf, resRs, resR]; first | done | rfl) ⟨?_, by first | exact List.prefix_refl _ | exact List.prefix_append _ _ | assumption | (refine List.IsPrefix.trans (by assumption) (List.prefix_append _ _)) | (simp only [List.append_assoc, List.cons_append, List.nil_append, List.set_cons_zero, List.set_cons_succ]; exact ⟨_, by simp only [List.append_assoc, List.cons_append, List.nil_append]; rfl⟩)⟩
  simp only [AD, AB]
  rfl
theorem LX (H : Heap) (s k b : Nat) (hs : s ≤ 65535) (hk : k ≤ 1048576) (hb1 : 1 ≤ b) (hb2 : b ≤ 65536) : Call Tryz.prog 131 [.int .i64 s, .int .i64 k, .int .i64 b] H (.tup [.int .i64 (DQ s k b : Nat), .int .i64 0]) H := by
 refine AJ fit mixed Tryz.func131 rfl rfl rfl (by kernel_rfl) rfl ?_
 have c1 := OX H s k hs hk
 have c2 := DM H b 1 65536
 rw [within_iff.2 ⟨by omega, by omega⟩] at c2
 have hlt := Ho s k
 obtain ⟨x, hx⟩ : ∃ x, Db s k = x := ⟨_, rfl⟩
 have hp : DQ s k b = x * b / 65536 := by unfold DQ; rw [hx]
 rw [hx] at c1 hlt
 rw [hp]
 have hxb : x * b ≤ 65536 * 65536 := Nat.mul_le_mul (by omega) hb2
 have w1 : IntKind.i64.wrap ((x : Int) * (b : Int)) = ((x * b : Nat) : Int) := by rw [← Int.natCast_mul]; exact Am (by omega)
 have w2 : ((x * b : Nat) : Int).fdiv (2 ^ min (Int.toNat 16) IntKind.i64.bits) = ((x * b / 65536 : Nat) : Int) := Vb (x * b) 16 (by decide)
 clear hx hp hxb hs hk hb1 hb2 hlt
 refine goW ?_
 refine AA c1 ?_
 refine goW ?_
 refine AA c2 ?_
 refine goW ?_
 refine AE (fun hb => ?_) (fun hb => ?_)
 ·cases hb
 clear hb
 refine goW ?_
 refine AL (by simp only [resRf, resRs, resR]; first | done | rfl) ⟨?_, by first | exact List.prefix_refl _ | exact List.prefix_append _ _ | assumption | (refine List.IsPrefix.trans (by assumption) (List.prefix_append _ _)) | (simp only [List.append_assoc, List.cons_append, List.nil_append, List.set_cons_zero, List.set_cons_succ]; exact ⟨_, by simp only [List.append_assoc, List.cons_append, List.nil_append]; rfl⟩)⟩
 simp only [AD, AB]
 rfl
theorem Uq (H : Heap) (s m t n : Nat) (hs : s ≤ 65535) (hm : m ≤ 7) (ht : t ≤ 32) (hn1 : 1 ≤ n) (hn2 : n ≤ 8) : Call Tryz.prog 125 [.int .i64 s, .int .i64 m, .int .i64 t, .int .i64 n] H (.tup [.int .i64 (DQ s (4096 * m + t) n : Nat), .int .i64 0]) H := by
 refine AJ fit mixed Tryz.func125 rfl rfl rfl (by kernel_rfl) rfl ?_
 have c1 := DM H s 0 65535
 have c2 := DM H m 0 7
 have c4 := DM H t 0 32
 have c5 := DM H n 1 8
 rw [within_iff.2 ⟨by omega, by omega⟩] at c1 c2 c4 c5
 have w1 : IntKind.i64.wrap (4096 * (m : Int)) = ((4096 * m : Nat) : Int) := by rw [show 4096 * (m : Int) = ((4096 * m : Nat) : Int) by omega]; exact Am (by omega)
 have w2 : IntKind.i64.wrap (((4096 * m : Nat) : Int) + (t : Int)) = ((4096 * m + t : Nat) : Int) := by rw [← Int.natCast_add]; exact Am (by omega)
 have c3 := LX H s (4096 * m + t) n hs (by omega) hn1 (by omega)
 clear hs hm ht hn1 hn2
 refine goW ?_
 refine AA c1 ?_
 refine goW ?_
 refine AA c2 ?_
 refine goW ?_
 refine AA c4 ?_
 refine goW ?_
 refine AA c5 ?_
 refine goW ?_
 refine AE (fun hb => ?_) (fun hb => ?_)
 ·cases hb
 clear hb
 refine goW ?_
 refine AA c3 ?_
 refine goW ?_
 refine Ai ?_; simp [AD, AB, *]
theorem NB {ws : List Int} (h : BF ws = true) (a n : Nat) : BF ((ws.drop a).take n) = true := by
 simp only [BF, Bool.and_eq_true, decide_eq_true_eq, List.all_eq_true] at h ⊢
 refine ⟨by simp; omega, fun x hx => h.2 x ?_⟩
 exact List.mem_of_mem_drop (List.mem_of_mem_take hx)
theorem Yf (x : Int) : CA (PQ x) = true := by
 have := Ry x (a := -65536) (b := 65536) (by decide)
 unfold PQ
 exact within_iff.2 ⟨by omega, by omega⟩
theorem Tm {hs : List Int} (h : hs.length ≤ 16) : BF (FM hs) = true := by
 simp only [BF, Bool.and_eq_true, decide_eq_true_eq, List.all_eq_true]
 refine ⟨by simpa [FM] using h, fun x hx => ?_⟩
 obtain ⟨y, _, rfl⟩ := List.mem_map.1 hx
 exact Yf y
theorem bR (H : Heap) (x : Int) (hx : CA x = true) : Call Tryz.prog 219 [.int .i64 x] H (.tup [.int .i64 (PQ x), .int .i64 0]) H := by
 refine AJ fit mixed Tryz.func219 rfl rfl rfl (by kernel_rfl) rfl ?_
 have c1 := Il H x
 rw [hx] at c1
 have c2 := Gr H x (-65536) 65536 (by decide)
 have c3 : Call Tryz.prog 184 _ H (.int .i64 (PQ x)) H := c2
 clear hx c2
 refine goW ?_
 refine AA c1 ?_
 refine goW ?_
 refine AE (fun hb => ?_) (fun hb => ?_)
 ·cases hb
 refine goW ?_
 refine AA c3 ?_
 refine goW ?_
 refine Ai ?_; simp [AD, AB, *]
theorem XX (H : Heap) (x : Int) (hx : CA x = true) : Call Tryz.prog 181 [.int .i64 x] H (.tup [.int .i64 (RV x), .int .i64 0]) H := by
 refine AJ fit mixed Tryz.func181 rfl rfl rfl (by kernel_rfl) rfl ?_
 have c1 := Il H x
 rw [hx] at c1
 clear hx
 refine goW ?_
 refine AA c1 ?_
 refine goW ?_
 refine AE (fun hb => ?_) (fun hb => ?_)
 ·cases hb
 clear hb
 repeat' (first | (refine Bs ?_; refine CH ?_) | (refine Bz ?_; refine CZ ?_) | (refine CG ?_; first | refine BO ?_ | refine At ?_) | (refine CF ?_; first | refine BS ?_ | refine Aw ?_) | refine AO ?_ | refine AK ?_ | refine Ae (by decide +kernel) ?_ | refine AW ?_ | refine BN ?_ | refine BM ?_ | refine Ah ?_ | refine As ?_ | refine Ag ?_ | refine AR ?_ | refine Ar ?_ | refine Ad ?_ | refine AS ?_ | refine Aq ?_ | refine Ac ?_ | refine AV rfl ?_ | first | refine Br (fun hb => ?_) (fun hb => ?_) | refine Bp (fun hb => ?_) (fun hb => ?_))
 all_goals refine AE (fun hb => ?_) (fun hb => ?_)
 all_goals (repeat (first | (refine Bs ?_; refine CH ?_) | (refine Bz ?_; refine CZ ?_) | (refine CG ?_; first | refine BO ?_ | refine At ?_) | (refine CF ?_; first | refine BS ?_ | refine Aw ?_) | refine AO ?_ | refine AK ?_ | refine Ae (by decide +kernel) ?_ | refine AW ?_ | refine BN ?_ | refine BM ?_ | refine Ah ?_ | refine As ?_ | refine Ag ?_ | refine AR ?_ | refine Ar ?_ | refine Ad ?_ | refine AS ?_ | refine Aq ?_ | refine Ac ?_ | refine AV rfl ?_))
 all_goals refine Ai ?_; simp [AD, AB, *]
 all_goals simp_all [RV]
 all_goals (first | done | omega)
theorem Ik (f : Nat → Int) (k : Nat) : (List.range k).map f ++ [f k] = (List.range (k + 1)).map f := by rw [List.range_succ, List.map_append]; rfl
theorem TM (H : Heap) (x : V) (hs : List Int) (hx : Sl 1 AH H x hs) (hl : hs.length ≤ 2 ^ 40) (hmay : ∀ y ∈ hs, CA y = true) :
  ∃ u H', Call Tryz.prog 179 [x] H u H' ∧ BR 1 AH H H' u (FM hs) := by
 suffices hgoal : ∃ u H', BR 1 AH H H' u (FM hs) ∧ Call Tryz.prog 179 [x] H u H' by
  obtain ⟨u, H', h1, h2⟩ := hgoal
  exact ⟨u, H', h2, h1⟩
 refine CY fit mixed Tryz.func179 rfl rfl rfl (by kernel_rfl) ?_
 obtain ⟨n, hn⟩ : ∃ n, hs.length = n := ⟨_, rfl⟩
 have hlen := hx.len T27 rfl
 rw [hn] at hlen
 refine goW ?_
 refine AT (fun c ρ hp => ∃ k u, k ≤ n ∧ c = n - k ∧ BR 1 AH H hp u (FM (hs.take k)) ∧ ρ 0 = x ∧ ρ 3 = u ∧ ρ 4 = .int .i64 (k : Nat)) ⟨0, .AN, Nat.zero_le _, rfl, BR.nil (List.prefix_refl _), rfl, rfl, rfl⟩ ?_
 rintro _ ρ hp ⟨k, u, hk, rfl, hm, h0, h3, h4⟩
 refine goW ?_
 refine AE (fun hb => ?_) (fun hb => ?_)
 ·have hk' : k < n := by simpa using hb
  clear hb
  have hget := getD_some (xs := hs) (k := k) (by omega)
  obtain ⟨b, o, _, hi, rfl, _, hlo, _⟩ := (hx.mono hm.1).get T27 rfl T3 rfl hget
  have ho := AF T3 rfl hlo
  have c1 := bR hp (hs.getD k 0) (hmay _ (List.mem_iff_getElem?.2 ⟨k, hget⟩))
  obtain ⟨v', H', n1, a1, m1⟩ := Gl hm (PQ (hs.getD k 0)) (by simp [FM]; omega)
  have hnext : FM (hs.take k) ++ [PQ (hs.getD k 0)] = FM (hs.take (k + 1)) := by rw [List.take_add_one, hget]; simp [FM]
  rw [hnext] at m1
  have hw := AG (n := k) (by omega)
  clear hnext hx hget hlo hlen hm
  refine goW ?_
  refine AA c1 ?_
  refine goW ?_
  refine EG n1 a1 ?_
  refine goW ?_
  refine ⟨n - (k + 1), by omega, k + 1, v', hk', rfl, m1, ?_⟩
  simp [AD, AB, *]
 ·have hk' : k = n := by have : ¬ k < n := by simpa using hb
                         omega
  subst hk'
  rw [List.take_of_length_le (by omega)] at hm
  clear hb
  refine goW ?_
  refine AL (by simp only [resRf, resRs, resR]; first | done | rfl) ?_
  simp only [AD, AB]
  simp only [Nat.reduceEqDiff, reduceIte, Option.some.injEq, reduceCtorEq, h3]
  exact hm
theorem Oa (H : Heap) (i h : Nat) (w x : V) (ws xs : List Int) (hw : Sl 1 AH H w ws) (hx : Sl 1 AH H x xs) (hf : fits i h ws = true) (hfeed : Dz i xs = true) :
  ∃ u H', Call Tryz.prog 178 [.agg [.int .i64 i, .int .i64 h], w, x] H (.tup [u, .int .i64 0]) H' ∧ BR 1 AH H H' u (Et i h ws xs) := by
 suffices hgoal : ∃ v H', (∃ u, v = .tup [u, .int .i64 0] ∧ BR 1 AH H H' u (Et i h ws xs)) ∧ Call Tryz.prog 178 [.agg [.int .i64 i, .int .i64 h], w, x] H v H' by
  obtain ⟨_, H', ⟨u, rfl, h1⟩, h2⟩ := hgoal
  exact ⟨u, H', h2, h1⟩
 refine CY fit mixed Tryz.func178 rfl rfl rfl (by kernel_rfl) ?_
 obtain ⟨hsm, hvw, i', h', hi', hh', hi1, hi2, hh1, hh2, hs⟩ := Ej hf
 obtain rfl : i = i' := Int.ofNat_inj.1 hi'
 obtain rfl : h = h' := Int.ofNat_inj.1 hh'
 obtain ⟨hxl, hvx⟩ := CC hfeed
 have hxl' : xs.length = i := Int.ofNat_inj.1 hxl
 have hwl := BP hvw
 obtain ⟨H1, hH1⟩ : ∃ H1, H ++ [.row [.int .i64 i, .int .i64 h] true] = H1 := ⟨_, rfl⟩
 have p1 : H <+: H1 := by rw [← hH1]; exact List.prefix_append _ _
 have q0 : ∀ H2, H1 <+: H2 → loadV T 3 H2 H.length 0 = some (.int .i64 i) := fun H2 hp => by
  refine AF T3 rfl (Bc hp ?_)
  rw [← hH1, Ab]; rfl
 have q1 : ∀ H2, H1 <+: H2 → loadV T 3 H2 H.length 1 = some (.int .i64 h) := fun H2 hp => by
  refine AF T3 rfl (Bc hp ?_)
  rw [← hH1, Ab]; rfl
 have l0 : loadV T 23 H1 H.length 0 = some (.agg [.int .i64 i, .int .i64 h]) := by
  refine AZ T23 rfl ?_
  rw [← hH1, Ab]; rfl
 have c1 := Gq H1 i h w ws (hw.mono p1) (by omega)
 have c2 := QF H1 i h x xs (hx.mono p1) (by omega)
 rw [hf] at c1
 rw [hfeed] at c2
 clear hf hfeed hi' hh'
 have hsmall := Cr hi2 hh2
 have w1 : IntKind.i64.wrap ((i : Int) + 1) = ((i + 1 : Nat) : Int) := AG (by omega)
 refine goW ?_
 refine Bb (h' := H1) hH1 ?_
 refine goW ?_
 refine AA c1 ?_
 refine goW ?_
 refine AA c2 ?_
 refine goW ?_
 refine AE (fun hb => ?_) (fun hb => ?_)
 ·cases hb
 clear hb c1 c2 l0
 refine goW ?_
 refine AT (fun c ρ hp => ∃ k u, k ≤ h ∧ c = h - k ∧ BR 1 AH H1 hp u ((List.range k).map (unit i ws xs)) ∧ ρ 1 = w ∧ ρ 2 = x ∧ ρ 3 = .ptr H.length 0 ∧ ρ 8 = u ∧ ρ 9 = .int .i64 (k : Nat)) ⟨0, .AN, Nat.zero_le _, rfl, BR.nil (List.prefix_refl _), rfl, rfl, rfl, rfl, rfl⟩ ?_
 rintro _ ρ hp ⟨k, u, hk, rfl, hm, h1, h2, h3, h8, h9⟩
 have l0 := q0 hp hm.1
 have l1 := q1 hp hm.1
 refine goW ?_
 refine AE (fun hb => ?_) (fun hb => ?_)
 ·have hk' : k < h := by simpa using hb
  clear hb
  have hue := Lm (i := i) hk'
  have hns : BA i h = h * (i + 1) + h + 1 := rfl
  obtain ⟨a, ha⟩ : ∃ a, k * (i + 1) = a := ⟨_, rfl⟩
  have hf : unit i ws xs k = plus (ws.getD (k * (i + 1) + i) 0) (dot ((ws.drop (k * (i + 1))).take i) xs) := rfl
  rw [ha] at hue hf
  have hw2 := hw.mono (p1.trans hm.1)
  obtain ⟨pt, hpt, hps⟩ := hw2.part (l := a) (k := a + i) (by omega) (by omega)
  rw [List.drop_take, Nat.add_sub_cancel_left] at hps
  have hget := getD_some (xs := ws) (k := a + i) (by omega)
  obtain ⟨b2, o2, _, hi2', rfl, _, hlo2, _⟩ := hw2.get T27 rfl T3 rfl hget
  have ho2 := AF T3 rfl hlo2
  have w2 : IntKind.i64.wrap ((k : Int) * ((i + 1 : Nat) : Int)) = (a : Int) := by rw [← Int.natCast_mul, ha]; exact Am (by omega)
  have w3 : IntKind.i64.wrap ((a : Int) + (i : Int)) = ((a + i : Nat) : Int) := by rw [← Int.natCast_add]; exact Am (by omega)
  have w4 := AG (n := k) (by omega)
  have c1 := Vy hp pt x _ xs hps (hx.mono (p1.trans hm.1)) (by simp; omega) (NB hvw _ _) hvx
  have c2 := Fp hp (ws.getD (a + i) 0) (dot ((ws.drop a).take i) xs)
  rw [← hf] at c2
  obtain ⟨v', H', n1, a1, m1⟩ := Gl hm (unit i ws xs k) (by simp; omega)
  rw [Ik] at m1
  clear hf hue hns ha hps hget hlo2 hw2 hsmall hs hwl hxl hxl' hi1 hi2 hh1 hh2 hvw hvx hsm hm
  refine goW ?_
  refine AA c1 ?_
  refine goW ?_
  refine AA c2 ?_
  refine goW ?_
  refine EG n1 a1 ?_
  refine goW ?_
  refine ⟨h - (k + 1), by omega, k + 1, v', hk', rfl, m1, ?_⟩
  simp [AD, AB, *]
 ·have hk' : k = h := by have : ¬ k < h := by simpa using hb
                         omega
  subst hk'
  have hm2 := hm.low p1
  clear hb
  refine goW ?_
  refine AL (by simp only [resRf, resRs, resR]; first | done | rfl) ⟨u, ?_, hm2⟩
  simp [AD, AB, *]
theorem Vz (H : Heap) (i h : Nat) (w x : V) (ws xs : List Int) (hw : Sl 1 AH H w ws) (hx : Sl 1 AH H x xs) (hf : fits i h ws = true) (hfeed : Dz i xs = true) :
  Call Tryz.prog 177 [.agg [.int .i64 i, .int .i64 h], w, x] H (.tup [.int .i64 (Mt i h ws xs), .int .i64 0]) H := by
 refine AJ fit mixed Tryz.func177 rfl rfl rfl (by kernel_rfl) rfl ?_
 obtain ⟨hsm, hvw, i', h', hi', hh', hi1, hi2, hh1, hh2, hs⟩ := Ej hf
 obtain rfl : i = i' := Int.ofNat_inj.1 hi'
 obtain rfl : h = h' := Int.ofNat_inj.1 hh'
 obtain ⟨H1, hH1⟩ : ∃ H1, H ++ [.row [.int .i64 i, .int .i64 h] true] = H1 := ⟨_, rfl⟩
 have p1 : H <+: H1 := by rw [← hH1]; exact List.prefix_append _ _
 have q0 : ∀ H2, H1 <+: H2 → loadV T 3 H2 H.length 0 = some (.int .i64 i) := fun H2 hp => by
  refine AF T3 rfl (Bc hp ?_)
  rw [← hH1, Ab]; rfl
 have q1 : ∀ H2, H1 <+: H2 → loadV T 3 H2 H.length 1 = some (.int .i64 h) := fun H2 hp => by
  refine AF T3 rfl (Bc hp ?_)
  rw [← hH1, Ab]; rfl
 have l0 : loadV T 23 H1 H.length 0 = some (.agg [.int .i64 i, .int .i64 h]) := by
  refine AZ T23 rfl ?_
  rw [← hH1, Ab]; rfl
 obtain ⟨u, H2, c1, hm⟩ := Oa H1 i h w x ws xs (hw.mono p1) (hx.mono p1) hf hfeed
 have r0 := q0 H2 hm.1
 have r1 := q1 H2 hm.1
 have hul : (Et i h ws xs).length = h := by simp [Et]
 obtain ⟨ac, H3, c2, hm2⟩ := TM H2 u _ hm.sl (by rw [hul]; omega) (fun y hy => by obtain ⟨k, _, rfl⟩ := List.mem_map.1 hy; exact JQ _ _)
 have r1' := q1 H3 (hm.1.trans hm2.1)
 have hns : BA i h = h * (i + 1) + h + 1 := rfl
 have hsmall := Cr hi2 hh2
 obtain ⟨a, ha⟩ : ∃ a, h * (i + 1) = a := ⟨_, rfl⟩
 rw [ha] at hns hsmall
 have hw2 := hw.mono (p1.trans (hm.1.trans hm2.1))
 obtain ⟨pt, hpt, hps⟩ := hw2.part (l := a) (k := a + h) (by omega) (by omega)
 rw [List.drop_take, Nat.add_sub_cancel_left] at hps
 have hget := getD_some (xs := ws) (k := a + h) (by omega)
 obtain ⟨b2, o2, _, hi2', rfl, _, hlo2, _⟩ := hw2.get T27 rfl T3 rfl hget
 have ho2 := AF T3 rfl hlo2
 have w1 : IntKind.i64.wrap ((i : Int) + 1) = ((i + 1 : Nat) : Int) := AG (by omega)
 have w2 : IntKind.i64.wrap ((h : Int) * ((i + 1 : Nat) : Int)) = (a : Int) := by rw [← Int.natCast_mul, ha]; exact Am (by omega)
 have w3 : IntKind.i64.wrap ((a : Int) + (h : Int)) = ((a + h : Nat) : Int) := by rw [← Int.natCast_add]; exact Am (by omega)
 have c3 := Vy H3 pt ac _ _ hps hm2.sl (by simp [FM, hul]; omega) (NB hvw _ _) (Tm (by rw [hul]; omega))
 have c4 := Fp H3 (ws.getD (a + h) 0) (dot ((ws.drop a).take h) (FM (Et i h ws xs)))
 have hf4 : Mt i h ws xs = plus (ws.getD (h * (i + 1) + h) 0) (dot ((ws.drop (h * (i + 1))).take h) (FM (Et i h ws xs))) := rfl
 rw [ha] at hf4
 rw [← hf4] at c4
 have p3 : H2 <+: H3 := hm2.1
 have pend : H <+: H3 := p1.trans (hm.1.trans hm2.1)
 clear hf4 hns hsmall ha hps hget hlo2 hw2 hs hi1 hi2 hh1 hh2 hvw hsm hm hm2 hul hi' hh' hf hfeed q0 q1 hw hx p1
 refine goW ?_
 refine Bb (h' := H1) hH1 ?_
 refine goW ?_
 refine AA c1 ?_
 refine goW ?_
 refine AE (fun hb => ?_) (fun hb => ?_)
 ·cases hb
 clear hb c1
 refine goW ?_
 refine Be c2 (.inl p3) ?_
 refine goW ?_
 refine AI c3 ?_
 refine goW ?_
 refine AA c4 ?_
 refine goW ?_
 refine AL (by simp only [resRf, resRs, resR]; first | done | rfl) ⟨?_, pend⟩
 simp [AD, AB]
theorem SL {f : Nat → List Int} {n : Nat} (hf : ∀ k, (f k).length = n) {k j : Nat} (hj : j < n) : ∀ {h : Nat}, k < h → ((List.range h).flatMap f)[k * n + j]? = (f k)[j]?
 | 0, hk => by omega
 | h + 1, hk => by
  rw [← Ly]
  by_cases hkh : k < h
  ·have h1 : (k + 1) * n ≤ h * n := Nat.mul_le_mul_right _ hkh
   rw [Nat.add_mul] at h1
   rw [List.getElem?_append_left (by rw [Fg hf]; omega)]
   exact SL hf hj hkh
  ·obtain rfl : k = h := by omega
   rw [List.getElem?_append_right (by rw [Fg hf]; omega), Fg hf, Nat.add_sub_cancel_left]
theorem RS (H : Heap) (i h : Nat) (y : Int) (w x : V) (ws xs : List Int) (hw : Sl 1 AH H w ws) (hx : Sl 1 AH H x xs) (hf : fits i h ws = true) (hfeed : Dz i xs = true) (hy : CA y = true) :
  ∃ u H', Call Tryz.prog 126 [.agg [.int .i64 i, .int .i64 h], w, .agg [x, .int .i64 y]] H (.tup [u, .int .i64 0]) H' ∧ BR 1 AH H H' u (KT i h ws xs y) := by
 suffices hgoal : ∃ v H', (∃ u, v = .tup [u, .int .i64 0] ∧ BR 1 AH H H' u (KT i h ws xs y)) ∧ Call Tryz.prog 126 [.agg [.int .i64 i, .int .i64 h], w, .agg [x, .int .i64 y]] H v H' by
  obtain ⟨_, H', ⟨u, rfl, h1⟩, h2⟩ := hgoal
  exact ⟨u, H', h2, h1⟩
 refine CY fit mixed Tryz.func126 rfl rfl rfl (by kernel_rfl) ?_
 obtain ⟨hsm, hvw, i', h', hi', hh', hi1, hi2, hh1, hh2, hs⟩ := Ej hf
 obtain rfl : i = i' := Int.ofNat_inj.1 hi'
 obtain rfl : h = h' := Int.ofNat_inj.1 hh'
 obtain ⟨hxl, hvx⟩ := CC hfeed
 have hxl' : xs.length = i := Int.ofNat_inj.1 hxl
 have hwl := BP hvw
 have hsmall := Cr hi2 hh2
 obtain ⟨rb, hrb⟩ : ∃ rb, (H ++ [.row [.int .i64 i, .int .i64 h] true] : Heap).length = rb := ⟨_, rfl⟩
 obtain ⟨H1, hH1⟩ : ∃ H1, H ++ [.row [.int .i64 i, .int .i64 h] true] ++ [.row [x, .int .i64 y] true] = H1 := ⟨_, rfl⟩
 have p1 : H <+: H1 := by rw [← hH1, List.append_assoc]; exact List.prefix_append _ _
 have q0 : ∀ H2, H1 <+: H2 → loadV T 27 H2 rb 0 = some x := fun H2 hp => by
  refine AF T27 rfl (Bc hp ?_)
  rw [← hH1, ← hrb, Ab]; rfl
 have q1 : ∀ H2, H1 <+: H2 → loadV T 3 H2 rb 1 = some (.int .i64 y) := fun H2 hp => by
  refine AF T3 rfl (Bc hp ?_)
  rw [← hH1, ← hrb, Ab]; rfl
 have q2 : ∀ H2, H1 <+: H2 → loadV T 3 H2 H.length 0 = some (.int .i64 i) := fun H2 hp => by
  refine AF T3 rfl (Bc hp ?_)
  rw [← hH1, List.append_assoc, Ab]; rfl
 have q3 : ∀ H2, H1 <+: H2 → loadV T 3 H2 H.length 1 = some (.int .i64 h) := fun H2 hp => by
  refine AF T3 rfl (Bc hp ?_)
  rw [← hH1, List.append_assoc, Ab]; rfl
 have q4 : ∀ H2, H1 <+: H2 → loadV T 23 H2 H.length 0 = some (.agg [.int .i64 i, .int .i64 h]) := fun H2 hp => by
  refine AZ T23 rfl (Bc hp ?_)
  rw [← hH1, List.append_assoc, Ab]; rfl
 have lr : loadV T 111 H1 rb 0 = some (.agg [x, .int .i64 y]) := by
  refine AZ GD rfl ?_
  rw [← hH1, ← hrb, Ab]; rfl
 have c1 := Gq H1 i h w ws (hw.mono p1) (by omega)
 have c2 := Ob H1 i h y x xs (hx.mono p1) (by omega)
 rw [hf] at c1
 rw [hsm, hfeed, hy] at c2
 have c3 := Vz H1 i h w x ws xs (hw.mono p1) (hx.mono p1) hf hfeed
 obtain ⟨u10, H2, c4, hm10⟩ := Oa H1 i h w x ws xs (hw.mono p1) (hx.mono p1) hf hfeed
 obtain ⟨us, hus⟩ : ∃ us, Et i h ws xs = us := ⟨_, rfl⟩
 have husm : ∀ z ∈ us, CA z = true := by
  rw [← hus]
  intro z hz
  obtain ⟨k, _, rfl⟩ := List.mem_map.1 hz
  exact JQ _ _
 have husl : us.length = h := by rw [← hus]; simp [Et]
 rw [hus] at hm10
 obtain ⟨u12, H3, c5, hm12⟩ := TM H2 u10 us hm10.sl (by omega) husm
 obtain ⟨al, hal⟩ : ∃ al, FM us = al := ⟨_, rfl⟩
 have hall : al.length = h := by rw [← hal]; simp [FM, husl]
 rw [hal] at hm12
 obtain ⟨e, he⟩ : ∃ e, plus (Mt i h ws xs) (neg y) = e := ⟨_, rfl⟩
 have c6 : Call Tryz.prog 180 [.int .i64 (Mt i h ws xs), .int .i64 (IntKind.i64.wrap (0 - y))] H3 (.int .i64 e) H3 := by rw [← he]; exact Fp H3 _ _
 have c7 := Oc H3 i h hi2 hh2
 have p13 : H1 <+: H3 := hm10.1.trans hm12.1
 have l1 := q4 H1 (List.prefix_refl _)
 have l2 := q0 H1 (List.prefix_refl _)
 have l3 := q1 H3 p13
 have l4 := q2 H3 p13
 have l5 := q3 H3 p13
 have l6 := q4 H3 p13
 obtain ⟨a, ha⟩ : ∃ a, h * (i + 1) = a := ⟨_, rfl⟩
 obtain ⟨n, hn⟩ : ∃ n, BA i h = n := ⟨_, rfl⟩
 have hna : a + h + 1 = n := by rw [← hn, ← ha]; rfl
 rw [hn] at c7 hs
 have hsl10 := hm10.sl.mono hm12.1
 have hsl12 := hm12.sl
 have w1 : IntKind.i64.wrap ((i : Int) + 1) = ((i + 1 : Nat) : Int) := AG (by omega)
 have w2 : IntKind.i64.wrap ((h : Int) * ((i + 1 : Nat) : Int)) = (a : Int) := by rw [← Int.natCast_mul, ha]; exact Am (by omega)
 have w3 : IntKind.i64.wrap ((a : Int) + (h : Int)) = ((a + h : Nat) : Int) := by rw [← Int.natCast_add]; exact Am (by omega)
 -- what is to come out
 obtain ⟨G, hG⟩ : ∃ G, KT i h ws xs y = G := ⟨_, rfl⟩
 have hgr : G = (List.range h).flatMap (CR i h ws xs e us) ++ (al.map (fun a => times e a) ++ [e]) := by
  have hou : JZ i h ws us = Mt i h ws xs := by rw [Mt, hus]
  rw [← hG]; unfold KT; simp only [hus, hou, he, hal]
 have hrl : ∀ k, (CR i h ws xs e us k).length = i + 1 := fun k => by simp [CR, hxl']
 have hfl := Fg hrl h
 rw [ha] at hfl
 have hGl : G.length = n := by rw [hgr]; simp only [List.length_append, List.length_map, List.length_cons, List.length_nil, hfl, hall]; omega
 have g1 : ∀ k, k < h → ∀ j, j < i + 1 → G[k * (i + 1) + j]? = (CR i h ws xs e us k)[j]? := fun k hk j hj => by
  have hue := Lm (i := i) hk
  rw [hgr, List.getElem?_append_left (by rw [hfl, ← ha]; omega)]
  exact SL hrl hj hk
 have g2 : ∀ k, k < h → G[a + k]? = some (times e (al.getD k 0)) := fun k hk => by
  rw [hgr, List.getElem?_append_right (by rw [hfl]; omega), hfl, Nat.add_sub_cancel_left, List.getElem?_append_left (by simp [hall, hk]), List.getElem?_map, getD_some (by omega)]
  rfl
 have g3 : G[a + h]? = some e := by
  rw [hgr, List.getElem?_append_right (by rw [hfl]; omega), hfl, Nat.add_sub_cancel_left, List.getElem?_append_right (by simp [hall])]
  simp [hall]
 rw [hG]
 have hm0 := OB H3 n
 have p03 : H <+: H3 := p1.trans p13
 clear hgr hG hus hf hfeed hy hi' hh' hal he hm10 hm12 hsm hvx
 refine goW ?_
 refine Bb (h' := H1) hH1 ?_
 rw [hrb]
 refine goW ?_
 refine AA c1 ?_
 refine goW ?_
 refine AA c2 ?_
 refine goW ?_
 refine AE (fun hb => ?_) (fun hb => ?_)
 ·cases hb
 clear hb c1 c2
 refine Kl (fun ρ => ρ 1 = w ∧ ρ 3 = .ptr H.length 0 ∧ ρ 5 = .ptr rb 0) ⟨rfl, rfl, rfl⟩ ?_
 rintro ρ ⟨h1, h3, h5⟩
 refine goW ?_
 refine AA c3 ?_
 refine goW ?_
 refine AA c4 ?_
 refine goW ?_
 refine AA c5 ?_
 refine goW ?_
 refine AA c6 ?_
 refine goW ?_
 refine AA c7 ?_
 refine goW ?_
 refine LN T27 rfl T3 ?_
 refine Bb (h' := H3 ++ [.row (Bw [.int .i64 0] n) true]) rfl ?_
 refine goW ?_
 clear c3 c4 c5 c6 c7 l1 l2 l3 l4 l5 l6 lr
 refine AT (fun c ρ hp => ∃ k out, k ≤ h ∧ c = h - k ∧ BR 1 AH H3 hp (.slc H3.length 0 n n true 1) out ∧ Ts G (fun p => p < k * (i + 1) ∨ (a ≤ p ∧ p < a + k)) out ∧ ρ 1 = w ∧ ρ 3 = .ptr H.length 0 ∧ ρ 5 = .ptr rb 0 ∧ ρ 10 = u10 ∧ ρ 12 = u12 ∧ ρ 13 = .int .i64 e ∧ ρ 14 = .int .i64 a ∧ ρ 15 = .slc H3.length 0 n n true 1 ∧ ρ 16 = .int .i64 (k : Nat)) ⟨0, _, Nat.zero_le _, rfl, hm0, ⟨by simp [hGl], fun p hp => by omega⟩, h1, h3, h5, rfl, rfl, rfl, rfl, rfl, rfl⟩ ?_
 clear h1 h3 h5
 clear ρ
 rintro _ ρ hp ⟨k, out, hk, rfl, hm, hF, h1, h3, h5, h10, h12, h13, h14, h15, h16⟩
 have m1 := p13.trans hm.1
 have l1 := q3 hp m1
 refine goW ?_
 refine AE (fun hb => ?_) (fun hb => ?_)
 ·have hk' : k < h := by simpa using hb
  clear hb
  have hue := Lm (i := i) hk'
  have l0 := q2 hp m1
  have l2 := q0 hp m1
  have hol : out.length = n := by rw [hF.1, hGl]
  have hg1 := getD_some (xs := us) (k := k) (by omega)
  obtain ⟨b2, o2, _, hi2', rfl, _, hlo2, _⟩ := (hsl10.mono hm.1).get T27 rfl T3 rfl hg1
  have ho2 := AF T3 rfl hlo2
  have hg2 := getD_some (xs := ws) (k := a + k) (by omega)
  obtain ⟨b3, o3, _, hi3, rfl, _, hlo3, _⟩ := (hw.mono (p1.trans m1)).get T27 rfl T3 rfl hg2
  have ho3 := AF T3 rfl hlo3
  have c1 := XX hp (us.getD k 0) (husm _ (List.mem_iff_getElem?.2 ⟨k, hg1⟩))
  have c2 := EI hp e (ws.getD (a + k) 0)
  have c3 := EI hp (times e (ws.getD (a + k) 0)) (RV (us.getD k 0))
  obtain ⟨d, hd⟩ : ∃ d, times (times e (ws.getD (a + k) 0)) (RV (us.getD k 0)) = d := ⟨_, rfl⟩
  have hrow : CR i h ws xs e us k = xs.map (fun x => times d x) ++ [d] := by unfold CR; simp only [ha, hd]
  rw [hd] at c3
  obtain ⟨mm, hmm⟩ : ∃ mm, k * (i + 1) = mm := ⟨_, rfl⟩
  have w4 : IntKind.i64.wrap ((a : Int) + (k : Int)) = ((a + k : Nat) : Int) := by rw [← Int.natCast_add]; exact Am (by omega)
  have w5 : IntKind.i64.wrap ((k : Int) * ((i + 1 : Nat) : Int)) = (mm : Int) := by rw [← Int.natCast_mul, hmm]; exact Am (by omega)
  have w6 : IntKind.i64.wrap ((mm : Int) + (i : Int)) = ((mm + i : Nat) : Int) := by rw [← Int.natCast_add]; exact Am (by omega)
  have w7 := AG (n := k) (by omega)
  have hgk := g1 k hk'
  rw [hmm] at hgk hue hF
  have hma : mm + i < a := by omega
  clear g1 hd hg1 hg2 hlo2 hlo3
  refine goW ?_
  refine AA c1 ?_
  refine goW ?_
  refine AA c2 ?_
  refine goW ?_
  refine AA c3 ?_
  refine goW ?_
  refine AT (fun c ρ hp => ∃ j out, j ≤ i ∧ c = i - j ∧ BR 1 AH H3 hp (.slc H3.length 0 n n true 1) out ∧ Ts G (fun p => p < mm + j ∨ (a ≤ p ∧ p < a + k)) out ∧ ρ 1 = w ∧ ρ 3 = .ptr H.length 0 ∧ ρ 5 = .ptr rb 0 ∧ ρ 10 = u10 ∧ ρ 12 = u12 ∧ ρ 13 = .int .i64 e ∧ ρ 14 = .int .i64 a ∧ ρ 15 = .slc H3.length 0 n n true 1 ∧ ρ 16 = .int .i64 (k : Nat) ∧ ρ 19 = .int .i64 d ∧ ρ 20 = .int .i64 (j : Nat)) ⟨0, out, Nat.zero_le _, rfl, hm, by simpa using hF, h1, h3, h5, h10, h12, h13, h14, h15, h16, rfl, rfl⟩ ?_
  clear h1 h3 h5 h10 h12 h13 h14 h15 h16 c1 c2 c3 ho2 ho3 hi2' hi3 l0 l1 l2 hm hF m1 hol
  clear ρ
  clear out
  rintro _ ρ hp ⟨j, out, hj, rfl, hm, hF, h1, h3, h5, h10, h12, h13, h14, h15, h16, h19, h20⟩
  have m1 := p13.trans hm.1
  have l0 := q2 hp m1
  have hol : out.length = n := by rw [hF.1, hGl]
  refine goW ?_
  refine AE (fun hb => ?_) (fun hb => ?_)
  ·have hj' : j < i := by simpa using hb
   clear hb
   have l2 := q0 hp m1
   have hg := getD_some (xs := xs) (k := j) (by omega)
   obtain ⟨b2, o2, _, hi2', rfl, _, hlo2, _⟩ := (hx.mono (p1.trans m1)).get T27 rfl T3 rfl hg
   have ho2 := AF T3 rfl hlo2
   have c1 := EI hp d (xs.getD j 0)
   obtain ⟨b3, o3, H', hi3, hst, hm2⟩ := GR hm (k := mm + j) (by omega) (times d (xs.getD j 0))
   have hF2 := hF.put (D' := fun p => p < mm + (j + 1) ∨ (a ≤ p ∧ p < a + k)) (q := mm + j) (v := times d (xs.getD j 0)) (by
    rw [hgk j (by omega), hrow, List.getElem?_append_left (by simp; omega), List.getElem?_map, hg]; rfl) (fun p hp => by omega)
   have w8 : IntKind.i64.wrap ((mm : Int) + (j : Int)) = ((mm + j : Nat) : Int) := by rw [← Int.natCast_add]; exact Am (by omega)
   have w9 := AG (n := j) (by omega)
   clear hgk hg hlo2 hm hF hrow hrl w7 w6 w4 g2 g3
   refine goW ?_
   refine AI c1 ?_
   refine goW ?_
   refine ⟨i - (j + 1), by omega, j + 1, _, hj', rfl, hm2, hF2, ?_⟩
   simp [AD, AB, *]
  ·have hj' : j = i := by have : ¬ j < i := by simpa using hb
                          omega
   subst hj'
   clear hb
   obtain ⟨b3, o3, H4, hi3, hst3, hm3⟩ := GR hm (k := mm + j) (by omega) d
   have hF3 := hF.put (D' := fun p => p < mm + (j + 1) ∨ (a ≤ p ∧ p < a + k)) (q := mm + j) (v := d) (by
    rw [hgk j (by omega), hrow, List.getElem?_append_right (by simp; omega)]; simp [hxl']) (fun p hp => by omega)
   have hg1 := getD_some (xs := al) (k := k) (by omega)
   obtain ⟨b2, o2, _, hi2', rfl, _, hlo2, _⟩ := (hsl12.mono hm3.1).get T27 rfl T3 rfl hg1
   have ho2 := AF T3 rfl hlo2
   have c1 := EI H4 e (al.getD k 0)
   obtain ⟨b4, o4, H5, hi4, hst4, hm4⟩ := GR hm3 (k := a + k) (by simp; omega) (times e (al.getD k 0))
   have hF4 := hF3.put (D' := fun p => p < (k + 1) * (j + 1) ∨ (a ≤ p ∧ p < a + (k + 1))) (q := a + k) (g2 k hk') (fun p hp => by
    have : (k + 1) * (j + 1) = mm + (j + 1) := by rw [Nat.add_mul, hmm]; omega
    rw [this] at hp; omega)
   clear hgk hg1 hlo2 hm hm3 hF hF3 hrow hrl g2 g3
   refine goW ?_
   refine AA c1 ?_
   refine goW ?_
   refine ⟨h - (k + 1), by omega, k + 1, _, hk', rfl, hm4, hF4, ?_⟩
   simp [AD, AB, *]
 ·have hk' : k = h := by have : ¬ k < h := by simpa using hb
                         omega
  subst hk'
  clear hb
  have hol : out.length = n := by rw [hF.1, hGl]
  rw [ha] at hF
  obtain ⟨b3, o3, H4, hi3, hst3, hm3⟩ := GR hm (k := a + k) (by omega) e
  have hF3 := hF.put (D' := fun p => p < n) (q := a + k) g3 (fun p hp => by omega)
  have hout := hF3.all (fun p hp => by omega)
  rw [hout] at hm3
  have hm4 := hm3.low p03
  clear g1 g2 g3 hF hF3 hm hm3 hout hrl
  refine goW ?_
  refine AL (by simp only [resRf, resRs, resR]; first | done | rfl) ⟨_, ?_, hm4⟩
  simp [AD, AB, *]
theorem GK (H : Heap) (r m : Int) : Call Tryz.prog 135 [.agg [.int .i64 r, .int .i64 m]] H (.bool (BK r m)) H := by
 refine AJ fit mixed Tryz.func135 rfl rfl rfl (by kernel_rfl) rfl ?_
 refine goW ?_
 refine AA (DM ..) ?_
 refine goW ?_
 first | refine Br (fun hb => ?_) (fun hb => ?_) | refine Bp (fun hb => ?_) (fun hb => ?_)
 ·refine goW ?_
  refine AA (DM ..) ?_
  refine goW ?_
  refine Ai ?_; simp [AD, AB, *]
  simp_all [BK]
 ·refine goW ?_
  refine Ai ?_; simp [AD, AB, *]
  simp_all [BK]
theorem Gp (H : Heap) (w v : V) (ws vs : List Int) (r m t : Int) (hw : Sl 1 AH H w ws) (hv : Sl 1 AH H v vs) (lw : ws.length ≤ 2 ^ 47) (lv : vs.length ≤ 2 ^ 47) : Call Tryz.prog 124 [.agg (Cb w v r m t)] H (.bool (CT ws vs r m t)) H := by
 refine AJ fit mixed Tryz.func124 rfl rfl rfl (by kernel_rfl) rfl ?_
 obtain ⟨H1, hH1⟩ : ∃ H1, H ++ [.row (Cb w v r m t) true] = H1 := ⟨_, rfl⟩
 have p1 : H <+: H1 := by rw [← hH1]; exact List.prefix_append _ _
 have hg1 : H1[H.length]? = some (.row (Cb w v r m t) true) := by rw [← hH1]; simp
 have k0 := AU (q := 0) T27 rfl hg1 rfl
 have k1 := AU (q := 1) T27 rfl hg1 rfl
 have l4 := AU (q := 4) T3 rfl hg1 rfl
 have l2 : loadV T 80 H1 H.length 2 = some (.agg [.int .i64 r, .int .i64 m]) := by
  refine AZ T80 rfl ?_
  rw [← hH1, Ab]; rfl
 have hlen := hw.len T27 rfl
 have hlen2 := hv.len T27 rfl
 have c1 := DC H1 w ws (hw.mono p1) lw
 have c2 := DC H1 v vs (hv.mono p1) lv
 have c3 := GK H1 r m
 have c4 := DY H1 t 0 32
 have hfin : CT ws vs r m t = (BF ws && (BF vs && (decide (vs.length = ws.length) && (decide (ws.length > 0) && (BK r m && within t 0 32))))) := by
  unfold CT alike within
  simp only [List.all_cons, List.all_nil, decide_true, Bool.and_true]
  cases BF ws <;> cases BF vs <;> cases decide (vs.length = ws.length) <;> cases decide (ws.length > 0) <;> cases BK r m <;> cases decide (t ≥ 0) <;> simp
 have d1 : ((ws.length : Int) == (vs.length : Int)) = decide (vs.length = ws.length) := by apply Bool.eq_iff_iff.2; simp; omega
 have d2 : decide ((ws.length : Int) > 0) = decide (ws.length > 0) := by apply Bool.eq_iff_iff.2; simp
 rw [hfin]
 obtain ⟨r1, e1⟩ : ∃ q, BF ws = q := ⟨_, rfl⟩
 obtain ⟨r2, e2⟩ : ∃ q, BF vs = q := ⟨_, rfl⟩
 obtain ⟨r3, e3⟩ : ∃ q, decide (vs.length = ws.length) = q := ⟨_, rfl⟩
 obtain ⟨r4, e4⟩ : ∃ q, decide (ws.length > 0) = q := ⟨_, rfl⟩
 obtain ⟨r5, e5⟩ : ∃ q, BK r m = q := ⟨_, rfl⟩
 rw [e1] at c1 ⊢
 rw [e2] at c2 ⊢
 rw [e3] at d1 ⊢
 rw [e4] at d2 ⊢
 rw [e5] at c3 ⊢
 clear e1 e2 e3 e4 e5 hfin hw hv lw lv hg1
 refine goW ?_
 refine Bb (h' := H1) hH1 ?_
 refine goW ?_
 refine AA c1 ?_
 cases r1
 ·refine goW ?_
  refine AL (by simp only [resRf, resRs, resR]; first | done | rfl) ⟨?_, p1⟩
  simp [AD, AB]
 refine goW ?_
 refine AA c2 ?_
 cases r2
 ·refine goW ?_
  refine AL (by simp only [resRf, resRs, resR]; first | done | rfl) ⟨?_, p1⟩
  simp [AD, AB]
 cases r3
 ·refine goW ?_
  refine AL (by simp only [resRf, resRs, resR]; first | done | rfl) ⟨?_, p1⟩
  simp [AD, AB]
 cases r4
 ·refine goW ?_
  refine AL (by simp only [resRf, resRs, resR]; first | done | rfl) ⟨?_, p1⟩
  simp [AD, AB]
 refine goW ?_
 refine AA c3 ?_
 cases r5
 ·refine goW ?_
  refine AL (by simp only [resRf, resRs, resR]; first | done | rfl) ⟨?_, p1⟩
  simp [AD, AB]
 refine goW ?_
 refine AA c4 ?_
 refine goW ?_
 refine AL (by simp only [resRf, resRs, resR]; first | done | rfl) ⟨?_, p1⟩
 simp [AD, AB]
theorem Qw {B H : Heap} {v : V} {xs : List Int} (h : BR 1 AH B H v xs) (y : Int) (hl : xs.length ≤ 2 ^ 40) :
  ∃ v' H', newsOf T (T 3).get! 27 (.slc H.length 0 1 1 true 1) (H ++ [.row [.int .i64 y] true]) = some (1, [.int .i64 y]) ∧ appendV (T 3).get! v 1 [.int .i64 y] (H ++ [.row [.int .i64 y] true]) = some (v', H') ∧ BR 1 AH B H' v' (xs ++ [y]) ∧ Nb v (H ++ [.row [.int .i64 y] true]) H' ∧ VL v (H ++ [.row [.int .i64 y] true]) v' := by
 obtain ⟨v', H', h1, h2, h3, h4⟩ := (h.pre (List.prefix_append H [.row [.int .i64 y] true])).app (ie := (T 3).get!) rfl (Cells.one (R := AH) (cs := [.int .i64 y]) (x := y) rfl rfl) ⟨by show (xs.length + 1) * 8 ≤ _; omega, by simp; omega⟩
 exact ⟨v', H', OQ T27 rfl (by decide) rfl, h1, h2, h3, h4⟩
theorem XW (H : Heap) (w v g : V) (ws vs gs : List Int) (r m : Int) (hw : Sl 1 AH H w ws) (hv : Sl 1 AH H v vs) (hg : Sl 1 AH H g gs) (hal : alike ws.length [ws, vs, gs] = true) (hhy : BK r m = true) :
  ∃ u1 u2 H', Call Tryz.prog 127 [w, v, g, .agg [.int .i64 r, .int .i64 m]] H (.tup [u1, u2, .int .i64 0]) H' ∧ BR 1 AH H H' u1 (IC r m ws vs gs) ∧ BR 1 AH H H' u2 (FY m ws vs gs) ∧ Fb u1 u2 := by
 suffices hgoal : ∃ u H', (∃ u1 u2, u = .tup [u1, u2, .int .i64 0] ∧ BR 1 AH H H' u1 (IC r m ws vs gs) ∧ BR 1 AH H H' u2 (FY m ws vs gs) ∧ Fb u1 u2) ∧ Call Tryz.prog 127 [w, v, g, .agg [.int .i64 r, .int .i64 m]] H u H' by
  obtain ⟨_, H', ⟨u1, u2, rfl, h1⟩, h2⟩ := hgoal
  exact ⟨u1, u2, H', h2, h1⟩
 refine CY fit mixed Tryz.func127 rfl rfl rfl (by kernel_rfl) ?_
 have hal' := hal
 simp only [alike, List.all_cons, List.all_nil, Bool.and_true, Bool.and_eq_true, decide_eq_true_eq, true_and] at hal'
 obtain ⟨hvw, ⟨hvv, hlv⟩, hvg, hlg⟩ := hal'
 replace hvw := hvw.1
 have hlw := BP hvw
 obtain ⟨n, hn⟩ : ∃ n, ws.length = n := ⟨_, rfl⟩
 rw [hn] at hlv hlg hlw
 obtain ⟨H1, hH1⟩ : ∃ H1, H ++ [.row [.int .i64 r, .int .i64 m] true] = H1 := ⟨_, rfl⟩
 have p1 : H <+: H1 := by rw [← hH1]; exact List.prefix_append _ _
 have hg1 : H1[H.length]? = some (.row [.int .i64 r, .int .i64 m] true) := by rw [← hH1]; simp
 have l0 := Fx T80 rfl hg1 rfl
 have c1 := DC H1 w ws (hw.mono p1) (by omega)
 have c2 := DC H1 v vs (hv.mono p1) (by omega)
 have c3 := DC H1 g gs (hg.mono p1) (by omega)
 have c4 := GK H1 r m
 rw [hvw] at c1
 rw [hvv] at c2
 rw [hvg] at c3
 rw [hhy] at c4
 have hlen := hw.len T27 rfl
 have hlen2 := hv.len T27 rfl
 have hlen3 := hg.len T27 rfl
 rw [hn] at hlen
 rw [hlv] at hlen2
 rw [hlg] at hlen3
 unfold IC FY
 rw [hn]
 clear hal hhy hvw hvv hvg
 refine goW ?_
 refine Bb (h' := H1) hH1 ?_
 refine goW ?_
 refine AA c1 ?_
 refine goW ?_
 refine AA c2 ?_
 refine goW ?_
 refine AA c3 ?_
 refine goW ?_
 refine AA c4 ?_
 refine goW ?_
 refine AE (fun hb => ?_) (fun hb => ?_)
 ·cases hb
 clear hb c1 c2 c3 c4 l0
 refine Kl (fun ρ => ρ 0 = w ∧ ρ 1 = v ∧ ρ 2 = g ∧ ρ 7 = .ptr H.length 0) ⟨rfl, rfl, rfl, rfl⟩ ?_
 rintro ρ ⟨h0, h1, h2, h7⟩
 refine goW ?_
 refine AT (fun c ρ hp => ∃ k u1 u2, k ≤ n ∧ c = n - k ∧ BR 1 AH H1 hp u1 ((List.range k).map (LQ r m ws vs gs)) ∧ BR 1 AH H1 hp u2 ((List.range k).map (Em m vs gs)) ∧ Fb u1 u2 ∧
  ρ 0 = w ∧ ρ 1 = v ∧ ρ 2 = g ∧ ρ 7 = .ptr H.length 0 ∧ ρ 11 = u1 ∧ ρ 12 = u2 ∧ ρ 13 = .int .i64 (k : Nat)) ⟨0, .AN, .AN, Nat.zero_le _, rfl, BR.nil (List.prefix_refl _), BR.nil (List.prefix_refl _), (fun b c hb => by cases hb), h0, h1, h2, h7, rfl, rfl, rfl⟩ ?_
 clear h0 h1 h2 h7
 clear ρ
 rintro _ ρ hp ⟨k, u1, u2, hk, rfl, m1, m2, ap, h0, h1, h2, h7, h11, h12, h13⟩
 refine goW ?_
 refine AE (fun hb => ?_) (fun hb => ?_)
 ·have hk' : k < n := by simpa using hb
  clear hb
  have pp := p1.trans m1.1
  have hgk := CM m1.1 hg1
  have hg2 := getD_some (xs := vs) (k := k) (by omega)
  obtain ⟨b3, o3, _, hi3, rfl, _, hlo3, _⟩ := (hv.mono pp).get T27 rfl T3 rfl hg2
  have ho3 := AF T3 rfl hlo3
  have hg3 := getD_some (xs := gs) (k := k) (by omega)
  obtain ⟨b4, o4, _, hi4, rfl, _, hlo4, _⟩ := (hg.mono pp).get T27 rfl T3 rfl hg3
  have ho4 := AF T3 rfl hlo4
  have hg5 := getD_some (xs := ws) (k := k) (by omega)
  obtain ⟨b5, o5, _, hi5, rfl, _, hlo5, _⟩ := (hw.mono pp).get T27 rfl T3 rfl hg5
  have ho5 := AF T3 rfl hlo5
  have lm := AU (q := 1) T3 rfl hgk rfl
  have lr := AU (q := 0) T3 rfl hgk rfl
  have c1 := EI hp (vs.getD k 0) m
  have c2 : Call Tryz.prog 180 [.int .i64 (times (vs.getD k 0) m), .int .i64 (gs.getD k 0)] hp (.int .i64 (Em m vs gs k)) hp := Fp hp _ _
  have c3 := EI hp r (Em m vs gs k)
  have c4 : Call Tryz.prog 180 [.int .i64 (ws.getD k 0), .int .i64 (IntKind.i64.wrap (0 - times r (Em m vs gs k)))] hp (.int .i64 (LQ r m ws vs gs k)) hp := Fp hp _ _
  obtain ⟨v1, hp2, n1, a1, m3, kp1, mv1⟩ := Qw m1 (LQ r m ws vs gs k) (by simp; omega)
  rw [Ik] at m3
  have m2' := m2.pre (List.prefix_append hp [Blk.row [.int .i64 (LQ r m ws vs gs k)] true])
  have m4 := m2'.Yo kp1 m3.1 ap
  have ap2 := mv1.apart m2'.sl ap
  obtain ⟨v2, hp3, n2, a2, m5, kp2, mv2⟩ := Qw m4 (Em m vs gs k) (by simp; omega)
  rw [Ik] at m5
  have m3' := m3.pre (List.prefix_append hp2 [Blk.row [.int .i64 (Em m vs gs k)] true])
  have m6 := m3'.Yo kp2 m5.1 ap2.symm
  have ap3 := (mv2.apart m3'.sl ap2.symm).symm
  have hw1 := AG (n := k) (by omega)
  clear m1 m2 m2' m3 m3' m4 kp1 kp2 mv1 mv2 ap ap2 hlo3 hlo4 hlo5 hg2 hg3 hg5 hgk pp
  refine goW ?_
  refine AI c1 ?_
  refine goW ?_
  refine AI c2 ?_
  refine goW ?_
  refine AI c3 ?_
  refine goW ?_
  refine AI c4 ?_
  refine goW ?_
  refine Wb n1 a1 ?_
  refine goW ?_
  refine EG n2 a2 ?_
  refine goW ?_
  refine ⟨n - (k + 1), by omega, k + 1, v1, v2, hk', rfl, m6, m5, ap3, ?_⟩
  simp [AD, AB, *]
 ·have hk' : k = n := by have : ¬ k < n := by simpa using hb
                         omega
  subst hk'
  have q1 := m1.low p1
  have q2 := m2.low p1
  clear hb
  refine goW ?_
  refine AL (by simp only [resRf, resRs, resR]; first | done | rfl) ⟨u1, u2, ?_, q1, q2, ap⟩
  simp [AD, AB, *]
theorem PW (H : Heap) (c : Cfg) (rv w v : V) (ws vs : List Int) (id r m t : Int) (hr : Rows H rv c.rows) (hw : Sl 1 AH H w ws) (hv : Sl 1 AH H v vs) (hc : Al c = true) (hid : 0 ≤ id ∧ id < c.m) (hf : BI c.i c.h ws vs r m t = true) (ht : t < c.total) :
  ∃ u1 u2 H', Call Tryz.prog 72 [.agg (BJ c rv), .int .i64 id, .agg (Cb w v r m t)] H (.tup [.agg (Cb u1 u2 r m (t + 1)), .int .i64 0]) H' ∧ BR 1 AH H H' u1 (IC r m ws vs (FJ c id ws t)) ∧ BR 1 AH H H' u2 (FY m ws vs (FJ c id ws t)) ∧ Fb u1 u2 := by
 suffices hgoal : ∃ u H', (∃ u1 u2, u = .tup [.agg (Cb u1 u2 r m (t + 1)), .int .i64 0] ∧ BR 1 AH H H' u1 (IC r m ws vs (FJ c id ws t)) ∧ BR 1 AH H H' u2 (FY m ws vs (FJ c id ws t)) ∧ Fb u1 u2) ∧ Call Tryz.prog 72 [.agg (BJ c rv), .int .i64 id, .agg (Cb w v r m t)] H u H' by
  obtain ⟨_, H', ⟨u1, u2, rfl, h1⟩, h2⟩ := hgoal
  exact ⟨u1, u2, H', h2, h1⟩
 refine CY fit mixed Tryz.func72 rfl rfl rfl (by kernel_rfl) ?_
 have hf' := hf
 simp only [BI, Bool.and_eq_true] at hf'
 obtain ⟨hchk, hfit⟩ := hf'
 obtain ⟨hvw, hvv, hlv, hlw1, hhy, ht0, ht32⟩ := Bo hchk
 obtain ⟨hm2, hloss, hseed, htot, _⟩ := AX hc
 obtain ⟨_, hr1, hr8, hrok⟩ := Ca hloss
 have hlw := BP hvw
 obtain ⟨H1, hH1⟩ : ∃ H1, H ++ [.row (BJ c rv) true] = H1 := ⟨_, rfl⟩
 obtain ⟨H2, hH2⟩ : ∃ H2, H1 ++ [.row (Cb w v r m t) true] = H2 := ⟨_, rfl⟩
 obtain ⟨H3, hH3⟩ : ∃ H3, H2 ++ [.row Ay true] = H3 := ⟨_, rfl⟩
 have p1 : H <+: H1 := by rw [← hH1]; exact List.prefix_append _ _
 have p2 : H1 <+: H2 := by rw [← hH2]; exact List.prefix_append _ _
 have p3 : H2 <+: H3 := by rw [← hH3]; exact List.prefix_append _ _
 have p03 : H <+: H3 := p1.trans (p2.trans p3)
 have n1 : H.length < H1.length := by rw [← hH1]; simp
 have n2 : H1.length < H2.length := by rw [← hH2]; simp
 have n3 : H2.length < H3.length := by rw [← hH3]; simp
 have gc : H3[H.length]? = some (.row (BJ c rv) true) := CM (p2.trans p3) (by rw [← hH1]; simp)
 have gk : H3[H1.length]? = some (.row (Cb w v r m t) true) := CM p3 (by rw [← hH2]; simp)
 have gz : H3[H2.length]? = some (.row Ay true) := by rw [← hH3]; simp
 have c1 := EA H3 c rv (hr.mono p03) (by omega) (fun rr hrr => by
  have := hrok rr hrr
  simp only [Dp, Bool.and_eq_true] at this
  have := BP (CC this.1).2
  omega)
 rw [hc] at c1
 have c2 := DY H3 id 0 (IntKind.i64.wrap (c.m - 1))
 rw [within_iff.2 ⟨hid.1, by rw [wrap_i64 (by omega) (by omega)]; omega⟩] at c2
 have c3 := Gp H3 w v ws vs r m t (hw.mono p03) (hv.mono p03) (by omega) (by omega)
 rw [hchk] at c3
 have c7 := Gq H3 c.i c.h w ws (hw.mono p03) (by omega)
 rw [hfit] at c7
 have lm0 := AU (q := 0) T3 rfl gc rfl
 have lk := Fx T82 rfl gk rfl
 have lc := Fx T26 rfl gc rfl
 have lt := AU (q := 4) T3 rfl gk rfl
 have ltot := AU (q := 5) T3 rfl gc rfl
 have dt : decide (t ≥ c.total) = false := decide_eq_false (by omega)
 -- the sample
 obtain ⟨s, hs⟩ : ∃ s : Nat, c.seed = s := ⟨c.seed.toNat, by omega⟩
 obtain ⟨d, hd⟩ : ∃ d : Nat, id = d := ⟨id.toNat, by omega⟩
 obtain ⟨tt, htt⟩ : ∃ tt : Nat, t = tt := ⟨t.toNat, by omega⟩
 obtain ⟨q, hq⟩ : ∃ q, PG c id t = q := ⟨_, rfl⟩
 have hq' : DQ s (4096 * d + tt) c.rows.length = q := by rw [← hq]; unfold PG; rw [hs, hd, htt]; rfl
 have hql : q < c.rows.length := by rw [← hq']; exact Fo hr1
 have c4 := Uq H3 s d tt c.rows.length (by omega) (by omega) (by omega) hr1 hr8
 rw [hq', ← hs, ← hd, ← htt] at c4
 have lseed := AU (q := 4) T3 rfl gc rfl
 have lrows := AU (q := 3) T24 rfl gc rfl
 obtain ⟨rvv, hrv, hrl, _⟩ := hr.mono p03
 have hlen := hrv.len T24 rfl
 rw [hrl] at hlen
 -- the gradient
 obtain ⟨xs, y, hxy⟩ := WD c q hql
 obtain ⟨b0, o0, x, hi0, hl0, _, _, hx⟩ := (hr.mono p03).at hxy
 have hro := hrok _ (List.mem_iff_getElem?.2 ⟨q, hxy⟩)
 simp only [Dp, Bool.and_eq_true] at hro
 obtain ⟨_, _, i', h', hi', hh', hi1, hi2, hh1, hh2, hsz⟩ := Ej hfit
 have hxl : xs.length = i' := by have := (CC hro.1).1; omega
 obtain ⟨gu, H4, c5, m4⟩ := RS H3 i' h' y w x ws xs (hw.mono p03) hx (by rw [← hi', ← hh']; exact hfit) (by rw [← hi']; exact hro.1) hro.2
 rw [← hi', ← hh'] at c5
 have hG : FJ c id ws t = KT i' h' ws xs y := by unfold FJ; rw [hq, hxy]; simp only [hi', hh', Int.toNat_natCast]
 rw [hG]
 have hns := Cr hi2 hh2
 have hsz16 : BA i' h' ≤ 16 := by rw [← hsz]; exact hlw
 have hgm := SR (ws := ws) (y := y) (h := h') hxl hsz16
 have hgl := Nz (h := h') (ws := ws) (y := y) hxl
 have p34 := m4.1
 have p04 := p03.trans p34
 have lsh : loadV T 23 H3 H.length 1 = some (.agg [.int .i64 c.i, .int .i64 c.h]) := by
  refine AZ T23 rfl ?_
  unfold Heap.loadN
  rw [gc]; rfl
 have lws := AU (q := 0) T27 rfl gk rfl
 have gk4 := CM p34 gk
 have lws4 := AU (q := 0) T27 rfl gk4 rfl
 have lvs4 := AU (q := 1) T27 rfl gk4 rfl
 have lhy4 : loadV T 80 H4 H1.length 2 = some (.agg [.int .i64 r, .int .i64 m]) := by
  refine AZ T80 rfl ?_
  unfold Heap.loadN
  rw [gk4]; rfl
 obtain ⟨u1, u2, H5, c6, o1, o2, hap⟩ := XW H4 w v gu ws vs _ r m (hw.mono p04) (hv.mono p04) m4.sl (by simp [alike, hvw, hvv, hgm, hlv, hgl, hsz]) hhy
 have p45 := o1.1
 have gk5 := CM p45 gk4
 have gz5 := CM p45 (CM p34 gz)
 have lt5 := AU (q := 4) T3 rfl gk5 rfl
 have lhy5 : loadV T 80 H5 H1.length 2 = some (.agg [.int .i64 r, .int .i64 m]) := by
  refine AZ T80 rfl ?_
  unfold Heap.loadN
  rw [gk5]; rfl
 have wt : IntKind.i64.wrap (t + 1) = t + 1 := wrap_i64 (by omega) (by omega)
 have hu1 := o1.sl.two
 have hu2 := o2.sl.two
 have hst := GN (cells := Cb u1 u2 r m (t + 1)) T82 gz5 rfl rfl
 obtain ⟨H6, hH6⟩ : ∃ H6, H5.set H2.length (.row (Cb u1 u2 r m (t + 1)) true) = H6 := ⟨_, rfl⟩
 rw [hH6] at hst
 have l34 := p34.length_le
 have l45 := p45.length_le
 have g6 : H6[H2.length]? = some (.row (Cb u1 u2 r m (t + 1)) true) := by rw [← hH6, List.getElem?_set_self (by omega)]
 have p06 : H <+: H6 := by rw [← hH6]; exact Jk (p04.trans p45) (by omega)
 have o16 := o1.set (K := H) (c := H2.length) (k := .row (Cb u1 u2 r m (t + 1)) true) (by rw [hH6]; exact p06) p04.length_le (by omega)
 have o26 := o2.set (K := H) (c := H2.length) (k := .row (Cb u1 u2 r m (t + 1)) true) (by rw [hH6]; exact p06) p04.length_le (by omega)
 rw [hH6] at o16 o26
 have ln6 : Heap.loadN H6 H2.length 0 5 = some (Cb u1 u2 r m (t + 1)) := by unfold Heap.loadN; rw [g6]; rfl
 clear hid ht hm2 hseed htot ht0 ht32 hlw1 hr1 hr8 n1 n2 n3 l34 l45 hql hsz16 hns hi1 hi2 hh1 hh2 hlw
 clear hf hchk hfit hvw hvv hlv hhy hc hloss hrok hr hw hv gc gk gz gk4 gk5 gz5 g6 o1 o2 hrv hrl hx hro hi' hh' hgm hgl m4 hG hs hd htt hq hq' hsz hxl hxy
 rcases hu1 with rfl | ⟨_, _, _, _, _, _, rfl⟩ <;> rcases hu2 with rfl | ⟨_, _, _, _, _, _, rfl⟩
 all_goals
  refine goW ?_
  refine Bb (h' := H3) (by rw [← hH3, ← hH2, ← hH1]) ?_
  rw [hH1, hH2]
  refine goW ?_
  refine AA c1 ?_
  refine goW ?_
  refine AA c2 ?_
  refine goW ?_
  refine AA c3 ?_
  refine goW ?_
  refine AA c7 ?_
  refine goW ?_
  refine AE (fun hb => ?_) (fun hb => ?_)
  ·cases hb
  clear hb c1 c2 c3 c7
  refine goW ?_
  refine AE (fun hb => ?_) (fun hb => ?_)
  ·cases hb
  clear hb
  refine Kl (fun ρ => ρ 1 = .int .i64 id ∧ ρ 3 = .ptr H.length 0 ∧ ρ 5 = .ptr H1.length 0 ∧ ρ 6 = .ptr H2.length 0) ⟨rfl, rfl, rfl, rfl⟩ ?_
  rintro ρ ⟨h1, h3, h5, h6⟩
  refine goW ?_
  refine AA c4 ?_
  refine goW ?_
  refine Be c5 (.inl p34) ?_
  refine goW ?_
  refine AA c6 ?_
  refine goW ?_
  refine BC (Eg eLk eLk hst) ?_
  refine goW ?_
  refine AL (v := .tup [.agg (Cb _ _ r m (t + 1)), .int .i64 0]) ?_ ⟨_, _, rfl, o16, o26, hap⟩
  simp only [resRf, resRs, resR, AD, AB, Nat.reduceEqDiff, reduceIte, Option.some.injEq, reduceCtorEq, h6, T82, ln6]
  rfl
theorem RT (H : Heap) (c : Cfg) (rv w v : V) (ws vs : List Int) (id r m t e : Int) (hr : Rows H rv c.rows) (hw : Sl 1 AH H w ws) (hv : Sl 1 AH H v vs) (lr : c.rows.length ≤ 2 ^ 47) (lr2 : ∀ r ∈ c.rows, r.1.length ≤ 2 ^ 47) (lw : ws.length ≤ 2 ^ 47) (lv : vs.length ≤ 2 ^ 47)
  (he : ((Al c && within id 0 (IntKind.i64.wrap (c.m - 1)) && BI c.i c.h ws vs r m t) = false ∧ e = 2100) ∨ ((Al c && within id 0 (IntKind.i64.wrap (c.m - 1)) && BI c.i c.h ws vs r m t) = true ∧ decide (t ≥ c.total) = true ∧ e = 2101)) :
  Call Tryz.prog 72 [.agg (BJ c rv), .int .i64 id, .agg (Cb w v r m t)] H (.tup [.agg Ay, .int .i64 e]) H := by
 suffices hgoal : ∃ u H', (u = .tup [.agg Ay, .int .i64 e] ∧ H <+: H') ∧ Call Tryz.prog 72 [.agg (BJ c rv), .int .i64 id, .agg (Cb w v r m t)] H u H' by
  obtain ⟨_, H', ⟨rfl, h1⟩, h2⟩ := hgoal
  exact h2.forget h1 rfl
 refine CY fit mixed Tryz.func72 rfl rfl rfl (by kernel_rfl) ?_
 obtain ⟨H1, hH1⟩ : ∃ H1, H ++ [.row (BJ c rv) true] = H1 := ⟨_, rfl⟩
 obtain ⟨H2, hH2⟩ : ∃ H2, H1 ++ [.row (Cb w v r m t) true] = H2 := ⟨_, rfl⟩
 obtain ⟨H3, hH3⟩ : ∃ H3, H2 ++ [.row Ay true] = H3 := ⟨_, rfl⟩
 have p1 : H <+: H1 := by rw [← hH1]; exact List.prefix_append _ _
 have p2 : H1 <+: H2 := by rw [← hH2]; exact List.prefix_append _ _
 have p3 : H2 <+: H3 := by rw [← hH3]; exact List.prefix_append _ _
 have p03 : H <+: H3 := p1.trans (p2.trans p3)
 have gc : H3[H.length]? = some (.row (BJ c rv) true) := CM (p2.trans p3) (by rw [← hH1]; simp)
 have gk : H3[H1.length]? = some (.row (Cb w v r m t) true) := CM p3 (by rw [← hH2]; simp)
 have gz : H3[H2.length]? = some (.row Ay true) := by rw [← hH3]; simp
 have c1 := EA H3 c rv (hr.mono p03) lr lr2
 have c2 := DY H3 id 0 (IntKind.i64.wrap (c.m - 1))
 have c3 := Gp H3 w v ws vs r m t (hw.mono p03) (hv.mono p03) lw lv
 have c7 := Gq H3 c.i c.h w ws (hw.mono p03) lw
 have lm0 := AU (q := 0) T3 rfl gc rfl
 have lk := Fx T82 rfl gk rfl
 have lsh : loadV T 23 H3 H.length 1 = some (.agg [.int .i64 c.i, .int .i64 c.h]) := by
  refine AZ T23 rfl ?_
  unfold Heap.loadN
  rw [gc]; rfl
 have lws := AU (q := 0) T27 rfl gk rfl
 have lc := Fx T26 rfl gc rfl
 have lt := AU (q := 4) T3 rfl gk rfl
 have ltot := AU (q := 5) T3 rfl gc rfl
 have hst := GN (cells := Ay) T82 gz rfl rfl
 obtain ⟨H4, hH4⟩ : ∃ H4, H3.set H2.length (.row Ay true) = H4 := ⟨_, rfl⟩
 rw [hH4] at hst
 have hlt := (List.getElem?_eq_some_iff.1 gz).1
 have ln4 : Heap.loadN H4 H2.length 0 5 = some Ay := by unfold Heap.loadN; rw [← hH4, List.getElem?_set_self hlt]; rfl
 have p04 : H <+: H4 := by rw [← hH4]; exact Jk p03 (p1.trans p2).length_le
 clear gc gk gz hr hw hv lr lr2 lw lv hlt p1 p2 p3 hH4
 obtain ⟨r1, e1⟩ : ∃ q, Al c = q := ⟨_, rfl⟩
 obtain ⟨r2, e2⟩ : ∃ q, within id 0 (IntKind.i64.wrap (c.m - 1)) = q := ⟨_, rfl⟩
 obtain ⟨r3, e3⟩ : ∃ q, CT ws vs r m t = q := ⟨_, rfl⟩
 obtain ⟨r4, e4⟩ : ∃ q, fits c.i c.h ws = q := ⟨_, rfl⟩
 unfold BI at he
 rw [e1, e2, e3, e4] at he
 rw [e1] at c1
 rw [e2] at c2
 rw [e3] at c3
 rw [e4] at c7
 clear e1 e2 e3 e4
 cases r1
 ·obtain rfl : e = 2100 := by rcases he with ⟨_, h⟩ | ⟨h, _⟩; exact h; cases h
  clear he
  refine goW ?_
  refine Bb (h' := H3) (by rw [← hH3, ← hH2, ← hH1]) ?_
  rw [hH1, hH2]
  refine goW ?_
  refine AA c1 ?_
  refine goW ?_
  refine AE (fun hb => ?_) (fun hb => ?_)
  ·refine goW ?_
   refine AL (v := .tup [.agg Ay, .int .i64 2100]) ?_ ⟨rfl, p04⟩
   simp only [resRf, resRs, resR, AD, AB, Nat.reduceEqDiff, reduceIte, Option.some.injEq, reduceCtorEq, T82, ln4]
   rfl
  ·cases hb
 cases r2
 ·obtain rfl : e = 2100 := by rcases he with ⟨_, h⟩ | ⟨h, _⟩; exact h; cases h
  clear he
  refine goW ?_
  refine Bb (h' := H3) (by rw [← hH3, ← hH2, ← hH1]) ?_
  rw [hH1, hH2]
  refine goW ?_
  refine AA c1 ?_
  refine goW ?_
  refine AA c2 ?_
  refine goW ?_
  refine AE (fun hb => ?_) (fun hb => ?_)
  ·refine goW ?_
   refine AL (v := .tup [.agg Ay, .int .i64 2100]) ?_ ⟨rfl, p04⟩
   simp only [resRf, resRs, resR, AD, AB, Nat.reduceEqDiff, reduceIte, Option.some.injEq, reduceCtorEq, T82, ln4]
   rfl
  ·cases hb
 cases r3
 ·obtain rfl : e = 2100 := by rcases he with ⟨_, h⟩ | ⟨h, _⟩; exact h; cases h
  clear he
  refine goW ?_
  refine Bb (h' := H3) (by rw [← hH3, ← hH2, ← hH1]) ?_
  rw [hH1, hH2]
  refine goW ?_
  refine AA c1 ?_
  refine goW ?_
  refine AA c2 ?_
  refine goW ?_
  refine AA c3 ?_
  refine goW ?_
  refine AE (fun hb => ?_) (fun hb => ?_)
  ·refine goW ?_
   refine AL (v := .tup [.agg Ay, .int .i64 2100]) ?_ ⟨rfl, p04⟩
   simp only [resRf, resRs, resR, AD, AB, Nat.reduceEqDiff, reduceIte, Option.some.injEq, reduceCtorEq, T82, ln4]
   rfl
  ·cases hb
 cases r4
 ·obtain rfl : e = 2100 := by rcases he with ⟨_, h⟩ | ⟨h, _⟩; exact h; cases h
  clear he
  refine goW ?_
  refine Bb (h' := H3) (by rw [← hH3, ← hH2, ← hH1]) ?_
  rw [hH1, hH2]
  refine goW ?_
  refine AA c1 ?_
  refine goW ?_
  refine AA c2 ?_
  refine goW ?_
  refine AA c3 ?_
  refine goW ?_
  refine AA c7 ?_
  refine goW ?_
  refine AE (fun hb => ?_) (fun hb => ?_)
  ·refine goW ?_
   refine AL (v := .tup [.agg Ay, .int .i64 2100]) ?_ ⟨rfl, p04⟩
   simp only [resRf, resRs, resR, AD, AB, Nat.reduceEqDiff, reduceIte, Option.some.injEq, reduceCtorEq, T82, ln4]
   rfl
  ·cases hb
 obtain ⟨hd, rfl⟩ : decide (t ≥ c.total) = true ∧ e = 2101 := by
  rcases he with ⟨h, _⟩ | ⟨_, h1, h2⟩
  ·cases h
  ·exact ⟨h1, h2⟩
 clear he
 refine goW ?_
 refine Bb (h' := H3) (by rw [← hH3, ← hH2, ← hH1]) ?_
 rw [hH1, hH2]
 refine goW ?_
 refine AA c1 ?_
 refine goW ?_
 refine AA c2 ?_
 refine goW ?_
 refine AA c3 ?_
 refine goW ?_
 refine AA c7 ?_
 refine goW ?_
 refine AE (fun hb => ?_) (fun hb => ?_)
 ·cases hb
 clear hb
 refine goW ?_
 refine AE (fun hb => ?_) (fun hb => ?_)
 ·refine goW ?_
  refine AL (v := .tup [.agg Ay, .int .i64 2101]) ?_ ⟨rfl, p04⟩
  simp only [resRf, resRs, resR, AD, AB, Nat.reduceEqDiff, reduceIte, Option.some.injEq, reduceCtorEq, T82, ln4]
  rfl
 ·cases hb
theorem Wx (H : Heap) (x : Int) (k : Nat) (hk : k ≤ 8) : Call Tryz.prog 80 [.int .i64 x, .int .i64 k] H (.str (strOf (Bm x k))) H := by
 refine AJ fit mixed Tryz.func80 rfl rfl rfl (by kernel_rfl) rfl ?_
 obtain ⟨H1, hH1⟩ : ∃ H1, H ++ [.row (Bw [.int .u8 0] k) true] = H1 := ⟨_, rfl⟩
 have p1 : H <+: H1 := by rw [← hH1]; exact List.prefix_append _ _
 obtain ⟨v, hv⟩ : ∃ v, V.slc H.length 0 k k true 1 = v := ⟨_, rfl⟩
 have hm : BR 1 EO H H1 v (List.replicate k 0) := by
  have h := Dj (R := EO) (t := true) (List.prefix_refl H) (Dv (sz := 1) (z := [V.int .u8 0]) (x := (0 : Int)) rfl rfl k)
  rw [List.length_replicate, hH1, hv] at h
  exact h
 refine goW ?_
 refine LN T68 rfl T5 ?_
 refine Bb (h' := H1) hH1 ?_
 refine goW ?_
 refine AT (fun c ρ hp => ∃ j ys, j ≤ k ∧ c = k - j ∧ ys.length = k ∧ (∀ i, i < j → ys[i]? = some (Ds x i)) ∧ BR 1 EO H hp v ys ∧ ρ 0 = .int .i64 x ∧ ρ 1 = .int .i64 (k : Nat) ∧ ρ 5 = v ∧ ρ 6 = .int .i64 (j : Nat)) ⟨0, _, Nat.zero_le _, rfl, by simp, by intro i hi; omega, hm, rfl, rfl, hv, rfl⟩ ?_
 clear hm hv hH1 p1
 rintro _ ρ hp ⟨j, ys, hj, rfl, hyl, hys, hm, h0, h1, h5, h6⟩
 refine goW ?_
 refine AE (fun hb => ?_) (fun hb => ?_)
 ·have hj' : j < k := by simpa using hb
  clear hb
  obtain ⟨b, o, hi, hst0⟩ := hm.store T68 rfl T5 rfl (k := j) (by omega)
  obtain ⟨H', hst, hm2⟩ := hst0 (.int .u8 (Ds x j)) (Ds x j) rfl rfl rfl
  have w8 : IntKind.i64.wrap (8 * (j : Int)) = ((8 * j : Nat) : Int) := by rw [show 8 * (j : Int) = ((8 * j : Nat) : Int) by omega]; exact Am (by omega)
  have hw := AG (n := j) (by omega)
  have hall : ∀ i, i < j + 1 → (ys.set j (Ds x j))[i]? = some (Ds x i) := fun i hi2 => by
   by_cases hij : i = j
   ·subst hij; rw [List.getElem?_set_self (by omega)]
   ·rw [List.getElem?_set_ne (by omega)]; exact hys i (by omega)
  clear hm hys hst0
  have hsh : vbin T .shr 3 (.int .i64 x) (.int .i64 ((8 * j : Nat) : Int)) = some (.int .i64 (x.fdiv (2 ^ min (8 * j) IntKind.i64.bits))) := by
   simp only [vbin, shiftBin]
   rw [if_neg (by omega), Int.toNat_natCast]
  have hlk : IntKind.u8.wrap (x.fdiv (2 ^ min (8 * j) IntKind.i64.bits)) = Ds x j := rfl
  repeat (first | refine AO ?_ | refine AK ?_ | refine Ae (by decide +kernel) ?_ | refine AW ?_ | refine BN ?_ | refine BM ?_ | refine Ah ?_ | refine As ?_ | refine Ag ?_ | refine AR ?_ | refine Ar ?_ | refine Ad ?_ | refine AS ?_ | refine Aq ?_ | refine Ac ?_ | refine AV rfl ?_ | refine BC (EC eLk eLk hsh) ?_ | refine CH ?_)
  refine ⟨k - (j + 1), by omega, j + 1, _, hj', rfl, by simpa using hyl, hall, hm2, ?_⟩
  simp [AD, AB, *]
 ·have hj' : j = k := by have : ¬ j < k := by simpa using hb
                         omega
  subst hj'
  clear hb
  have hyy : ys = Bm x j := by
   apply List.ext_getElem?
   intro i
   by_cases hi : i < j
   ·rw [hys i hi]; simp [Bm, hi]
   ·rw [List.getElem?_eq_none (by omega), List.getElem?_eq_none (by simp [Bm]; omega)]
  subst hyy
  have hsl := hm.sl
  have hpr := hm.1
  clear hm hys
  refine goW ?_
  refine BC (NU eLk hsl) ?_
  refine goW ?_
  refine AL (by simp only [resRf, resRs, resR]; first | done | rfl) ⟨?_, hpr⟩
  simp [AD, AB]
theorem JR (H : Heap) (w v : V) (ws vs : List Int) (r m t : Int) (hw : Sl 1 AH H w ws) (hv : Sl 1 AH H v vs) (hm : CT ws vs r m t = true) : Call Tryz.prog 85 [.agg (Cb w v r m t)] H (.tup [.str (strOf (MP ws vs r m t)), .int .i64 0]) H := by
 refine AJ fit mixed Tryz.func85 rfl rfl rfl (by kernel_rfl) rfl ?_
 obtain ⟨hvw, hvv, hlv, hlw1, _, _, _⟩ := Bo hm
 have hlw := BP hvw
 obtain ⟨n, hn⟩ : ∃ n, ws.length = n := ⟨_, rfl⟩
 obtain ⟨H1, hH1⟩ : ∃ H1, H ++ [.row (Cb w v r m t) true] = H1 := ⟨_, rfl⟩
 have p1 : H <+: H1 := by rw [← hH1]; exact List.prefix_append _ _
 have g1 : H1[H.length]? = some (.row (Cb w v r m t) true) := by rw [← hH1]; simp
 have hw1 := hw.mono p1
 have hv1 := hv.mono p1
 have c0 := Gp H1 w v ws vs r m t hw1 hv1 (by omega) (by omega)
 rw [hm] at c0
 have la := Fx T82 rfl g1 rfl
 have l0 := AU (q := 0) T27 rfl g1 rfl
 have l1 := AU (q := 1) T27 rfl g1 rfl
 have l2 := AU (q := 2) T3 rfl g1 rfl
 have l3 := AU (q := 3) T3 rfl g1 rfl
 have l4 := AU (q := 4) T3 rfl g1 rfl
 have hlen := hw1.len T27 rfl
 have hlen2 := hv1.len T27 rfl
 rw [hn] at hlen hlv hlw hlw1
 rw [hlv] at hlen2
 have k1 := Wx H1 n 1 (by decide)
 have k2 := Wx H1 r 4 (by decide)
 have k3 := Wx H1 m 4 (by decide)
 have k4 := Wx H1 t 1 (by decide)
 obtain ⟨pre, hpre⟩ : ∃ x, Bm ws.length 1 ++ Ch ws = x := ⟨_, rfl⟩
 have hprel : pre.length = 1 + 4 * n := by rw [← hpre]; simp only [List.length_append, CD, DJ]; omega
 obtain ⟨out, hout⟩ : ∃ x, MP ws vs r m t = x := ⟨_, rfl⟩
 rw [hout]
 clear hm hvw hvv hw hv
 refine goW ?_
 refine Bb (h' := H1) hH1 ?_
 refine goW ?_
 refine AA c0 ?_
 refine goW ?_
 refine AE (fun hb => ?_) (fun hb => ?_)
 ·cases hb
 clear hb c0 la
 refine goW ?_
 refine AA k1 ?_
 refine goW ?_
 refine AT (fun c ρ hp => ∃ k, k ≤ n ∧ c = n - k ∧ hp = H1 ∧ ρ 1 = .ptr H.length 0 ∧ ρ 4 = .str (strOf (Bm n 1 ++ Ch (ws.take k))) ∧ ρ 5 = .int .i64 (k : Nat)) ⟨0, Nat.zero_le _, rfl, rfl, rfl, by simp [Ch]; rfl, rfl⟩ ?_
 rintro _ ρ hp ⟨k, hk, rfl, hpe, h1, h4, h5⟩
 subst hpe
 clear k1
 refine goW ?_
 refine AE (fun hb => ?_) (fun hb => ?_)
 ·have hk' : k < n := by simpa using hb
  clear hb
  have hwk := getD_some (xs := ws) (k := k) (by omega)
  obtain ⟨b, o, _, hi, rfl, _, hlo, _⟩ := hw1.get T27 rfl T3 rfl hwk
  have ho := AF T3 rfl hlo
  have c1 := Wx hp (ws.getD k 0) 4 (by decide)
  have hsn := KX hwk
  have hadd := HU (a := Bm n 1 ++ Ch (ws.take k)) (b := Bm (ws.getD k 0) 4) (by simp only [List.length_append, CD, DJ, List.length_take]; omega)
  rw [List.append_assoc, ← hsn] at hadd
  have hw2 := AG (n := k) (by omega)
  clear hlo hwk hsn k2 k3 k4 hlen2 l1 l2 l3 l4
  refine goW ?_
  refine AA c1 ?_
  refine BC (EC eLk eLk hadd) ?_
  refine goW ?_
  refine ⟨n - (k + 1), by omega, k + 1, hk', rfl, rfl, ?_⟩
  simp [AD, AB, *]
 have hk' : k = n := by have : ¬ k < n := by simpa using hb
                        omega
 subst hk'
 rw [List.take_of_length_le (by omega), ← hn, hpre] at h4
 clear hb hlen l0
 refine Kl (fun ρ => ρ 1 = .ptr H.length 0 ∧ ρ 4 = .str (strOf pre)) ⟨h1, h4⟩ ?_
 clear h1 h4 h5
 clear ρ
 rintro ρ ⟨h1, h4⟩
 refine goW ?_
 refine AT (fun c ρ hp' => ∃ j, j ≤ k ∧ c = k - j ∧ hp' = hp ∧ ρ 1 = .ptr H.length 0 ∧ ρ 4 = .str (strOf (pre ++ Ch (vs.take j))) ∧ ρ 6 = .int .i64 (j : Nat)) ⟨0, Nat.zero_le _, rfl, rfl, by simp [AD, AB, h1], by simp [AD, AB, h4, Ch], rfl⟩ ?_
 clear h1 h4
 clear ρ
 rintro _ ρ hp2 ⟨j, hj, rfl, hpe, h1, h4, h6⟩
 subst hpe
 refine goW ?_
 refine AE (fun hb => ?_) (fun hb => ?_)
 ·have hj' : j < k := by simpa using hb
  clear hb
  have hwk := getD_some (xs := vs) (k := j) (by omega)
  obtain ⟨b, o, _, hi, rfl, _, hlo, _⟩ := hv1.get T27 rfl T3 rfl hwk
  have ho := AF T3 rfl hlo
  have c1 := Wx hp2 (vs.getD j 0) 4 (by decide)
  have hsn := KX hwk
  have hadd := HU (a := pre ++ Ch (vs.take j)) (b := Bm (vs.getD j 0) 4) (by simp only [List.length_append, CD, DJ, List.length_take]; omega)
  rw [List.append_assoc, ← hsn] at hadd
  have hw2 := AG (n := j) (by omega)
  clear hlo hwk hsn k2 k3 k4 l2 l3 l4
  refine goW ?_
  refine AA c1 ?_
  refine BC (EC eLk eLk hadd) ?_
  refine goW ?_
  refine ⟨k - (j + 1), by omega, j + 1, hj', rfl, rfl, ?_⟩
  simp [AD, AB, *]
 have hj' : j = k := by have : ¬ j < k := by simpa using hb
                        omega
 subst hj'
 rw [List.take_of_length_le (by omega)] at h4
 clear hb hlen2 l1
 have hfin : out = pre ++ Ch vs ++ Bm r 4 ++ Bm m 4 ++ Bm t 1 := by rw [← hout, ← hpre]; rfl
 have a1 := HU (a := pre ++ Ch vs) (b := Bm r 4) (by simp only [List.length_append, CD, DJ]; omega)
 have a2 := HU (a := pre ++ Ch vs ++ Bm r 4) (b := Bm m 4) (by simp only [List.length_append, CD, DJ]; omega)
 have a3 := HU (a := pre ++ Ch vs ++ Bm r 4 ++ Bm m 4) (b := Bm t 1) (by simp only [List.length_append, CD, DJ]; omega)
 rw [← hfin] at a3
 clear hout hfin hpre
 refine goW ?_
 refine AI k2 ?_
 refine CU (EC eLk eLk a1) ?_
 refine goW ?_
 refine AI k3 ?_
 refine CU (EC eLk eLk a2) ?_
 refine goW ?_
 refine AI k4 ?_
 refine CU (EC eLk eLk a3) ?_
 refine goW ?_
 refine AL (by simp only [resRf, resRs, resR]; first | done | rfl) ⟨?_, p1⟩
 simp [AD, AB]
theorem ZV (H : Heap) (i h s f : Nat) (hi : 1 ≤ i ∧ i ≤ 3) (hh : 1 ≤ h ∧ h ≤ 3) (hs : s ≤ 65535) (hf : f ≤ 1048560) :
  ∃ u H', Call Tryz.prog 122 [.agg [.int .i64 i, .int .i64 h], .int .i64 s, .int .i64 f] H (.tup [u, .int .i64 0]) H' ∧ BR 1 AH H H' u (JI i h s f) := by
 suffices hgoal : ∃ w H', (∃ u, w = .tup [u, .int .i64 0] ∧ BR 1 AH H H' u (JI i h s f)) ∧ Call Tryz.prog 122 [.agg [.int .i64 i, .int .i64 h], .int .i64 s, .int .i64 f] H w H' by
  obtain ⟨_, H', ⟨u, rfl, h1⟩, h2⟩ := hgoal
  exact ⟨u, H', h2, h1⟩
 refine CY fit mixed Tryz.func122 rfl rfl rfl (by kernel_rfl) ?_
 obtain ⟨H1, hH1⟩ : ∃ H1, H ++ [.row [.int .i64 i, .int .i64 h] true] = H1 := ⟨_, rfl⟩
 have p1 : H <+: H1 := by rw [← hH1]; exact List.prefix_append _ _
 have g1 : H1[H.length]? = some (.row [.int .i64 i, .int .i64 h] true) := by rw [← hH1]; simp
 have la := Fx T23 rfl g1 rfl
 have c0 := GL H1 i h
 have hsm : BL (i : Int) (h : Int) = true := by simp only [BL, Bool.and_eq_true, within_iff]; omega
 rw [hsm] at c0
 have c1 := DM H1 s 0 65535
 have c2 := DM H1 f 0 1048560
 rw [within_iff.2 ⟨by omega, by omega⟩] at c1 c2
 have hsmall : BA i h ≤ 16 := by have := Cr hi.2 hh.2; unfold BA; omega
 obtain ⟨n, hn⟩ : ∃ n, BA i h = n := ⟨_, rfl⟩
 unfold JI
 rw [hn] at hsmall ⊢
 have hi' := hi.2
 have hh' := hh.2
 clear hsm hi hh
 refine goW ?_
 refine Bb (h' := H1) hH1 ?_
 refine goW ?_
 refine AA c0 ?_
 refine goW ?_
 refine AA c1 ?_
 refine goW ?_
 refine AA c2 ?_
 refine goW ?_
 refine AE (fun hb => ?_) (fun hb => ?_)
 ·cases hb
 clear hb c0 c1 c2
 refine goW ?_
 refine AT (fun c ρ hp => ∃ k u, k ≤ n ∧ c = n - k ∧ BR 1 AH H1 hp u ((List.range k).map (initK s f)) ∧ ρ 1 = .int .i64 s ∧ ρ 2 = .int .i64 f ∧ ρ 3 = .ptr H.length 0 ∧ ρ 8 = u ∧ ρ 9 = .int .i64 (k : Nat)) ⟨0, .AN, Nat.zero_le _, rfl, BR.nil (List.prefix_refl _), rfl, rfl, rfl, rfl, rfl⟩ ?_
 rintro _ ρ hp ⟨k, u, hk, rfl, hm, h1, h2, h3, h8, h9⟩
 have la2 : loadV T 23 hp H.length 0 = some (.agg [.int .i64 i, .int .i64 h]) := Fx T23 rfl (CM hm.1 g1) rfl
 have c3 := Oc hp i h hi' hh'
 rw [hn] at c3
 clear la
 refine goW ?_
 refine AA c3 ?_
 refine goW ?_
 refine AE (fun hb => ?_) (fun hb => ?_)
 ·have hk' : k < n := by simpa using hb
  clear hb c3 la2
  have w1 : IntKind.i64.wrap ((f : Int) + (k : Int)) = ((f + k : Nat) : Int) := by rw [← Int.natCast_add]; exact Am (by omega)
  have c4 := OX hp s (f + k) hs (by omega)
  have w2 : IntKind.i64.wrap (((Db s (f + k) : Nat) : Int) - 32768) = initK s f k := by
   have := Ho s (f + k)
   unfold initK
   exact wrap_i64 (by omega) (by omega)
  obtain ⟨v', hp', nw, ap, hm2, _, _⟩ := Qw hm (initK s f k) (by simp; omega)
  rw [Ik] at hm2
  have hw := AG (n := k) (by omega)
  clear hm hs hf
  refine goW ?_
  refine AA c4 ?_
  refine goW ?_
  refine EG nw ap ?_
  refine goW ?_
  refine ⟨n - (k + 1), by omega, k + 1, v', hk', rfl, hm2, ?_⟩
  simp [AD, AB, *]
 ·have hk' : k = n := by have : ¬ k < n := by simpa using hb
                         omega
  subst hk'
  have hm2 := hm.low p1
  clear hb hm c3 la2
  refine goW ?_
  refine AL (by simp only [resRf, resRs, resR]; first | done | rfl) ⟨u, ?_, hm2⟩
  simp [AD, AB, *]
theorem LY (H : Heap) (s k : Nat) (hs : s ≤ 65535) (hk : k ≤ 1048575) : Call Tryz.prog 133 [.int .i64 s, .int .i64 k] H (.tup [.agg [.int .i64 (DR s k : Nat), .int .i64 (GI s k : Nat)], .int .i64 0]) H := by
 refine AJ fit mixed Tryz.func133 rfl rfl rfl (by kernel_rfl) rfl ?_
 obtain ⟨H1, hH1⟩ : ∃ H1, H ++ [.row [.int .i64 0, .int .i64 0] true] = H1 := ⟨_, rfl⟩
 have p1 : H <+: H1 := by rw [← hH1]; exact List.prefix_append _ _
 have g1 : H1[H.length]? = some (.row [.int .i64 0, .int .i64 0] true) := by rw [← hH1]; simp
 have c1 := DM H1 s 0 65535
 have c2 := DM H1 k 0 1048575
 rw [within_iff.2 ⟨by omega, by omega⟩] at c1 c2
 have c3 := LX H1 s k 16321 hs (by omega) (by decide) (by decide)
 have c4 := LX H1 s (k + 1) 58983 hs (by omega) (by decide) (by decide)
 have w0 := AG (n := k) (by omega)
 have c4' : Call Tryz.prog 131 [.int .i64 s, .int .i64 ((k : Int) + 1), .int .i64 58983] H1 (.tup [.int .i64 (GI s k : Nat), .int .i64 0]) H1 := c4
 have w1 : IntKind.i64.wrap (64 + ((DQ s k 16321 : Nat) : Int)) = ((DR s k : Nat) : Int) := by
  have h1 := Fo (s := s) (k := k) (b := 16321) (by decide)
  unfold DR
  rw [wrap_i64 (by omega) (by omega)]; omega
 have hst := GN (cells := [V.int .i64 (DR s k : Nat), V.int .i64 (GI s k : Nat)]) T80 g1 rfl rfl
 obtain ⟨H2, hH2⟩ : ∃ H2, H1.set H.length (.row [V.int .i64 (DR s k : Nat), V.int .i64 (GI s k : Nat)] true) = H2 := ⟨_, rfl⟩
 rw [hH2] at hst
 have hlt := (List.getElem?_eq_some_iff.1 g1).1
 have p2 : H <+: H2 := by rw [← hH2]; exact Jk p1 (Nat.le_refl _)
 have ln2 : Heap.loadN H2 H.length 0 2 = some [V.int .i64 (DR s k : Nat), V.int .i64 (GI s k : Nat)] := by unfold Heap.loadN; rw [← hH2, List.getElem?_set_self hlt]; rfl
 clear c4 hs hk g1 hlt hH2
 refine goW ?_
 refine Bb (h' := H1) hH1 ?_
 refine goW ?_
 refine AA c1 ?_
 refine goW ?_
 refine AA c2 ?_
 refine goW ?_
 refine AE (fun hb => ?_) (fun hb => ?_)
 ·cases hb
 clear hb
 refine goW ?_
 refine AA c3 ?_
 refine goW ?_
 refine AA c4' ?_
 refine goW ?_
 refine BC (Eg eLk eLk hst) ?_
 refine goW ?_
 refine AL (v := .tup [.agg [.int .i64 (DR s k : Nat), .int .i64 (GI s k : Nat)], .int .i64 0]) ?_ ⟨rfl, p2⟩
 simp only [resRf, resRs, resR, AD, AB, Nat.reduceEqDiff, reduceIte, Option.some.injEq, reduceCtorEq, T80, ln2]
 rfl
theorem OZ (H : Heap) (s k : Nat) (hs : s ≤ 65535) (hk : k ≤ 7) : Call Tryz.prog 123 [.int .i64 s, .int .i64 k] H (.tup [.agg [.int .i64 (DR s (40000 + 2 * k) : Nat), .int .i64 (GI s (40000 + 2 * k) : Nat)], .int .i64 0]) H := by
 refine AJ fit mixed Tryz.func123 rfl rfl rfl (by kernel_rfl) rfl ?_
 obtain ⟨H1, hH1⟩ : ∃ H1, H ++ [.row [.int .i64 0, .int .i64 0] true] = H1 := ⟨_, rfl⟩
 have p1 : H <+: H1 := by rw [← hH1]; exact List.prefix_append _ _
 have g1 : H1[H.length]? = some (.row [.int .i64 0, .int .i64 0] true) := by rw [← hH1]; simp
 have c1 := DM H1 s 0 65535
 have c2 := DM H1 k 0 7
 rw [within_iff.2 ⟨by omega, by omega⟩] at c1 c2
 obtain ⟨q, hq⟩ : ∃ q, 40000 + 2 * k = q := ⟨_, rfl⟩
 have c3 := LY H1 s q hs (by omega)
 have w0 : IntKind.i64.wrap (2 * (k : Int)) = ((2 * k : Nat) : Int) := by rw [show 2 * (k : Int) = ((2 * k : Nat) : Int) by omega]; exact Am (by omega)
 have w1 : IntKind.i64.wrap (40000 + ((2 * k : Nat) : Int)) = (q : Int) := by rw [wrap_i64 (by omega) (by omega)]; omega
 rw [hq]
 have hst := GN (cells := [V.int .i64 (DR s q : Nat), V.int .i64 (GI s q : Nat)]) T80 g1 rfl rfl
 obtain ⟨H2, hH2⟩ : ∃ H2, H1.set H.length (.row [V.int .i64 (DR s q : Nat), V.int .i64 (GI s q : Nat)] true) = H2 := ⟨_, rfl⟩
 rw [hH2] at hst
 have hlt := (List.getElem?_eq_some_iff.1 g1).1
 have p2 : H <+: H2 := by rw [← hH2]; exact Jk p1 (Nat.le_refl _)
 have ln2 : Heap.loadN H2 H.length 0 2 = some [V.int .i64 (DR s q : Nat), V.int .i64 (GI s q : Nat)] := by unfold Heap.loadN; rw [← hH2, List.getElem?_set_self hlt]; rfl
 clear hs hk g1 hlt hH2 hq
 refine goW ?_
 refine Bb (h' := H1) hH1 ?_
 refine goW ?_
 refine AA c1 ?_
 refine goW ?_
 refine AA c2 ?_
 refine goW ?_
 refine AE (fun hb => ?_) (fun hb => ?_)
 ·cases hb
 clear hb
 refine goW ?_
 refine AA c3 ?_
 repeat (first | refine CH ?_ (by first | exact II eLk (by rfl)))
 refine BC (Eg eLk eLk hst) ?_
 refine goW ?_
 refine AL (v := .tup [.agg [.int .i64 (DR s q : Nat), .int .i64 (GI s q : Nat)], .int .i64 0]) ?_ ⟨rfl, p2⟩
 simp only [resRf, resRs, resR, AD, AB, Nat.reduceEqDiff, reduceIte, Option.some.injEq, reduceCtorEq, T80, ln2]
 rfl
theorem PV (H : Heap) (c : Cfg) (rv : V) (id : Int) (hr : Rows H rv c.rows) (hc : Al c = true) (hid : 0 ≤ id ∧ id < c.m) :
  ∃ w H', Call Tryz.prog 70 [.agg (BJ c rv), .int .i64 id] H w H' ∧ ∃ u1 u2, w = .tup [.agg (Yv u1 u2 (FB c id) (firstM c id) 0 0), .str (strOf (KO c id)), .int .i64 0] ∧ Mem H H' [.own 1 AH u2 (FC c), .own 1 AH u1 (Dl c id)] := by
 have hfit := KP hc id
 simp only [BI, Bool.and_eq_true] at hfit
 obtain ⟨hchk, _⟩ := hfit
 obtain ⟨hm2, hloss, hseed, _⟩ := AX hc
 obtain ⟨hs, hr1, hr8, hrok⟩ := Ca hloss
 obtain ⟨a, b, ha, hb, ha1, ha3, hb1, hb3⟩ := JW hs
 have h16 := Ra ha3 hb3
 obtain ⟨s, hse⟩ : ∃ s : Nat, c.seed = s := ⟨c.seed.toNat, by omega⟩
 obtain ⟨d, hd⟩ : ∃ d : Nat, id = d := ⟨id.toNat, by omega⟩
 have hWl : (Dl c id).length = BA a b := by unfold Dl; rw [ha, hb]; simp only [Int.toNat_natCast]; exact Jg _ _ _ _
 have hZr : FC c = List.replicate (BA a b) 0 := by unfold FC; rw [ha, hb]; simp only [Int.toNat_natCast]
 have hW' : JI a b s (50000 + 16 * d) = Dl c id := by unfold Dl; rw [ha, hb, hse, hd]; simp only [Int.toNat_natCast]
 have hR' : ((DR s (40000 + 2 * d) : Nat) : Int) = FB c id := by unfold FB; rw [hse, hd]; simp only [Int.toNat_natCast]
 have hM' : ((GI s (40000 + 2 * d) : Nat) : Int) = firstM c id := by unfold firstM; rw [hse, hd]; simp only [Int.toNat_natCast]
 have hS' : MP (Dl c id) (FC c) (FB c id) (firstM c id) 0 = KO c id := rfl
 have w0 : IntKind.i64.wrap (c.m - 1) = c.m - 1 := wrap_i64 (by omega) (by omega)
 have w1 : IntKind.i64.wrap (16 * id) = 16 * id := wrap_i64 (by omega) (by omega)
 have w2 : IntKind.i64.wrap (50000 + 16 * id) = ((50000 + 16 * d : Nat) : Int) := by rw [wrap_i64 (by omega) (by omega)]; omega
 have lrow : ∀ r ∈ c.rows, r.1.length ≤ 2 ^ 47 := fun rr hrr => by
  have := hrok rr hrr
  simp only [Dp, Bool.and_eq_true] at this
  have := BP (CC this.1).2
  omega
 generalize Dl c id = W at *
 generalize FC c = Z at *
 generalize FB c id = r at *
 generalize firstM c id = m at *
 generalize KO c id = S at *
 refine Ao fit mixed Tryz.func70 rfl rfl rfl (by kernel_rfl) fun hM => ?_
 refine AO (AK ?_)
 refine Ax T26 fun b1 H1 hM => ?_
 refine Aj (cs := Dr) T84 rfl fun b2 H2 hM => ?_
 have c1 := EA H2 c rv (hr.mono hM.pre) (by omega) lrow
 rw [hc] at c1
 have c2 := DY H2 id 0 (c.m - 1)
 rw [within_iff.2 ⟨hid.1, by omega⟩] at c2
 obtain ⟨u1, H3, c3, m3⟩ := ZV H2 a b s (50000 + 16 * d) ⟨ha1, ha3⟩ ⟨hb1, hb3⟩ (by omega) (by omega)
 rw [hW'] at m3
 rw [← ha, ← hb, ← hse] at c3
 have c4 := OZ H3 s d (by omega) (by omega)
 rw [hR', hM', ← hse, ← hd] at c4
 have hlen := m3.sl.len T27 rfl
 rw [hWl] at hlen
 have t1 := m3.sl.cells
 have t2 := m3.sl.two
 clear hid hm2 hloss hseed hs hr1 hr8 hrok ha hb ha1 ha3 hb1 hb3 hse hd hW' hR' hM' hWl lrow
 refine goM ?_
 refine AA c1 ?_
 refine goM ?_
 refine AA c2 ?_
 refine goM ?_
 refine AA c3 ?_
 replace hM := hM.BH m3.mem
 refine goM ?_
 refine AA c4 ?_
 refine goM ?_
 refine Aj (cs := [.int .i64 0, .int .i64 0]) T80 rfl fun b3 H4 hM => ?_
 refine AM T80 fun H5 hM => ?_
 refine goM ?_
 refine Qf 1 AH T27 rfl T3 (n := BA a b) (z := 0) rfl rfl rfl rfl rfl ⟨by show (8 : Int) * _ ≤ _; omega, by omega⟩ fun u2 H6 hM => ?_
 rw [← hZr] at hM
 have t3 := (hM.sl .here).cells
 refine goM ?_
 refine IZ (cs := Ay) T82 rfl fun b4 H7 hM => ?_
 refine DT T82 fun H8 hM => ?_
 have c5 := JR H8 u1 u2 W Z r m 0 (hM.slG) (hM.slG) hchk
 rw [hS'] at c5
 refine goM ?_
 refine AA c5 ?_
 refine goM ?_
 refine AM T84 fun H9 hM => ?_
 refine goM ?_
 exact CI ⟨_, _, rfl, hM.Ea⟩
def OD (k : Chk) : Bool := CT k.ws k.vs k.r k.m k.t
theorem Zu {H H' : Heap} {u1 u2 : V} {xs ys : List Int} (h1 : BR 1 AH H H' u1 xs) (h2 : BR 1 AH H H' u2 ys) (ha : Fb u1 u2) : Mem H H' [.own 1 AH u1 xs, .own 1 AH u2 ys] := by
 have m1 := h1.mem
 have m2 := h2.mem
 refine ⟨h1.1, fun r hr => ?_, fun r hr => ?_, ?_⟩
 ·simp at hr
  rcases hr with rfl | rfl
  ·exact m1.ok _ (by simp)
  ·exact m2.ok _ (by simp)
 ·simp at hr
  rcases hr with rfl | rfl
  ·exact m1.low _ (by simp)
  ·exact m2.low _ (by simp)
 ·simp only [List.pairwise_cons, List.mem_singleton, forall_eq, List.not_mem_nil, false_implies, implies_true, List.Pairwise.nil, and_true]
  intro c hc hc2
  exact ha c c hc hc2 rfl
theorem XY (H : Heap) (c : Cfg) (rv w v : V) (id : Int) (k : Chk) (hr : Rows H rv c.rows) (hk : KAt H w v k) (hc : c.Fit) (hf : k.Fit) :
  ∃ a b H', Call Tryz.prog 72 [.agg (BJ c rv), .int .i64 id, .agg (kC w v k)] H (.tup [.agg (kC a b (Cs c id k).1), .int .i64 (Cs c id k).2]) H' ∧ Mem H H' [.own 1 AH a (Cs c id k).1.ws, .own 1 AH b (Cs c id k).1.vs] := by
 have l1 := hc.rows
 have l2 := hc.row
 have l3 := hf.ws
 have l4 := hf.vs
 have bad : ∀ e, ((FK c id k) = false ∧ e = 2100) ∨ ((FK c id k) = true ∧ decide (k.t ≥ c.total) = true ∧ e = 2101) → ∃ a b H', Call Tryz.prog 72 [.agg (BJ c rv), .int .i64 id, .agg (kC w v k)] H (.tup [.agg (kC a b FP), .int .i64 e]) H' ∧ Mem H H' [.own 1 AH a FP.ws, .own 1 AH b FP.vs] := fun e he =>
  ⟨.AN, .AN, H, RT H c rv w v k.ws k.vs id k.r k.m k.t e hr hk.ws hk.vs (by omega) (fun r h => by have := l2 r h; omega) (by omega) (by omega) he, ((Mem.start H).nil 1 AH).nil 1 AH⟩
 unfold Cs
 cases hok : FK c id k with
 | false => exact bad 2100 (.inl ⟨hok, rfl⟩)
 | true =>
  by_cases ht : k.t ≥ c.total
  ·simp only [ht, if_true]
   exact bad 2101 (.inr ⟨hok, decide_eq_true ht, rfl⟩)
  ·obtain ⟨h1, h2, h3⟩ := KC hok
   obtain ⟨u1, u2, H', c1, o1, o2, ha⟩ := PW H c rv w v k.ws k.vs id k.r k.m k.t hr hk.ws hk.vs h1 h2 h3 (by omega)
   simp only [ht, if_true, if_false]
   exact ⟨u1, u2, H', c1, Zu o1 o2 ha⟩
theorem SB (H : Heap) (w v : V) (k : Chk) (hk : KAt H w v k) (hf : k.Fit) : ∃ u H', Call Tryz.prog 45 [.agg (kC w v k)] H u H' ∧ ∃ a b, u = .agg (kC a b k) ∧ Mem H H' [.own 1 AH b k.vs, .own 1 AH a k.ws] := by
 have l1 := hf.ws
 have l2 := hf.vs
 have s1 := hk.ws.cells
 have s2 := hk.vs.cells
 refine Ao fit mixed Tryz.func45 rfl rfl rfl (by kernel_rfl) fun hM => ?_
 refine AO (AK ?_)
 refine Ax T82 fun b1 H1 hM => ?_
 refine Aj (cs := Ay) T82 rfl fun b2 H2 hM => ?_
 refine goM ?_
 refine Aa AH [] [] T27 rfl T3 rfl (Ba []) (by decide) fun e1 H3 hM => ?_
 refine goM ?_
 refine Bg (hk.ws.mono hM.pre) fun a H4 hM => ?_
 have s3 := (hM.sl .here).cells
 refine goM ?_
 refine AM T27 fun H5 hM => ?_
 refine goM ?_
 refine Aa AH [] [] T27 rfl T3 rfl (Ba []) (by decide) fun e2 H6 hM => ?_
 refine goM ?_
 refine Bg (hk.vs.mono hM.pre) fun b H7 hM => ?_
 have s4 := (hM.sl .here).cells
 refine goM ?_
 refine AM T27 fun H8 hM => ?_
 refine goM ?_
 refine AM T82 fun H9 hM => ?_
 refine goM ?_
 exact AY ⟨a, b, rfl, hM.Ea⟩
theorem NC (s : ByteArray) : within (s.size : Int) 1 256 = DX s := by
 unfold DX
 apply Bool.eq_iff_iff.2
 rw [within_iff]
 simp
 omega
theorem SF (e : Ent) : Gf e = (within e.id 0 1024 && DX e.tx && within e.n 0 8) := rfl
theorem Qt {es : List Ent} {k m : Nat} {e x : Ent} (he : es[k]? = some e) (hm : m < k) (hx : es[m]? = some x) (ht : EF x.tx e.tx = true) : okAt es k = false := by
 rw [Bool.eq_false_iff]
 intro ho
 unfold okAt at ho
 rw [he] at ho
 simp only [Bool.and_eq_true, decide_eq_true_eq] at ho
 have := Jf (s := e.tx) (k := m) (by rw [ho.2]; exact hm) hx
 rw [ht] at this; cases this
def prevOk (es : List Ent) (k : Nat) (e : Ent) : Bool := match k with
 | 0 => true
 | j + 1 => match es[j]? with
  | none => true
  | some p => decide (p.id < e.id)
theorem bK {es : List Ent} {k : Nat} {e : Ent} (h : es[k]? = some e) : okAt es k = (Gf e && prevOk es k e && decide (Bj es e.tx = k)) := by
 unfold okAt; rw [h]; rfl
theorem FF (H : Heap) (v : V) (es : List Ent) (hx : Sl 3 BE H v es) (hl : es.length ≤ 2 ^ 47) : Call Tryz.prog 83 [v] H (.bool (Az es)) H := by
 refine AQ fit mixed Tryz.func83 rfl rfl rfl (by kernel_rfl) rfl fun hM => ?_
 obtain ⟨n, hn⟩ : ∃ n, es.length = n := ⟨_, rfl⟩
 have hlen := hx.len T30 rfl
 rw [hn] at hlen
 refine goM ?_
 refine AT (fun c ρ h => ∃ k : Nat, k ≤ n ∧ c = n - k ∧ h = H ∧ (∀ j, j < k → okAt es j = true) ∧ ρ 0 = v ∧ ρ 3 = .int .i64 (k : Int)) ⟨0, Nat.zero_le _, rfl, rfl, by intro j hj; omega, rfl, rfl⟩ ?_
 clear hM
 rintro _ ρ h ⟨k, hk, rfl, rfl, hgood, g0, g3⟩
 refine goM ?_
 refine AE (fun hb => ?_) (fun hb => ?_)
 ·have hk' : k < n := by simpa using hb
  clear hb
  obtain ⟨e, he⟩ : ∃ e, es[k]? = some e := ⟨es[k]'(by omega), by simp⟩
  obtain ⟨b, o, hie, _, l0, l1, l2⟩ := CV hx he
  have c1 := DY h e.id 0 1024
  have c2 := DY h (e.tx.size : Int) 1 256
  have c3 := DY h e.n 0 8
  rw [NC] at c2
  have hsl := Ow e.tx
  have hw := AG (n := k) (by omega)
  have hfail := fun hq => So (es := es) (k := k) (by omega) hq
  have hnext : okAt es k = true → ∀ j, j < k + 1 → okAt es j = true := fun ho j hj => by
   rcases Nat.lt_or_eq_of_le (Nat.le_of_lt_succ hj) with h1 | h1
   ·exact hgood j h1
   ·subst h1; exact ho
  have hoth := fun (m : Nat) (x : Ent) (hm : m < k) (hx : es[m]? = some x) (ht : EF x.tx e.tx = true) => Qt he hm hx ht
  have hown := fun (hall : ∀ (m : Nat) (x : Ent), m < k → es[m]? = some x → EF x.tx e.tx = false) => MC he rfl hall
  have hoe := bK he
  rw [SF] at hoe
  obtain ⟨q1, e1⟩ : ∃ q, within e.id 0 1024 = q := ⟨_, rfl⟩
  obtain ⟨q2, e2⟩ : ∃ q, DX e.tx = q := ⟨_, rfl⟩
  obtain ⟨q3, e3⟩ : ∃ q, within e.n 0 8 = q := ⟨_, rfl⟩
  rw [e1] at c1 hoe
  rw [e2] at c2 hoe
  rw [e3] at c3 hoe
  clear e1 e2 e3 hgood
  cases q1 with
  | false =>
   rw [hfail (by rw [hoe]; simp)]
   clear hfail hnext hoth hown hoe he hlen
   refine goM ?_
   refine AI c1 ?_
   refine goM ?_
   exact AY ⟨rfl, List.prefix_refl _⟩
  | true =>
  cases q2 with
  | false =>
   rw [hfail (by rw [hoe]; simp)]
   clear hfail hnext hoth hown hoe he hlen
   refine goM ?_
   refine AI c1 ?_
   refine goM ?_
   refine AI c2 ?_
   refine goM ?_
   exact AY ⟨rfl, List.prefix_refl _⟩
  | true =>
  cases q3 with
  | false =>
   rw [hfail (by rw [hoe]; simp)]
   clear hfail hnext hoth hown hoe he hlen
   refine goM ?_
   refine AI c1 ?_
   refine goM ?_
   refine AI c2 ?_
   refine goM ?_
   refine AI c3 ?_
   refine goM ?_
   exact AY ⟨rfl, List.prefix_refl _⟩
  | true =>
  obtain ⟨q4, e4⟩ : ∃ q, prevOk es k e = q := ⟨_, rfl⟩
  rw [e4] at hoe
  cases q4 with
  | false =>
   rw [hfail (by rw [hoe]; simp)]
   cases k with
   | zero => cases e4
   | succ k =>
    obtain ⟨p, hp⟩ : ∃ p, es[k]? = some p := ⟨es[k]'(by omega), by simp⟩
    obtain ⟨b2, o2, hip, _, m0, _⟩ := CV hx hp
    simp only [prevOk, hp] at e4
    have z0 : decide (((k + 1 : Nat) : Int) > 0) = true := decide_eq_true (by omega)
    have wk : IntKind.i64.wrap (((k + 1 : Nat) : Int) - 1) = (k : Int) := by rw [wrap_i64 (by omega) (by omega)]; omega
    have hcmp : decide (p.id ≥ e.id) = true := by
     have := of_decide_eq_false e4
     exact decide_eq_true (by omega)
    clear hfail hnext hoth hown hoe he hlen hp e4
    refine goM ?_
    refine AI c1 ?_
    refine goM ?_
    refine AI c2 ?_
    refine goM ?_
    refine AI c3 ?_
    refine goM ?_
    exact AY ⟨rfl, List.prefix_refl _⟩
  | true =>
   have hgt : ∃ z : Bool, decide ((k : Int) > 0) = z ∧ (z = true → ∃ (p : Ent) (b2 o2 : Nat) (wk : Int), IntKind.i64.wrap ((k : Int) - 1) = wk ∧ idxV T 30 v wk = some (.ptr b2 o2) ∧ loadV T 3 h b2 o2 = some (.int .i64 p.id) ∧ decide (p.id ≥ e.id) = false) := by
    cases k with
    | zero => exact ⟨false, by decide, fun h => by cases h⟩
    | succ k =>
     obtain ⟨p, hp⟩ : ∃ p, es[k]? = some p := ⟨es[k]'(by omega), by simp⟩
     obtain ⟨b2, o2, hip, _, m0, _⟩ := CV hx hp
     simp only [prevOk, hp] at e4
     refine ⟨true, decide_eq_true (by omega), fun _ => ⟨p, b2, o2, k, by rw [wrap_i64 (by omega) (by omega)]; omega, hip, m0, ?_⟩⟩
     have := of_decide_eq_true e4
     exact decide_eq_false (by omega)
   obtain ⟨z, hz, hzt⟩ := hgt
   cases z with
   | false =>
    clear hzt e4
    refine goM ?_
    refine AI c1 ?_
    refine goM ?_
    refine AI c2 ?_
    refine goM ?_
    refine AI c3 ?_
    refine goM ?_
    clear hz c1 c2 c3 l0 l2 hsl
    refine AT (fun c ρ h' => ∃ m : Nat, m ≤ k ∧ c = k - m ∧ h' = h ∧ (∀ (j : Nat) (x : Ent), j < m → es[j]? = some x → EF x.tx e.tx = false) ∧ ρ 0 = v ∧ ρ 3 = .int .i64 (k : Int) ∧ ρ 4 = .int .i64 (m : Int)) ⟨0, Nat.zero_le _, rfl, rfl, by intro j x hj; omega, by simp [AD, AB, *], by simp [AD, AB, *], rfl⟩ ?_
    clear g0 g3
    rintro _ ρ h' ⟨m, hm, rfl, rfl, hall, g0, g3, g4⟩
    refine goM ?_
    refine AE (fun hb => ?_) (fun hb => ?_)
    ·have hm' : m < k := by simpa using hb
     clear hb
     obtain ⟨y, hy⟩ : ∃ e, es[m]? = some e := ⟨es[m]'(by omega), by simp⟩
     obtain ⟨b3, o3, hi3, _, _, k1, _⟩ := CV hx hy
     have hwm := AG (n := m) (by omega)
     cases hq : EF y.tx e.tx with
     | true =>
      rw [hfail (hoth m y hm' hy hq)]
      replace hq := (GB y.tx e.tx).trans hq
      clear hfail hnext hoth hown hoe he hlen hall hy
      refine goM ?_
      exact AY ⟨rfl, List.prefix_refl _⟩
     | false =>
      have hall2 : ∀ (j : Nat) (x : Ent), j < m + 1 → es[j]? = some x → EF x.tx e.tx = false := fun j x hj hx => by
       rcases Nat.lt_or_eq_of_le (Nat.le_of_lt_succ hj) with h1 | h1
       ·exact hall j x h1 hx
       ·subst h1
        rw [hy] at hx; cases hx; exact hq
      replace hq := (GB y.tx e.tx).trans hq
      clear hfail hnext hoth hown hoe he hlen hall hy
      refine goM ?_
      exact ⟨k - (m + 1), by omega, m + 1, hm', rfl, rfl, hall2, by simp [AD, AB, *]⟩
    ·have hm' : m = k := by have : ¬ m < k := by simpa using hb
                            omega
     subst hm'
     have hg := hnext (by rw [hoe, hown hall]; simp)
     clear hb hfail hnext hoth hown hoe he hlen hall
     refine goM ?_
     exact ⟨n - (m + 1), by omega, m + 1, hk', rfl, rfl, hg, by simp [AD, AB, *]⟩
   | true =>
    obtain ⟨p, b2, o2, wk, hwk, hip, m0, hcmp⟩ := hzt rfl
    clear hzt e4
    refine goM ?_
    refine AI c1 ?_
    refine goM ?_
    refine AI c2 ?_
    refine goM ?_
    refine AI c3 ?_
    refine goM ?_
    clear hz c1 c2 c3 l0 l2 hsl hip m0 hcmp hwk
    refine AT (fun c ρ h' => ∃ m : Nat, m ≤ k ∧ c = k - m ∧ h' = h ∧ (∀ (j : Nat) (x : Ent), j < m → es[j]? = some x → EF x.tx e.tx = false) ∧ ρ 0 = v ∧ ρ 3 = .int .i64 (k : Int) ∧ ρ 4 = .int .i64 (m : Int)) ⟨0, Nat.zero_le _, rfl, rfl, by intro j x hj; omega, by simp [AD, AB, *], by simp [AD, AB, *], rfl⟩ ?_
    clear g0 g3
    rintro _ ρ h' ⟨m, hm, rfl, rfl, hall, g0, g3, g4⟩
    refine goM ?_
    refine AE (fun hb => ?_) (fun hb => ?_)
    ·have hm' : m < k := by simpa using hb
     clear hb
     obtain ⟨y, hy⟩ : ∃ e, es[m]? = some e := ⟨es[m]'(by omega), by simp⟩
     obtain ⟨b3, o3, hi3, _, _, k1, _⟩ := CV hx hy
     have hwm := AG (n := m) (by omega)
     cases hq : EF y.tx e.tx with
     | true =>
      rw [hfail (hoth m y hm' hy hq)]
      replace hq := (GB y.tx e.tx).trans hq
      clear hfail hnext hoth hown hoe he hlen hall hy
      refine goM ?_
      exact AY ⟨rfl, List.prefix_refl _⟩
     | false =>
      have hall2 : ∀ (j : Nat) (x : Ent), j < m + 1 → es[j]? = some x → EF x.tx e.tx = false := fun j x hj hx => by
       rcases Nat.lt_or_eq_of_le (Nat.le_of_lt_succ hj) with h1 | h1
       ·exact hall j x h1 hx
       ·subst h1
        rw [hy] at hx; cases hx; exact hq
      replace hq := (GB y.tx e.tx).trans hq
      clear hfail hnext hoth hown hoe he hlen hall hy
      refine goM ?_
      exact ⟨k - (m + 1), by omega, m + 1, hm', rfl, rfl, hall2, by simp [AD, AB, *]⟩
    ·have hm' : m = k := by have : ¬ m < k := by simpa using hb
                            omega
     subst hm'
     have hg := hnext (by rw [hoe, hown hall]; simp)
     clear hb hfail hnext hoth hown hoe he hlen hall
     refine goM ?_
     exact ⟨n - (m + 1), by omega, m + 1, hk', rfl, rfl, hg, by simp [AD, AB, *]⟩
 ·have hk' : k = n := by have : ¬ k < n := by simpa using hb
                         omega
  subst hk'
  have hres : Az es = decide ((k : Int) ≤ 64) := by
   unfold Az
   have : (List.range es.length).all (okAt es) = true := by
    simp only [List.all_eq_true, List.mem_range]
    exact fun i hi => hgood i (by omega)
   rw [this, hn, Bool.and_true]
   apply Bool.eq_iff_iff.2
   simp only [decide_eq_true_eq]; omega
  rw [hres]
  clear hb hres hgood
  refine goM ?_
  exact AY ⟨rfl, List.prefix_refl _⟩
theorem MS (H : Heap) (v : V) (es : List Ent) (s : ByteArray) (hx : Sl 3 BE H v es) (hl : es.length ≤ 2 ^ 47) :
  ∃ w H', Call Tryz.prog 71 [v, .str s] H w H' ∧ ∃ u, w = .tup [u, .int .i64 (putS es s).2.1, .int .i64 (putS es s).2.2] ∧ Mem H H' [.own 3 BE u (putS es s).1] := by
 refine Ao fit mixed Tryz.func71 rfl rfl rfl (by kernel_rfl) fun hM => ?_
 have c1 := FF H v es hx hl
 have c2 := DY H (s.size : Int) 1 256
 rw [NC] at c2
 have hsl := Ow s
 unfold putS
 cases hm : Az es with
 | false =>
  rw [hm] at c1
  rw [Bool.false_and, if_pos rfl]
  clear hm c2
  refine goM ?_
  refine AA c1 ?_
  refine goM ?_
  exact CI ⟨_, rfl, hM.nil 3 BE⟩
 | true =>
  rw [hm] at c1
  have hs := Cd hm
  cases ht : DX s with
  | false =>
   rw [ht] at c2
   rw [Bool.and_false, if_pos rfl]
   clear hm ht hs
   refine goM ?_
   refine AA c1 ?_
   refine goM ?_
   refine AA c2 ?_
   refine goM ?_
   exact CI ⟨_, rfl, hM.nil 3 BE⟩
  | true =>
   rw [ht] at c2
   rw [Bool.and_true, if_neg (by decide)]
   have hn64 := hs.len
   have hlen := hx.len T30 rfl
   obtain ⟨n, hn⟩ : ∃ n, es.length = n := ⟨_, rfl⟩
   rw [hn] at hlen hn64
   clear hm ht
   refine goM ?_
   refine AA c1 ?_
   refine goM ?_
   refine AA c2 ?_
   refine goM ?_
   refine Aa BE [] [] T30 rfl T63 rfl (Du []) (by decide) fun e1 H3 hM => ?_
   refine goM ?_
   refine Bg (hx.mono hM.pre) (xs := []) (hb := by simp only [List.length_nil]; omega) fun u H1 hM => ?_
   have hlenu := (hM.sl .here).len T30 rfl
   rw [List.nil_append, hn] at hlenu
   rw [List.nil_append] at hM
   clear c1 c2
   refine goM ?_
   refine AT (fun c ρ h => ∃ k : Nat, k ≤ n ∧ c = n - k ∧ h = H1 ∧ (∀ (j : Nat) (x : Ent), j < k → es[j]? = some x → EF x.tx s = false) ∧ ρ 0 = v ∧ ρ 1 = .str s ∧ ρ 7 = u ∧ ρ 8 = .int .i64 (k : Int)) ⟨0, Nat.zero_le _, rfl, rfl, by intro j x hj; omega, rfl, rfl, rfl, rfl⟩ ?_
   rintro _ ρ h ⟨k, hk, rfl, rfl, hall, g0, g1, g7, g8⟩
   refine goM ?_
   refine AE (fun hb => ?_) (fun hb => ?_)
   ·have hk' : k < n := by simpa using hb
    clear hb
    obtain ⟨e, he⟩ : ∃ e, es[k]? = some e := ⟨es[k]'(by omega), by simp⟩
    obtain ⟨b, o, hie, _, _, lo1, lo2⟩ := CV (hM.sl .here) he
    have hw := AG (n := k) (by omega)
    have hkl := (List.getElem?_eq_some_iff.1 he).1
    cases hq : EF e.tx s with
    | false =>
     have hall2 : ∀ (j : Nat) (x : Ent), j < k + 1 → es[j]? = some x → EF x.tx s = false := fun j x hj hx => by
      rcases Nat.lt_or_eq_of_le (Nat.le_of_lt_succ hj) with h1 | h1
      ·exact hall j x h1 hx
      ·subst h1
       rw [he] at hx; cases hx; exact hq
     replace hq := (GB e.tx s).trans hq
     clear he hall hs
     refine goM ?_
     exact ⟨n - (k + 1), by omega, k + 1, hk', rfl, rfl, hall2, by simp [AD, AB, *]⟩
    | true =>
     have hN : Bj es s = k := MC he (Ft.1 hq) hall
     rw [hN, he]
     simp only
     replace hq := (GB e.tx s).trans hq
     obtain ⟨hn0, hn8⟩ := Ml hs he
     have wn : IntKind.i64.wrap (e.n + 1) = e.n + 1 := wrap_i64 (by omega) (by omega)
     obtain ⟨H2, hst, m2⟩ := hM.GF .here he 1 hie
     obtain ⟨_, _, hie', _, lo0, _⟩ := CV (m2.sl .here) (k := k) (e := ⟨e.id, e.tx, e.n + 1⟩) (by rw [Ec 1 he, List.getElem?_set_self hkl])
     rw [hie] at hie'
     cases hie'
     by_cases h8 : e.n = 8
     ·have d8 : (e.n == 8) = true := by rw [h8]; rfl
      simp only [h8, if_true]
      clear hst m2 hn0 hn8 he hs wn h8 hkl hall hN
      refine goM ?_
      exact CI ⟨_, rfl, (hM.sub (L' := []) (by simp)).nil 3 BE⟩
     ·have d8 : (e.n == 8) = false := by simpa using h8
      simp only [h8, if_false]
      clear hn0 hn8 he hs h8 hkl hM hall hN
      refine goM ?_
      refine Dc hst ?_
      refine goM ?_
      exact CI ⟨_, rfl, m2.sub sbG⟩
   ·have hk' : k = n := by have : ¬ k < n := by simpa using hb
                           omega
    subst hk'
    have hN : Bj es s = es.length := SS fun j x hx => hall j x (by have := (List.getElem?_eq_some_iff.1 hx).1; omega) hx
    rw [hN, List.getElem?_eq_none (Nat.le_refl _)]
    simp only
    rw [hn]
    clear hb hall hN hs
    have hl64 : ((k : Int) == 64) = decide (k = 64) := by
     by_cases h : k = 64
     ·subst h; rfl
     ·rw [decide_eq_false h]; simp; omega
    by_cases h64 : k = 64
    ·rw [decide_eq_true h64] at hl64
     rw [if_pos h64]
     clear h64
     refine goM ?_
     exact CI ⟨_, rfl, (hM.sub (L' := []) (by simp)).nil 3 BE⟩
    ·rw [decide_eq_false h64] at hl64
     rw [if_neg h64]
     clear h64
     refine goM ?_
     obtain ⟨z, hz⟩ : ∃ z, Bh es = z := ⟨_, rfl⟩
     rw [hz]
     clear g7 g8 hl64
     refine AT (fun c ρ h' => ∃ q : Nat, q ≤ k ∧ c = k - q ∧ h' = h ∧ freeFrom (es.drop q) q = z ∧ ρ 0 = v ∧ ρ 1 = .str s ∧ ρ 9 = .int .i64 (q : Int)) ⟨0, Nat.zero_le _, rfl, rfl, hz, by simp [AD, AB, *], by simp [AD, AB, *], rfl⟩ ?_
     clear g0 g1
     rintro _ ρ h' ⟨q, hq, rfl, rfl, hfr, g0, g1, g9⟩
     have hxh := hx.mono hM.pre
     by_cases hqk : q < k ∧ ∃ e, es[q]? = some e ∧ e.id = (q : Int)
     ·obtain ⟨hq', e, he, hek⟩ := hqk
      obtain ⟨b, o, hie, _, lo0, _⟩ := CV hxh he
      have dkn : decide ((q : Int) < (k : Int)) = true := decide_eq_true (by omega)
      have dek : (e.id == (q : Int)) = true := by simpa using hek
      rw [Hf he, if_pos hek] at hfr
      have hw := AG (n := q) (by omega)
      clear he hek
      refine goM ?_
      exact ⟨k - (q + 1), by omega, q + 1, hq', rfl, rfl, hfr, by simp [AD, AB, *]⟩
     ·have hqz : q = z := by
       by_cases hq' : q < k
       ·obtain ⟨e, he⟩ : ∃ e, es[q]? = some e := ⟨es[q]'(by omega), by simp⟩
        rw [Hf he, if_neg (fun h => hqk ⟨hq', e, he, h⟩)] at hfr
        exact hfr
       ·obtain rfl : q = k := by omega
        rw [List.drop_eq_nil_of_le (by omega)] at hfr
        exact hfr
      have hstop : decide ((q : Int) < (k : Int)) = false ∨ ∃ (e : Ent) (b o : Nat), decide ((q : Int) < (k : Int)) = true ∧ idxV T 30 v (q : Int) = some (.ptr b o) ∧ loadV T 3 h' b o = some (.int .i64 e.id) ∧ (e.id == (q : Int)) = false := by
       by_cases hq' : q < k
       ·obtain ⟨e, he⟩ : ∃ e, es[q]? = some e := ⟨es[q]'(by omega), by simp⟩
        obtain ⟨b, o, hie, _, lo0, _⟩ := CV hxh he
        refine .inr ⟨e, b, o, decide_eq_true (by omega), hie, lo0, ?_⟩
        have : ¬ e.id = (q : Int) := fun h => hqk ⟨hq', e, he, h⟩
        simpa using this
       ·exact .inl (decide_eq_false (by omega))
      have htake := hx.take (k := q) (by omega)
      have hrest := hx.rest (l := q) (by omega)
      obtain ⟨ut, hut, hst⟩ := htake
      obtain ⟨ur, hur, hsr⟩ := hrest
      subst hqz
      have hb1 : (es.take q).length ≤ 64 := by rw [List.length_take]; omega
      have hb2 : (es.drop q).length ≤ 64 := by rw [List.length_drop]; omega
      clear hz hqk hfr
      have hlt : (es.take q).length + (es.drop q).length = es.length := by rw [List.length_take, List.length_drop]; omega
      rcases hstop with hd | ⟨e, b, o, hd, hie, lo0, dek⟩
      all_goals
       refine goM ?_
       refine Aa BE [] [] T30 rfl T63 rfl (Du []) (by decide) fun e1 H3 hM => ?_
       refine goM ?_
       refine Bg (hst.mono hM.pre) (xs := []) (hb := by simp only [List.length_nil]; omega) fun u1 H4 hM => ?_
       rw [List.nil_append] at hM
       refine goM ?_
       refine Aa BE [⟨(q : Int), s, 1⟩] (Hy ⟨(q : Int), s, 1⟩) T30 rfl T63 rfl (Du [⟨(q : Int), s, 1⟩]) (by decide) fun e2 H5 hM => ?_
       refine goM ?_
       refine Bg (hM.sl .here) (xs := es.take q) (hh := .there .here) (hb := by simp only [List.length_cons, List.length_nil]; omega) fun u2 H6 hM => ?_
       refine goM ?_
       refine Bg (hsr.mono hM.pre) (xs := es.take q ++ [⟨(q : Int), s, 1⟩]) (hh := .there .here) (hb := by simp only [List.length_append, List.length_cons, List.length_nil]; omega) fun u3 H7 hM => ?_
       rw [List.append_assoc] at hM
       refine goM ?_
       exact CI ⟨_, rfl, hM.Ea⟩
theorem OY (H : Heap) (v : V) (es : List Ent) (id : Int) (hx : Sl 3 BE H v es) (hl : es.length ≤ 2 ^ 47) :
  ∃ w H', Call Tryz.prog 134 [v, .int .i64 id] H w H' ∧ ∃ u, w = .tup [u, .int .i64 (DP es id).2] ∧ Mem H H' [.own 3 BE u (DP es id).1] := by
 refine Ao fit mixed Tryz.func134 rfl rfl rfl (by kernel_rfl) fun hM => ?_
 have c1 := FF H v es hx hl
 cases hm : Az es with
 | false =>
  have hr : DP es id = ([], 1500) := by unfold DP; rw [if_pos hm]
  rw [hm] at c1
  rw [hr]
  clear hm
  refine goM ?_
  refine AA c1 ?_
  refine goM ?_
  exact An ⟨_, rfl, hM.nil 3 BE⟩
 | true =>
  rw [hm] at c1
  have hdef : ∀ r, (∀ x : List Ent × Int, (match es[DD es id]? with
    | none => ([], 1502)
    | some e => if e.n = 0 then ([], 1502) else (GF es (DD es id) (-1), 0)) = x → x = r) → DP es id = r := fun r h => h _ (by unfold DP; rw [if_neg (by rw [hm]; decide)]; cases es[DD es id]? <;> rfl)
  have hs := Cd hm
  have hn64 := hs.len
  obtain ⟨n, hn⟩ : ∃ n, es.length = n := ⟨_, rfl⟩
  rw [hn] at hn64
  clear hm
  refine goM ?_
  refine AA c1 ?_
  refine goM ?_
  refine Aa BE [] [] T30 rfl T63 rfl (Du []) (by decide) fun e1 H3 hM => ?_
  refine goM ?_
  refine Bg (hx.mono hM.pre) (xs := []) (hb := by simp only [List.length_nil]; omega) fun u H1 hM => ?_
  have hlenu := (hM.sl .here).len T30 rfl
  rw [List.nil_append, hn] at hlenu
  rw [List.nil_append] at hM
  clear c1
  refine goM ?_
  refine AT (fun c ρ h => ∃ k : Nat, k ≤ n ∧ c = n - k ∧ h = H1 ∧ (∀ (j : Nat) (x : Ent), j < k → es[j]? = some x → x.id = id → x.n = 0) ∧ ρ 1 = .int .i64 id ∧ ρ 6 = u ∧ ρ 7 = .int .i64 (k : Int)) ⟨0, Nat.zero_le _, rfl, rfl, by intro j x hj; omega, rfl, rfl, rfl⟩ ?_
  rintro _ ρ h ⟨k, hk, rfl, rfl, hall, g1, g6, g7⟩
  refine goM ?_
  refine AE (fun hb => ?_) (fun hb => ?_)
  ·have hk' : k < n := by simpa using hb
   clear hb
   obtain ⟨e, he⟩ : ∃ e, es[k]? = some e := ⟨es[k]'(by omega), by simp⟩
   obtain ⟨b, o, hie, _, lo0, _, lo2⟩ := CV (hM.sl .here) he
   have hw := AG (n := k) (by omega)
   obtain ⟨hn0, hn8⟩ := Ml hs he
   by_cases hgo : e.id = id ∧ e.n ≠ 0
   ·obtain ⟨h1, h2⟩ := hgo
    have d1 : (e.id == id) = true := by simpa using h1
    have d2 : decide (e.n > 0) = true := decide_eq_true (by omega)
    have hF : DD es id = k := by
     unfold DD
     have hlt := (List.getElem?_eq_some_iff.1 he).1
     rw [List.findIdx_eq hlt]
     have hel : es[k] = e := by rw [List.getElem?_eq_getElem hlt] at he; exact Option.some.inj he
     refine ⟨by rw [hel]; exact decide_eq_true h1, fun j hj => ?_⟩
     have := hs.up j k (es[j]'(by omega)) e hj (by simp) he
     rw [h1] at this
     simp; omega
    have hr : DP es id = (GF es k (-1), 0) := hdef _ fun x hx => by
     rw [hF, he] at hx
     simp only at hx
     rw [if_neg h2] at hx
     exact hx.symm
    rw [hr]
    have wn : IntKind.i64.wrap (e.n - 1) = e.n + -1 := by rw [wrap_i64 (by omega) (by omega)]; omega
    obtain ⟨H2, hst, m2⟩ := hM.GF .here he (-1) hie
    clear hn0 hn8 he hs h1 h2 hM hall hF hdef hr
    refine goM ?_
    refine Dc hst ?_
    refine goM ?_
    exact An ⟨_, rfl, m2.sub sbG⟩
   ·have hall2 : ∀ (j : Nat) (x : Ent), j < k + 1 → es[j]? = some x → x.id = id → x.n = 0 := fun j x hj hx hid => by
     rcases Nat.lt_or_eq_of_le (Nat.le_of_lt_succ hj) with h1 | h1
     ·exact hall j x h1 hx hid
     ·subst h1
      rw [he] at hx; cases hx
      exact Classical.not_not.1 fun h => hgo ⟨hid, h⟩
    cases d1 : (e.id == id) with
    | false =>
     clear hn0 hn8 he hs hall hgo hdef
     refine goM ?_
     exact ⟨n - (k + 1), by omega, k + 1, hk', rfl, rfl, hall2, by simp [AD, AB, *]⟩
    | true =>
     have h1 : e.id = id := by simpa using d1
     have h2 : e.n = 0 := Classical.not_not.1 fun h => hgo ⟨h1, h⟩
     have d2 : decide (e.n > 0) = false := decide_eq_false (by omega)
     clear hn0 hn8 he hs hall hgo h1 h2 hdef
     refine goM ?_
     exact ⟨n - (k + 1), by omega, k + 1, hk', rfl, rfl, hall2, by simp [AD, AB, *]⟩
  ·have hk' : k = n := by have : ¬ k < n := by simpa using hb
                          omega
   subst hk'
   have hr : DP es id = ([], 1502) := hdef _ fun x hx => by
    cases hf : es[DD es id]? with
    | none => rw [hf] at hx; exact hx.symm
    | some e =>
     have hlt := (List.getElem?_eq_some_iff.1 hf).1
     have hid : e.id = id := by
      have := List.findIdx_getElem (xs := es) (p := fun e : Ent => decide (e.id = id)) (w := hlt)
      have h2 := of_decide_eq_true this
      have hel : es[DD es id] = e := by rw [List.getElem?_eq_getElem hlt] at hf; exact Option.some.inj hf
      rw [← hel]; exact h2
     rw [hf] at hx
     simp only at hx
     rw [if_pos (hall _ e (by omega) hf hid)] at hx
     exact hx.symm
   rw [hr]
   clear hb hall hs hdef hr
   refine goM ?_
   exact An ⟨.AN, rfl, (hM.sub (L' := []) (by simp)).nil 3 BE⟩
theorem XV (H : Heap) (v : V) (es : List Ent) (id : Int) (hx : Sl 3 BE H v es) (hl : es.length ≤ 2 ^ 47) :
  Call Tryz.prog 84 [v, .int .i64 id] H (.tup [.str (Cl es id).1, .bool (Cl es id).2]) H := by
 refine AQ fit mixed Tryz.func84 rfl rfl rfl (by kernel_rfl) rfl fun hM => ?_
 have c1 := FF H v es hx hl
 obtain ⟨n, hn⟩ : ∃ n, es.length = n := ⟨_, rfl⟩
 have hlen := hx.len T30 rfl
 rw [hn] at hlen
 refine goM ?_
 refine AT (fun c ρ h => ∃ k : Nat, k ≤ n ∧ c = n - k ∧ h = H ∧ (∀ (j : Nat) (x : Ent), j < k → es[j]? = some x → x.id ≠ id) ∧ ρ 0 = v ∧ ρ 1 = .int .i64 id ∧ ρ 6 = .int .i64 (k : Int)) ⟨0, Nat.zero_le _, rfl, rfl, by intro j x hj; omega, rfl, rfl, rfl⟩ ?_
 clear hM
 rintro _ ρ h ⟨k, hk, rfl, rfl, hall, g0, g1, g6⟩
 by_cases hkn : k < n
 ·have dk : decide ((k : Int) < (n : Int)) = true := decide_eq_true (by omega)
  cases hm : Az es with
  | false =>
   rw [hm] at c1
   unfold Cl
   rw [hm, if_pos rfl]
   clear hm hall
   refine goM ?_
   refine AA c1 ?_
   refine goM ?_
   exact An ⟨rfl, List.prefix_refl _⟩
  | true =>
   rw [hm] at c1
   obtain ⟨e, he⟩ : ∃ e, es[k]? = some e := ⟨es[k]'(by omega), by simp⟩
   obtain ⟨b, o, hie, _, lo0, lo1, _⟩ := CV hx he
   have hw := AG (n := k) (by omega)
   by_cases hid : e.id = id
   ·have d1 : (e.id == id) = true := by simpa using hid
    have hF : DD es id = k := by
     unfold DD
     have hlt := (List.getElem?_eq_some_iff.1 he).1
     rw [List.findIdx_eq hlt]
     have hel : es[k] = e := by rw [List.getElem?_eq_getElem hlt] at he; exact Option.some.inj he
     refine ⟨by rw [hel]; exact decide_eq_true hid, fun j hj => ?_⟩
     have := hall j (es[j]'(by omega)) hj (by simp)
     simpa using this
    unfold Cl
    rw [hm, if_neg (by decide), hF, he]
    clear hm hall hF he hid
    refine goM ?_
    refine AA c1 ?_
    refine goM ?_
    exact An ⟨rfl, List.prefix_refl _⟩
   ·have d1 : (e.id == id) = false := by simpa using hid
    have hall2 : ∀ (j : Nat) (x : Ent), j < k + 1 → es[j]? = some x → x.id ≠ id := fun j x hj hx => by
     rcases Nat.lt_or_eq_of_le (Nat.le_of_lt_succ hj) with h1 | h1
     ·exact hall j x h1 hx
     ·subst h1
      rw [he] at hx; cases hx; exact hid
    clear hm hall he hid
    refine goM ?_
    refine AA c1 ?_
    refine goM ?_
    exact ⟨n - (k + 1), by omega, k + 1, hkn, rfl, rfl, hall2, by simp [AD, AB, *]⟩
 ·have dk : decide ((k : Int) < (n : Int)) = false := decide_eq_false (by omega)
  have hres : Cl es id = (⟨#[]⟩, false) := by
   unfold Cl
   split
   ·rfl
   ·have : es[DD es id]? = none := by
     rw [List.getElem?_eq_none_iff]
     apply Nat.le_of_not_lt
     intro hlt
     have h2 := List.findIdx_getElem (xs := es) (p := fun e : Ent => decide (e.id = id)) (w := hlt)
     exact hall (DD es id) (es[DD es id]'hlt) (by omega) (by simp) (of_decide_eq_true h2)
    rw [this]
  rw [hres]
  clear hall hres hkn
  refine goM ?_
  exact An ⟨rfl, List.prefix_refl _⟩
theorem Mx (H : Heap) (v : V) (es : List Ent) (hx : Sl 3 BE H v es) (hl : es.length ≤ 2 ^ 47) :
  ∃ w H', Call Tryz.prog 58 [v] H w H' ∧ ∃ u, w = .tup [u, .int .i64 (EE es).2] ∧ Mem H H' [.own 3 BE u (EE es).1] := by
 refine Ao fit mixed Tryz.func58 rfl rfl rfl (by kernel_rfl) fun hM => ?_
 have c1 := FF H v es hx hl
 unfold EE
 cases hm : Az es with
 | false =>
  rw [hm] at c1
  rw [if_pos rfl]
  clear hm
  refine goM ?_
  refine AA c1 ?_
  refine goM ?_
  exact An ⟨_, rfl, hM.nil 3 BE⟩
 | true =>
  rw [hm] at c1
  rw [if_neg (by decide)]
  have hs := Cd hm
  have hn64 := hs.len
  obtain ⟨n, hn⟩ : ∃ n, es.length = n := ⟨_, rfl⟩
  have hlen := hx.len T30 rfl
  rw [hn] at hn64 hlen
  clear hm
  refine goM ?_
  refine AA c1 ?_
  refine goM ?_
  clear c1
  replace hM := hM.nil 3 BE
  refine AT (fun c ρ h => ∃ (k : Nat) (u : V), k ≤ n ∧ c = n - k ∧ Mem H h [.own 3 BE u ((es.take k).filter fun e => decide (e.n ≠ 0))] ∧ ρ 0 = v ∧ ρ 4 = u ∧ ρ 5 = .int .i64 (k : Int)) ⟨0, .AN, Nat.zero_le _, rfl, by simpa using hM, rfl, rfl, rfl⟩ ?_
  clear hM
  rintro _ ρ h ⟨k, u, hk, rfl, hM, g0, g4, g5⟩
  refine goM ?_
  refine AE (fun hb => ?_) (fun hb => ?_)
  ·have hk' : k < n := by simpa using hb
   clear hb
   obtain ⟨e, he⟩ : ∃ e, es[k]? = some e := ⟨es[k]'(by omega), by simp⟩
   obtain ⟨b, o, hie, hlo, _, _, lo2⟩ := CV (hx.mono hM.pre) he
   have hw := AG (n := k) (by omega)
   obtain ⟨hn0, hn8⟩ := Ml hs he
   have hfs : (es.take (k + 1)).filter (fun e => decide (e.n ≠ 0)) = (es.take k).filter (fun e => decide (e.n ≠ 0)) ++ (if decide (e.n ≠ 0) = true then [e] else []) := by
    rw [List.take_add_one, he, List.filter_append]
    simp [List.filter_cons]
   have hfl : ((es.take k).filter fun e => decide (e.n ≠ 0)).length ≤ 64 := by
    have := List.length_filter_le (fun e : Ent => decide (e.n ≠ 0)) (es.take k)
    rw [List.length_take] at this; omega
   by_cases h0 : e.n = 0
   ·have d0 : decide (e.n > 0) = false := decide_eq_false (by omega)
    rw [if_neg (by simpa using h0), List.append_nil] at hfs
    rw [← hfs] at hM
    clear hn0 hn8 h0 he hfs hfl
    refine goM ?_
    exact ⟨n - (k + 1), by omega, k + 1, u, hk', rfl, hM, by simp [AD, AB, *]⟩
   ·have d0 : decide (e.n > 0) = true := decide_eq_true (by omega)
    rw [if_pos (by simpa using h0)] at hfs
    clear hn0 hn8 h0 he
    refine goM ?_
    refine Aa BE [e] (Hy e) T30 rfl T63 rfl (Du [e]) (by decide) fun e1 H2 hM => ?_
    refine goM ?_
    refine Bg (hM.sl .here) (xs := (es.take k).filter fun e => decide (e.n ≠ 0)) (hh := .there .here) (hb := by simp only [List.length_cons, List.length_nil]; omega) fun u2 H6 hM => ?_
    rw [← hfs] at hM
    clear hfs hfl
    refine goM ?_
    exact ⟨n - (k + 1), by omega, k + 1, u2, hk', rfl, hM.drop, by simp [AD, AB, *]⟩
  ·have hk' : k = n := by have : ¬ k < n := by simpa using hb
                          omega
   subst hk'
   clear hb
   rw [List.take_of_length_le (by omega)] at hM
   refine goM ?_
   exact An ⟨_, rfl, hM⟩
theorem TJ {K : Heap} {D : Type} {vs : List V} {d : DataW D} (h : Rd T K 80 vs d) : ∃ a b, vs = [.int .i64 a, .int .i64 b] := by
 obtain ⟨hl, hf⟩ := h.field T80 rfl
 replace hl : vs.length = 2 := hl
 obtain ⟨x0, h0⟩ := hf 0 _ _ rfl T3
 obtain ⟨x1, h1⟩ := hf 1 _ _ rfl T3
 obtain ⟨n0, e0, _⟩ := h0.isInt T3 rfl
 obtain ⟨n1, e1, _⟩ := h1.isInt T3 rfl
 match vs, hl, e0, e1 with
 | [a, b], _, e0, e1 =>
  simp at e0 e1
  subst e0; subst e1
  exact ⟨n0, n1, rfl⟩
theorem PT {K : Heap} {D : Type} {vs : List V} {d : DataW D} (hr : Rd T K 82 vs d) : ∃ w u k, vs = kC w u k ∧ KAt K w u k ∧ k.Fit := by
 obtain ⟨hl, hf⟩ := hr.field T82 rfl
 replace hl : vs.length = 5 := hl
 obtain ⟨x0, h0⟩ := hf 0 _ _ rfl T27
 obtain ⟨x1, h1⟩ := hf 1 _ _ rfl T27
 obtain ⟨x2, h2⟩ := hf 2 _ _ rfl T80
 obtain ⟨x3, h3⟩ := hf 3 _ _ rfl T3
 obtain ⟨n3, e3, _⟩ := h3.isInt T3 rfl
 obtain ⟨p, q, e2⟩ := TJ h2
 match vs, hl, h0, h1, e2, e3 with
 | [a, b, c, e, f], _, h0, h1, e2, e3 =>
  simp at e2 e3
  obtain ⟨rfl, rfl⟩ := e2
  subst e3
  obtain ⟨ws, s1, l1⟩ := RO ⟨_, T27, .inr ⟨rfl, h0⟩⟩
  obtain ⟨us, s2, l2⟩ := RO ⟨_, T27, .inr ⟨rfl, h1⟩⟩
  exact ⟨a, b, ⟨ws, us, p, q, n3⟩, rfl, ⟨s1, s2⟩, ⟨Nat.le_trans l1 (by decide), Nat.le_trans l2 (by decide)⟩⟩
theorem bP {K : Heap} {D : Type} {v : V} {d : DataW D} (h : RdV T K 30 v d) : ∃ es, Sl 3 BE K v es ∧ es.length * 32 ≤ reachBytes :=
 (h.plain T30 rfl).isSlice T30 rfl T63 fun vs x hr => by
  obtain ⟨hl, hf⟩ := hr.field T63 rfl
  replace hl : vs.length = 3 := hl
  obtain ⟨x0, h0⟩ := hf 0 _ _ rfl T3
  obtain ⟨x1, h1⟩ := hf 1 _ _ rfl T9
  obtain ⟨x2, h2⟩ := hf 2 _ _ rfl T3
  obtain ⟨n0, e0, _⟩ := h0.isInt T3 rfl
  obtain ⟨s, e1, _⟩ := h1.isStr T9 rfl
  obtain ⟨n2, e2, _⟩ := h2.isInt T3 rfl
  match vs, hl, e0, e1, e2 with
  | [a, b, c], _, e0, e1, e2 =>
   simp at e0 e1 e2
   subst e0; subst e1; subst e2
   exact ⟨⟨n0, s, n2⟩, rfl⟩
theorem iF {K : Heap} {D : Type} {v : V} {d : DataW D} (h : RdV T K 9 v d) : ∃ s, v = .str s ∧ s.size ≤ reachBytes := by
 obtain ⟨s, h1, h2⟩ := (h.plain T9 rfl).isStr T9 rfl
 simp at h1
 exact ⟨s, h1, h2⟩
theorem ZW (H : Heap) (i h : Nat) (w rv : V) (ws : List Int) (rs : List (List Int × Int)) (hw : Sl 1 AH H w ws) (hr : Rows H rv rs) (hf : fits i h ws = true) (hl : Ct i h rs = true) :
  Call Tryz.prog 183 [.agg [.int .i64 i, .int .i64 h], w, rv] H (.tup [.int .i64 (JM i h ws rs), .int .i64 0]) H := by
 obtain ⟨hs, hr1, hr8, hrok⟩ := Ca hl
 have hlw : ws.length ≤ 2 ^ 47 := by
  have := hf
  simp only [fits, Bool.and_eq_true] at this
  have := BP this.1.2
  omega
 have lrow : ∀ r ∈ rs, r.1.length ≤ 2 ^ 47 := fun rr hrr => by
  have := hrok rr hrr
  simp only [Dp, Bool.and_eq_true] at this
  have := BP (CC this.1).2
  omega
 obtain ⟨n, hn⟩ : ∃ n, rs.length = n := ⟨_, rfl⟩
 refine AQ fit mixed Tryz.func183 rfl rfl rfl (by kernel_rfl) rfl fun hM => ?_
 refine AO (AK ?_)
 refine Ax T23 fun b1 H1 hM => ?_
 have c1 := Gq H1 i h w ws (hw.mono hM.pre) hlw
 rw [hf] at c1
 have c2 := Mw H1 i h rv rs (hr.mono hM.pre) (by omega) lrow
 rw [hl] at c2
 have hlen : builtinP T .len [24] [rv] = some (.int .i64 (n : Int)) := by
  obtain ⟨qv, hqv, hql, _⟩ := hr
  have := hqv.len T24 rfl
  rw [hql, hn] at this
  exact this
 clear hl hs lrow
 refine goM ?_
 refine AA c1 ?_
 refine goM ?_
 refine AA c2 ?_
 refine goM ?_
 refine AT (fun c ρ hp => ∃ (k : Nat) (e o : V), k ≤ n ∧ c = n - k ∧ Mem H hp [.box b1 [.int .i64 i, .int .i64 h]] ∧ ρ 1 = w ∧ ρ 2 = rv ∧ ρ 3 = .ptr b1 0 ∧ ρ 8 = .int .i64 (JM i h ws (rs.take k)) ∧ ρ 9 = .int .i64 (k : Int)) ⟨0, .Co, .Co, Nat.zero_le _, rfl, hM, rfl, rfl, rfl, rfl, rfl⟩ ?_
 clear hM c1 c2
 rintro _ ρ hp ⟨k, _, _, hk, rfl, hM, g1, g2, g3, g8, g9⟩
 refine goM ?_
 refine AE (fun hb => ?_) (fun hb => ?_)
 ·have hk' : k < n := by simpa using hb
  clear hb
  obtain ⟨⟨xs, y⟩, hx⟩ : ∃ x, rs[k]? = some x := ⟨rs[k]'(by omega), by simp⟩
  have hok := hrok _ (List.mem_of_getElem? hx)
  simp only [Dp, Bool.and_eq_true] at hok
  have hsn := OJ (i := i) (h := h) (ws := ws) hx
  obtain ⟨b3, o3, x, hi3, _, hlo3, hlo4, hxs⟩ := hr.at hx
  replace hlo3 := CX hM.pre hlo3
  replace hlo4 := CX hM.pre hlo4
  have hw1 := AG (n := k) (by omega)
  have c3 := Vz hp i h w x ws xs (hw.mono hM.pre) (hxs.mono hM.pre) hf hok.1
  clear hx hok
  refine goM ?_
  refine AI c3 ?_
  have c5 := Fp hp (Mt i h ws xs) (IntKind.i64.wrap (0 - y))
  have he : plus (Mt i h ws xs) (IntKind.i64.wrap (0 - y)) = LG i h ws (xs, y) := rfl
  rw [he] at c5
  have c6 := EI hp (LG i h ws (xs, y)) (LG i h ws (xs, y))
  have c7 := Fp hp (JM i h ws (rs.take k)) (times (LG i h ws (xs, y)) (LG i h ws (xs, y)))
  rw [← hsn] at c7
  clear he hsn c3
  refine goM ?_
  refine AA c5 ?_
  refine goM ?_
  refine AA c6 ?_
  refine goM ?_
  refine AA c7 ?_
  refine goM ?_
  exact ⟨n - (k + 1), by omega, k + 1, .Co, .Co, hk', rfl, hM, by simp [AD, AB, *]⟩
 ·have hk' : k = n := by have : ¬ k < n := by simpa using hb
                         omega
  subst hk'
  clear hb
  rw [List.take_of_length_le (by omega)] at g8
  refine goM ?_
  exact An ⟨rfl, hM.pre⟩
theorem TP (H : Heap) (c : Cfg) (rv w v : V) (k : Chk) (h : Int) (hr : Rows H rv c.rows) (hk : KAt H w v k) (hc : c.Fit) (hf : k.Fit) :
  Call Tryz.prog 130 [.agg (BJ c rv), .agg (mC w v k h)] H (.tup [.int .i64 (By c k).1, .int .i64 (By c k).2]) H := by
 have l1 := hc.rows
 have l2 := hc.row
 have l3 := hf.ws
 have l4 := hf.vs
 refine AQ fit mixed Tryz.func130 rfl rfl rfl (by kernel_rfl) rfl fun hM => ?_
 refine AO (AK ?_)
 refine Ax T26 fun b1 H1 hM => ?_
 refine Ax T84 fun b2 H2 hM => ?_
 have hr2 := hr.mono hM.pre
 have hk2 := hk.mono hM.pre
 have c1 := EA H2 c rv hr2 (by omega) (fun r h => by have := l2 r h; omega)
 have c2 := Gp H2 w v k.ws k.vs k.r k.m k.t hk2.ws hk2.vs (by omega) (by omega)
 have c3 := Gq H2 c.i c.h w k.ws hk2.ws (by omega)
 have s1 := hk.ws.cells
 have s2 := hk.vs.cells
 unfold By BW BI
 obtain ⟨q1, e1⟩ : ∃ q, Al c = q := ⟨_, rfl⟩
 obtain ⟨q2, e2⟩ : ∃ q, CT k.ws k.vs k.r k.m k.t = q := ⟨_, rfl⟩
 obtain ⟨q3, e3⟩ : ∃ q, fits c.i c.h k.ws = q := ⟨_, rfl⟩
 rw [e1] at c1 ⊢
 rw [e2] at c2 ⊢
 rw [e3] at c3 ⊢
 cases q1 with
 | false =>
  clear e1 e2 e3 c2 c3
  refine goM ?_
  refine AA c1 ?_
  refine goM ?_
  exact An ⟨rfl, hM.pre⟩
 | true =>
  cases q2 with
  | false =>
   clear e1 e2 e3 c3
   refine goM ?_
   refine AA c1 ?_
   refine goM ?_
   refine AA c2 ?_
   refine goM ?_
   exact An ⟨rfl, hM.pre⟩
  | true =>
   cases q3 with
   | false =>
    clear e1 e2 e3
    refine goM ?_
    refine AA c1 ?_
    refine goM ?_
    refine AA c2 ?_
    refine goM ?_
    refine AA c3 ?_
    refine goM ?_
    exact An ⟨rfl, hM.pre⟩
   | true =>
    obtain ⟨hm2, hloss, _⟩ := AX e1
    obtain ⟨hs, _⟩ := Ca hloss
    obtain ⟨a, b, ha, hb, ha1, ha3, hb1, hb3⟩ := JW hs
    have c4 := ZW H2 a b w rv k.ws c.rows hk2.ws hr2 (by rw [← ha, ← hb]; exact e3) (by rw [← ha, ← hb]; exact hloss)
    rw [← ha, ← hb] at c4
    have t1 : c.i.toNat = a := by omega
    have t2 : c.h.toNat = b := by omega
    rw [t1, t2]
    clear e1 e2 e3 hm2 hloss hs ha hb t1 t2
    refine goM ?_
    refine AA c1 ?_
    refine goM ?_
    refine AA c2 ?_
    refine goM ?_
    refine AA c3 ?_
    refine goM ?_
    refine AA c4 ?_
    refine goM ?_
    exact An ⟨rfl, hM.pre⟩
theorem RR (H : Heap) (c : Cfg) (rv : V) (id : Int) (hr : Rows H rv c.rows) (hc : c.Fit) (hb : Cx c id = false) :
  Call Tryz.prog 70 [.agg (BJ c rv), .int .i64 id] H (.tup [.agg Dr, .str (strOf []), .int .i64 2000]) H := by
 have l1 := hc.rows
 have l2 := hc.row
 refine AQ fit mixed Tryz.func70 rfl rfl rfl (by kernel_rfl) rfl fun hM => ?_
 refine AO (AK ?_)
 refine Ax T26 fun b1 H1 hM => ?_
 refine Aj (cs := Dr) T84 rfl fun b2 H2 hM => ?_
 have c1 := EA H2 c rv (hr.mono hM.pre) (by omega) (fun r h => by have := l2 r h; omega)
 have c2 := DY H2 id 0 (IntKind.i64.wrap (c.m - 1))
 unfold Cx at hb
 obtain ⟨q, hq⟩ : ∃ q, Al c = q := ⟨_, rfl⟩
 rw [hq] at c1 hb
 cases q with
 | false =>
  clear hb hq c2
  refine goM ?_
  refine AA c1 ?_
  refine goM ?_
  refine AM T84 fun H3 hM => ?_
  refine goM ?_
  exact CI ⟨rfl, hM.pre⟩
 | true =>
  rw [Bool.true_and] at hb
  rw [hb] at c2
  clear hb hq
  refine goM ?_
  refine AA c1 ?_
  refine goM ?_
  refine AA c2 ?_
  refine goM ?_
  refine AM T84 fun H3 hM => ?_
  refine goM ?_
  exact CI ⟨rfl, hM.pre⟩
theorem Xa (H : Heap) (c : Cfg) (rv : V) (id : Int) (hr : Rows H rv c.rows) (hc : c.Fit) :
  ∃ w H', Call Tryz.prog 70 [.agg (BJ c rv), .int .i64 id] H w H' ∧ ∃ a b, w = .tup [.agg (mC a b (Bq c id) 0), .str (strOf (HE c id)), .int .i64 (HD c id)] ∧ Mem H H' [.own 1 AH b (Bq c id).vs, .own 1 AH a (Bq c id).ws] := by
 unfold Bq HE HD
 cases hok : Cx c id with
 | false => exact ⟨_, H, RR H c rv id hr hc hok, .AN, .AN, rfl, ((Mem.start H).nil 1 AH).nil 1 AH⟩
 | true =>
  obtain ⟨h1, h2⟩ := He hok
  exact PV H c rv id hr h1 h2
end Go.Proofs.YtncjbjlmgnjhiaaGreat.VM
namespace Go.Proofs.YtncjbjlmgnjhiaaGreat.VM
open Go
set_option linter.unusedVariables false
set_option linter.unusedSimpArgs false
theorem Yw {row : List Nat} {k : Nat} (y : Nat) (rest : List Nat) (hk : k < row.length) : (mid row (k + 1) y rest).set (k + 1) (row.getD k 0) = mid row k (row.getD k 0) rest := by
 obtain ⟨h1, h2⟩ := Pv hk
 have hl : (row.take k).length = k := by rw [List.length_take]; omega
 have e1 : mid row (k + 1) y rest = row.take k ++ row.getD k 0 :: y :: (row.drop (k + 1) ++ rest) := by
  unfold mid; rw [h1]; simp
 have e2 : mid row k (row.getD k 0) rest = row.take k ++ row.getD k 0 :: row.getD k 0 :: (row.drop (k + 1) ++ rest) := by
  unfold mid; rw [h2]; simp
 rw [e1, e2, List.set_append_right _ _ (by omega), hl]
 have : k + 1 - k = 1 := by omega
 rw [this]; rfl
theorem bF {row : List Nat} {k : Nat} (y x : Nat) (rest : List Nat) (hk : k ≤ row.length) : (mid row k y rest).set k x = mid row k x rest := by
 have hl : (row.take k).length = k := by rw [List.length_take]; omega
 have := Hj (row.take k) y x (row.drop k ++ rest)
 rw [hl] at this
 exact this
end Go.Proofs.YtncjbjlmgnjhiaaGreat.VM
namespace Go.Proofs.YtncjbjlmgnjhiaaGreat.VM
open Go
set_option linter.unusedVariables false
set_option linter.unusedSimpArgs false
attribute [local irreducible] wq wqL wqD wqE wqO Th Bk EndR
set_option maxHeartbeats 8000000
theorem UD (H : Heap) (v : V) (rs : List (List Int × Int)) (hv : Rows H v rs) (hl : rs.length < 2 ^ 42) (hx : ∀ r ∈ rs, r.1.length * 8 ≤ 2 ^ 47) :
  ∃ w H', Call Tryz.prog 43 [v] H w H' ∧ ∃ rv, Jr rv rs ∧ Mem H H' [.ro (pack (Bl w rv rs))] := by
 have hv0 := hv
 obtain ⟨n, hn⟩ : ∃ n, rs.length = n := ⟨_, rfl⟩
 have hlen : builtinP T .len [24] [v] = some (.int .i64 (n : Int)) := by
  obtain ⟨qv, hqv, hql, _⟩ := hv
  have := hqv.len T24 rfl
  rw [hql, hn] at this
  exact this
 refine Ao fit mixed Tryz.func43 rfl rfl rfl (by kernel_rfl) fun hM => ?_
 refine goM ?_
 refine AT (fun c ρ hp => ∃ (k : Nat) (u : V) (rv : List (V × Int)), k ≤ n ∧ c = n - k ∧ Jr rv (rs.take k) ∧ Mem H hp (Bl u rv (rs.take k)) ∧ ρ 0 = v ∧ ρ 3 = u ∧ ρ 4 = .int .i64 (k : Int)) ⟨0, .AN, [], Nat.zero_le _, rfl, ⟨rfl, by simp⟩, hM.nil 2 Dg, rfl, rfl, rfl⟩ ?_
 clear hM
 rintro _ ρ hp ⟨k, u, rv, hk, rfl, hlk, hM, g0, g3, g4⟩
 refine goM ?_
 refine AE (fun hb => ?_) (fun hb => ?_)
 ·have hk' : k < n := by simpa using hb
  clear hb
  obtain ⟨⟨xs, y⟩, hrk⟩ : ∃ r, rs[k]? = some r := ⟨rs[k]'(by omega), by simp⟩
  obtain ⟨b3, o3, x, hi3, hlo3, _, _, hxs⟩ := hv0.at hrk
  replace hlo3 := CX hM.pre hlo3
  have hxl : xs.length * 8 ≤ 2 ^ 47 := hx _ (List.mem_of_getElem? hrk)
  have hw := AG (n := k) (by omega)
  have hrl : rv.length = k := by rw [hlk.1, List.length_take]; omega
  have s1 := hxs.cells
  have htk : rs.take (k + 1) = rs.take k ++ [(xs, y)] := by rw [List.take_add_one, hrk]; rfl
  replace hM := Mem.packed (M := []) (L := Bl u rv (rs.take k)) (by simpa using hM)
  clear hrk
  refine goM ?_
  refine Aj (cs := [.AN, .int .i64 0]) GD rfl fun b4 H1 hM => ?_
  refine AM GD fun H2 hM => ?_
  refine goM ?_
  refine Aa AH [] [] T27 rfl T3 rfl (Ba []) (by decide) fun e1 H3 hM => ?_
  refine goM ?_
  refine Bg (hxs.mono hM.pre) fun a H4 hM => ?_
  have s3 := (hM.sl .here).cells
  refine goM ?_
  refine AM T27 fun H5 hM => ?_
  refine goM ?_
  refine Aa Dg [(a, y)] [a, .int .i64 y] T24 rfl GD rfl (Gb [(a, y)]) (by decide) (fun e2 H6 hM => ?_)
  have hM2 : Mem H H6 (.own 2 Dg e2 [(a, y)] :: .own 2 Dg u rv :: .own 1 AH a ([] ++ xs) :: Dq rv (rs.take k)) := by
   have h1 := hM.front (r := .ro (pack (Bl u rv (rs.take k)))) tkG
   have h2 := (h1.sub (L' := [.ro (pack (Bl u rv (rs.take k))), .own 2 Dg e2 [(a, y)], .own 1 AH a ([] ++ xs)]) sbG).Fu
   refine h2.perm ?_
   refine (List.perm_append_comm (l₁ := Bl u rv (rs.take k))).trans ?_
   refine List.Perm.cons _ ?_
   show (Res.own 1 AH a ([] ++ xs) :: Res.own 2 Dg u rv :: Dq rv (rs.take k)).Perm _
   exact .swap _ _ _
  clear hM
  have hM := hM2
  clear hM2
  refine goM ?_
  refine Bg (hM.sl .here) (xs := rv) (hh := .there .here) (hb := by simp only [List.length_cons, List.length_nil]; rw [hrl]; omega) fun u' H7 hM => ?_
  refine goM ?_
  refine ⟨n - (k + 1), by omega, k + 1, u', rv ++ [(a, y)], hk', rfl, ?_, ?_, by simp [AD, AB, *]⟩
  ·rw [htk]
   have h3 : (rs.take k).length = k := by rw [List.length_take]; omega
   refine ⟨by simp [hrl, h3], fun j p r hp hr => ?_⟩
   by_cases hj : j < k
   ·rw [List.getElem?_append_left (by omega)] at hp hr
    exact hlk.2 j p r hp hr
   ·rw [List.getElem?_append_right (by omega)] at hp hr
    rw [hrl] at hp
    rw [h3] at hr
    match hq : j - k, hp, hr with
    | 0, hp, hr => simp at hp hr; subst hp; subst hr; rfl
    | q + 1, hp, hr => simp at hp
  ·rw [htk]
   have h3 : (rs.take k).length = k := by rw [List.length_take]; omega
   have hz : Dq (rv ++ [(a, y)]) (rs.take k ++ [(xs, y)]) = Dq rv (rs.take k) ++ [.own 1 AH a xs] := by
    unfold Dq
    rw [List.zipWith_append (by omega)]; rfl
   unfold Bl
   rw [hz]
   refine hM.drop.perm (List.Perm.cons _ ?_)
   exact List.perm_append_comm (l₁ := [Res.own 1 AH a xs]) (l₂ := Dq rv (rs.take k))
 ·have hk' : k = n := by have : ¬ k < n := by simpa using hb
                         omega
  subst hk'
  clear hb
  rw [List.take_of_length_le (by omega)] at hM hlk
  refine goM ?_
  exact AY ⟨rv, hlk, Mem.packed (M := []) (by simpa using hM)⟩
theorem Qc (H : Heap) (c : Cfg) (v : V) (hv : Rows H v c.rows) (hf : c.Fit) : ∃ w H', Call Tryz.prog 14 [.agg (BJ c v)] H w H' ∧ ∃ u rv, w = .agg (BJ c u) ∧ Jr rv c.rows ∧ Mem H H' [.ro (pack (Bl u rv c.rows))] := by
 have l1 := hf.rows
 have l2 := hf.row
 have s0 : v.cells = [v] ∧ v.isTup = false := by obtain ⟨_, h, _⟩ := hv; exact h.cells
 refine Ao fit mixed Tryz.func14 rfl rfl rfl (by kernel_rfl) fun hM => ?_
 refine AO (AK ?_)
 refine Ax T26 fun b1 H1 hM => ?_
 refine Aj (cs := Cj) T26 rfl fun b2 H2 hM => ?_
 refine goM ?_
 obtain ⟨u, H3, c1, rv, hlk, m1⟩ := UD H2 v c.rows (hv.mono hM.pre) (by omega) (fun r hr => by have := l2 r hr; omega)
 have s1 : u.cells = [u] ∧ u.isTup = false := by obtain ⟨_, h, _⟩ := DL (m1.fact .here) hlk; exact h.cells
 refine AA c1 ?_
 replace hM := hM.BH m1
 refine goM ?_
 refine AM T24 fun H4 hM => ?_
 refine goM ?_
 refine AM T26 fun H5 hM => ?_
 refine goM ?_
 exact AY ⟨u, rv, rfl, hlk, hM.Ea⟩
theorem VC (H : Heap) (x a b : Int) : Call Tryz.prog 87 [.int .i64 x, .int .i64 a, .int .i64 b] H (.bool (within x a b)) H := DY H x a b
theorem Wm (H : Heap) (r m : Int) : Call Tryz.prog 135 [.agg [.int .i64 r, .int .i64 m]] H (.bool (BK r m)) H := GK H r m
theorem Vp (H : Heap) (v : V) (es : List Ev) (m : Int) (hes : Sl 6 evC H v es) (hl : es.length ≤ 2 ^ 47) : Call Tryz.prog 78 [v, .int .i64 m] H (.int .i64 (BD es m)) H := by
 refine AJ fit mixed Tryz.func78 rfl rfl rfl (by kernel_rfl) rfl ?_
 have hlen := hes.len T29 rfl
 refine goW ?_
 refine AT (fun c ρ h => ∃ k, k ≤ es.length ∧ c = es.length - k ∧ h = H ∧ ρ 0 = v ∧ ρ 1 = .int .i64 m ∧ ρ 6 = .int .i64 (k : Nat) ∧ ρ 5 = .int .i64 (BD (es.take k) m)) ⟨0, Nat.zero_le _, rfl, rfl, rfl, rfl, rfl, rfl⟩ ?_
 rintro _ ρ h ⟨k, hk, rfl, rfl, h0, h1, h6, h5⟩
 refine goW ?_
 refine AE (fun hb => ?_) (fun hb => ?_)
 ·have hk' : k < es.length := by simpa using hb
  obtain ⟨e, he⟩ : ∃ e, es[k]? = some e := ⟨es[k], by simp [hk']⟩
  obtain ⟨b, o, cs, hi, rfl, _, hlo, hlc⟩ := hes.get T29 rfl GY rfl he
  have ho := AF T3 rfl (hlc 1 _ rfl)
  have hle := Ji (es.take k) m
  rw [List.length_take] at hle
  have hw := AG (n := k) (by omega)
  have hw2 := AG (n := BD (es.take k) m) (by omega)
  have hs := Fi (m := m) he
  refine goW ?_
  refine AE (fun hc => ?_) (fun hc => ?_)
  all_goals refine goW ?_
  all_goals refine ⟨es.length - (k + 1), by omega, k + 1, hk', rfl, rfl, ?_⟩
  all_goals simp at hc
  all_goals simp [AD, AB, *]
 ·have hk' : k = es.length := by have : ¬ k < es.length := by simpa using hb
                                 omega
  subst hk'
  refine goW ?_
  refine AL (by simp only [resRf, resRs, resR]; first | done | rfl) ⟨?_, List.prefix_refl _⟩
  simp [AD, AB, *]
theorem YL (s : St) (pick : Int) : Lt s pick = (BZ s && (!decide (pick < 0) && (!decide (pick ≥ (s.ms.length : Int)) && !decide ((s.es.length : Int) + 4 > 1024)))) := by
 unfold Lt
 cases hm : BZ s with
 | false => rfl
 | true =>
  have h := Eh hm
  obtain ⟨h2, _⟩ := AX h.c
  have hl := h.len
  rw [Rp h2, Bool.true_and, Bool.true_and]
  apply Bool.eq_iff_iff.2
  simp only [Bool.and_eq_true, within_iff, decide_eq_true_eq, Bool.not_eq_true', decide_eq_false_iff_not]
  omega
theorem aQ (H : Heap) (dn : Bool) : Call Tryz.prog 185 [.bool dn] H (.int .i64 (if dn = true then 52429 else 81920)) H := by
 refine AQ fit mixed Tryz.func185 rfl rfl rfl (by kernel_rfl) rfl fun hM => ?_
 cases dn
 ·refine goM ?_
  exact AY ⟨rfl, hM.pre⟩
 ·refine goM ?_
  exact AY ⟨rfl, hM.pre⟩
theorem SH (H : Heap) (v : V) (es : List Ev) (m : Int) (hes : Sl 6 evC H v es) (hl : es.length ≤ 2 ^ 47) : Call Tryz.prog 136 [v, .int .i64 m] H (.bool (explored es m)) H := by
 refine AJ fit mixed Tryz.func136 rfl rfl rfl (by kernel_rfl) rfl ?_
 have hlen := hes.len T29 rfl
 have hw0 : IntKind.i64.wrap ((es.length : Int) - 1) = (es.length : Int) - 1 := wrap_i64 (by omega) (by omega)
 refine goW ?_
 refine AT (fun c ρ h => c ≤ es.length ∧ h = H ∧ explored es m = explored (es.take c) m ∧ ρ 0 = v ∧ ρ 1 = .int .i64 m ∧ ρ 5 = .int .i64 ((c : Int) - 1)) (m := es.length) ⟨Nat.le_refl _, rfl, by simp, rfl, rfl, by simp [AD, AB, *]⟩ ?_
 rintro c ρ h ⟨hc, rfl, hsame, h0, h1, h5⟩
 refine goW ?_
 refine AE (fun hb => ?_) (fun hb => ?_)
 ·have hk' : 0 < c := by have : (0 : Int) ≤ (c : Int) - 1 := by simpa using hb
                         omega
  obtain ⟨k, rfl⟩ : ∃ k, c = k + 1 := ⟨c - 1, by omega⟩
  replace h5 : ρ 5 = .int .i64 (k : Int) := by rw [h5]; congr 1; omega
  obtain ⟨e, he⟩ : ∃ e, es[k]? = some e := ⟨es[k]'(by omega), by simp⟩
  obtain ⟨b, o, cs, hi, rfl, _, hlo, hlc⟩ := hes.get T29 rfl GY rfl he
  have ho := AF T3 rfl (hlc 1 _ rfl)
  have ho0 : loadV T 3 h b o = some (.int .i64 e.kind) := AF T3 rfl (hlc 0 _ rfl)
  have hw : IntKind.i64.wrap ((k : Int) - 1) = (k : Int) - 1 := wrap_i64 (by omega) (by omega)
  rw [Jy he] at hsame
  refine goW ?_
  refine AE (fun hc => ?_) (fun hc => ?_)
  all_goals simp at hc
  ·refine goW ?_
   refine Ai ?_; simp [AD, AB, *]
  ·refine goW ?_
   refine ⟨k, by omega, by omega, rfl, by rw [hsame, if_neg hc], ?_⟩
   simp [AD, AB, *]
 ·have hk' : c = 0 := by have : ¬ (0 : Int) ≤ (c : Int) - 1 := by simpa using hb
                         omega
  subst hk'
  refine goW ?_
  refine Ai ?_; simp [AD, AB, *]
  rfl
theorem Ql (H : Heap) (v : V) (es : List Ev) (n : Int) (hes : Sl 6 evC H v es) (hl : es.length ≤ 2 ^ 47) : Call Tryz.prog 82 [v, .int .i64 n] H (.bool (Ap es n)) H := by
 refine AJ fit mixed Tryz.func82 rfl rfl rfl (by kernel_rfl) rfl ?_
 have hlen := hes.len T29 rfl
 repeat' (first | (refine Bs ?_; refine CH ?_) | (refine Bz ?_; refine CZ ?_) | (refine CG ?_; first | refine BO ?_ | refine At ?_) | (refine CF ?_; first | refine BS ?_ | refine Aw ?_) | refine AO ?_ | refine AK ?_ | refine Ae (by decide +kernel) ?_ | refine AW ?_ | refine BN ?_ | refine BM ?_ | refine Ah ?_ | refine As ?_ | refine Ag ?_ | refine AR ?_ | refine Ar ?_ | refine Ad ?_ | refine AS ?_ | refine Aq ?_ | refine Ac ?_ | refine AV rfl ?_ | first | refine Br (fun hb => ?_) (fun hb => ?_) | refine Bp (fun hb => ?_) (fun hb => ?_) | refine AA (VC ..) ?_)
 ·refine AE (fun hb => ?_) (fun hb => ?_)
  ·refine goW ?_
   refine Ai ?_; simp [AD, AB, *]
   simp at hb
   unfold Ap
   have : ¬ es.length ≤ 1024 := by omega
   simp [this]
  ·rename_i hn
   have hn : within n 1 8 = true := by simpa using hn
   have hl' : es.length ≤ 1024 := by simp at hb; omega
   refine goW ?_
   have hn' := hn
   simp [within] at hn'
   have hwn : IntKind.i64.wrap (n - 1) = n - 1 := wrap_i64 (by omega) (by omega)
   refine AT (fun c ρ h => ∃ k, k ≤ es.length ∧ c = es.length - k ∧ H <+: h ∧ (∀ (j : Nat) e, j < k → es[j]? = some e → Dy (es.take j) n e = true) ∧ ρ 0 = v ∧ ρ 1 = .int .i64 n ∧ ρ 5 = .int .i64 (k : Nat)) ⟨0, Nat.zero_le _, rfl, List.prefix_refl _, by intro j e hj; omega, rfl, rfl, rfl⟩ ?_
   rintro _ ρ h ⟨k, hk, rfl, hp, hall, h0, h1, h5⟩
   refine goW ?_
   refine AE (fun hb => ?_) (fun hb => ?_)
   ·have hk' : k < es.length := by simp at hb; omega
    obtain ⟨e, he⟩ : ∃ e, es[k]? = some e := ⟨es[k], by simp [hk']⟩
    obtain ⟨b, o, cs, hi, rfl, _, hlo, hlc⟩ := (hes.mono hp).get T29 rfl GY rfl he
    have ho := AZ GY rfl hlo
    have hw := AG (n := k) (by omega)
    obtain ⟨u, hsl, hu⟩ := hes.take hk
    have hul : (es.take k).length ≤ 2 ^ 47 := by rw [List.length_take]; omega
    clear hb
    repeat' (first | (refine Bs ?_; refine CH ?_) | (refine Bz ?_; refine CZ ?_) | (refine CG ?_; first | refine BO ?_ | refine At ?_) | (refine CF ?_; first | refine BS ?_ | refine Aw ?_) | refine AO ?_ | refine AK ?_ | refine Ae (by decide +kernel) ?_ | refine AW ?_ | refine BN ?_ | refine BM ?_ | refine Ah ?_ | refine As ?_ | refine Ag ?_ | refine AR ?_ | refine Ar ?_ | refine Ad ?_ | refine AS ?_ | refine Aq ?_ | refine Ac ?_ | refine AV rfl ?_ | refine AA (VC ..) ?_)
    refine AE (fun hc => ?_) (fun hc => ?_)
    ·simp at hc
     have hev := VZ (es := es.take k) (n := n) hc
     repeat' (first | (refine Bs ?_; refine CH ?_) | (refine Bz ?_; refine CZ ?_) | (refine CG ?_; first | refine BO ?_ | refine At ?_) | (refine CF ?_; first | refine BS ?_ | refine Aw ?_) | refine AO ?_ | refine AK ?_ | refine Ae (by decide +kernel) ?_ | refine AW ?_ | refine BN ?_ | refine BM ?_ | refine Ah ?_ | refine As ?_ | refine Ag ?_ | refine AR ?_ | refine Ar ?_ | refine Ad ?_ | refine AS ?_ | refine Aq ?_ | refine Ac ?_ | refine AV rfl ?_ | first | refine Br (fun hb => ?_) (fun hb => ?_) | refine Bp (fun hb => ?_) (fun hb => ?_) | refine AE (fun hb => ?_) (fun hb => ?_))
     all_goals first
      | (refine AL (by simp only [resRf, resRs, resR]; first | done | rfl) (LR he (by simp [AD, AB, *]) (by rw [hev]; first | (simp_all; done) | (simp_all; omega)) (by first | exact List.prefix_refl _ | exact List.prefix_append _ _ | assumption | (refine List.IsPrefix.trans (by assumption) (List.prefix_append _ _)) | (simp only [List.append_assoc, List.cons_append, List.nil_append, List.set_cons_zero, List.set_cons_succ]; exact ⟨_, by simp only [List.append_assoc, List.cons_append, List.nil_append]; rfl⟩))); done)
      | (refine ⟨es.length - (k + 1), by omega, k + 1, hk', rfl, by first | exact List.prefix_refl _ | exact List.prefix_append _ _ | assumption | (refine List.IsPrefix.trans (by assumption) (List.prefix_append _ _)) | (simp only [List.append_assoc, List.cons_append, List.nil_append, List.set_cons_zero, List.set_cons_succ]; exact ⟨_, by simp only [List.append_assoc, List.cons_append, List.nil_append]; rfl⟩), all_succ hall he (by rw [hev]; first | (simp_all; done) | (simp_all; omega)), ?_⟩; simp [AD, AB, *]; done)
    ·simp at hc
     repeat' (first | (refine Bs ?_; refine CH ?_) | (refine Bz ?_; refine CZ ?_) | (refine CG ?_; first | refine BO ?_ | refine At ?_) | (refine CF ?_; first | refine BS ?_ | refine Aw ?_) | refine AO ?_ | refine AK ?_ | refine Ae (by decide +kernel) ?_ | refine AW ?_ | refine BN ?_ | refine BM ?_ | refine Ah ?_ | refine As ?_ | refine Ag ?_ | refine AR ?_ | refine Ar ?_ | refine Ad ?_ | refine AS ?_ | refine Aq ?_ | refine Ac ?_ | refine AV rfl ?_)
     refine AE (fun hc1 => ?_) (fun hc1 => ?_)
     ·simp at hc1
      have hev := Qj (es := es.take k) (n := n) hc1
      have hcall := fun H' (hp' : H <+: H') m => Vp H' u (es.take k) m (hu.mono hp') hul
      repeat' (first | (refine Bs ?_; refine CH ?_) | (refine Bz ?_; refine CZ ?_) | (refine CG ?_; first | refine BO ?_ | refine At ?_) | (refine CF ?_; first | refine BS ?_ | refine Aw ?_) | refine AO ?_ | refine AK ?_ | refine Ae (by decide +kernel) ?_ | refine AW ?_ | refine BN ?_ | refine BM ?_ | refine Ah ?_ | refine As ?_ | refine Ag ?_ | refine AR ?_ | refine Ar ?_ | refine Ad ?_ | refine AS ?_ | refine Aq ?_ | refine Ac ?_ | refine AV rfl ?_ | refine AI (VC ..) ?_ | refine AI (hcall _ (by first | exact List.prefix_refl _ | exact List.prefix_append _ _ | assumption | (refine List.IsPrefix.trans (by assumption) (List.prefix_append _ _)) | (simp only [List.append_assoc, List.cons_append, List.nil_append, List.set_cons_zero, List.set_cons_succ]; exact ⟨_, by simp only [List.append_assoc, List.cons_append, List.nil_append]; rfl⟩)) _) ?_ | first | refine Br (fun hb => ?_) (fun hb => ?_) | refine Bp (fun hb => ?_) (fun hb => ?_) | refine AE (fun hb => ?_) (fun hb => ?_))
      all_goals first
       | (refine AL (by simp only [resRf, resRs, resR]; first | done | rfl) (LR he (by simp [AD, AB, *]) (by rw [hev]; first | (simp_all; done) | (simp_all; omega)) (by first | exact List.prefix_refl _ | exact List.prefix_append _ _ | assumption | (refine List.IsPrefix.trans (by assumption) (List.prefix_append _ _)) | (simp only [List.append_assoc, List.cons_append, List.nil_append, List.set_cons_zero, List.set_cons_succ]; exact ⟨_, by simp only [List.append_assoc, List.cons_append, List.nil_append]; rfl⟩))); done)
       | (refine ⟨es.length - (k + 1), by omega, k + 1, hk', rfl, by first | exact List.prefix_refl _ | exact List.prefix_append _ _ | assumption | (refine List.IsPrefix.trans (by assumption) (List.prefix_append _ _)) | (simp only [List.append_assoc, List.cons_append, List.nil_append, List.set_cons_zero, List.set_cons_succ]; exact ⟨_, by simp only [List.append_assoc, List.cons_append, List.nil_append]; rfl⟩), all_succ hall he (by rw [hev]; first | (simp_all; done) | (simp_all; omega)), ?_⟩; simp [AD, AB, *]; done)
     ·simp at hc1
      repeat' (first | (refine Bs ?_; refine CH ?_) | (refine Bz ?_; refine CZ ?_) | (refine CG ?_; first | refine BO ?_ | refine At ?_) | (refine CF ?_; first | refine BS ?_ | refine Aw ?_) | refine AO ?_ | refine AK ?_ | refine Ae (by decide +kernel) ?_ | refine AW ?_ | refine BN ?_ | refine BM ?_ | refine Ah ?_ | refine As ?_ | refine Ag ?_ | refine AR ?_ | refine Ar ?_ | refine Ad ?_ | refine AS ?_ | refine Aq ?_ | refine Ac ?_ | refine AV rfl ?_)
      refine AE (fun hc2 => ?_) (fun hc2 => ?_)
      ·simp at hc2
       have hev := Qk (es := es.take k) (n := n) hc2
       have hcall := fun H' (hp' : H <+: H') m => SH H' u (es.take k) m (hu.mono hp') hul
       repeat' (first | (refine Bs ?_; refine CH ?_) | (refine Bz ?_; refine CZ ?_) | (refine CG ?_; first | refine BO ?_ | refine At ?_) | (refine CF ?_; first | refine BS ?_ | refine Aw ?_) | refine AO ?_ | refine AK ?_ | refine Ae (by decide +kernel) ?_ | refine AW ?_ | refine BN ?_ | refine BM ?_ | refine Ah ?_ | refine As ?_ | refine Ag ?_ | refine AR ?_ | refine Ar ?_ | refine Ad ?_ | refine AS ?_ | refine Aq ?_ | refine Ac ?_ | refine AV rfl ?_ | refine AI (Wm ..) ?_ | refine AI (hcall _ (by first | exact List.prefix_refl _ | exact List.prefix_append _ _ | assumption | (refine List.IsPrefix.trans (by assumption) (List.prefix_append _ _)) | (simp only [List.append_assoc, List.cons_append, List.nil_append, List.set_cons_zero, List.set_cons_succ]; exact ⟨_, by simp only [List.append_assoc, List.cons_append, List.nil_append]; rfl⟩)) _) ?_ | first | refine Br (fun hb => ?_) (fun hb => ?_) | refine Bp (fun hb => ?_) (fun hb => ?_) | refine AE (fun hb => ?_) (fun hb => ?_))
       all_goals first
        | (refine AL (by simp only [resRf, resRs, resR]; first | done | rfl) (LR he (by simp [AD, AB, *]) (by rw [hev]; first | (simp_all; done) | (simp_all; omega)) (by first | exact List.prefix_refl _ | exact List.prefix_append _ _ | assumption | (refine List.IsPrefix.trans (by assumption) (List.prefix_append _ _)) | (simp only [List.append_assoc, List.cons_append, List.nil_append, List.set_cons_zero, List.set_cons_succ]; exact ⟨_, by simp only [List.append_assoc, List.cons_append, List.nil_append]; rfl⟩))); done)
        | (refine ⟨es.length - (k + 1), by omega, k + 1, hk', rfl, by first | exact List.prefix_refl _ | exact List.prefix_append _ _ | assumption | (refine List.IsPrefix.trans (by assumption) (List.prefix_append _ _)) | (simp only [List.append_assoc, List.cons_append, List.nil_append, List.set_cons_zero, List.set_cons_succ]; exact ⟨_, by simp only [List.append_assoc, List.cons_append, List.nil_append]; rfl⟩), all_succ hall he (by rw [hev]; first | (simp_all; done) | (simp_all; omega)), ?_⟩; simp [AD, AB, *]; done)
      ·simp at hc2
       have hev := Va (es := es.take k) (n := n) hc hc1 hc2
       repeat' (first | (refine Bs ?_; refine CH ?_) | (refine Bz ?_; refine CZ ?_) | (refine CG ?_; first | refine BO ?_ | refine At ?_) | (refine CF ?_; first | refine BS ?_ | refine Aw ?_) | refine AO ?_ | refine AK ?_ | refine Ae (by decide +kernel) ?_ | refine AW ?_ | refine BN ?_ | refine BM ?_ | refine Ah ?_ | refine As ?_ | refine Ag ?_ | refine AR ?_ | refine Ar ?_ | refine Ad ?_ | refine AS ?_ | refine Aq ?_ | refine Ac ?_ | refine AV rfl ?_ | refine AE (fun hb => ?_) (fun hb => ?_))
       all_goals first
        | (refine AL (by simp only [resRf, resRs, resR]; first | done | rfl) (LR he (by simp [AD, AB, *]) (by rw [hev]) (by first | exact List.prefix_refl _ | exact List.prefix_append _ _ | assumption | (refine List.IsPrefix.trans (by assumption) (List.prefix_append _ _)) | (simp only [List.append_assoc, List.cons_append, List.nil_append, List.set_cons_zero, List.set_cons_succ]; exact ⟨_, by simp only [List.append_assoc, List.cons_append, List.nil_append]; rfl⟩))); done)
        | (simp at hb; done)
   ·have hk' : k = es.length := by simp at hb; omega
    subst hk'
    refine goW ?_
    refine Ai ?_; simp [AD, AB, *]
    exact (EP hn hl' fun j e he => hall j e (List.getElem?_eq_some_iff.1 he).1 he)
 ·have hn : within n 1 8 = false := by simpa using hb
  repeat' (first | (refine Bs ?_; refine CH ?_) | (refine Bz ?_; refine CZ ?_) | (refine CG ?_; first | refine BO ?_ | refine At ?_) | (refine CF ?_; first | refine BS ?_ | refine Aw ?_) | refine AO ?_ | refine AK ?_ | refine Ae (by decide +kernel) ?_ | refine AW ?_ | refine BN ?_ | refine BM ?_ | refine Ah ?_ | refine As ?_ | refine Ag ?_ | refine AR ?_ | refine Ar ?_ | refine Ad ?_ | refine AS ?_ | refine Aq ?_ | refine Ac ?_ | refine AV rfl ?_ | refine AE (fun hb => ?_) (fun hb => ?_))
  all_goals first
   | (simp at hb; done)
   | (refine Ai ?_; simp [AD, AB, *]; simp [Ap, hn]; done)
def Uk (k : Chk) : Int := if OD k = true then 0 else 1400
def ZQ (k : Chk) : ByteArray := if OD k = true then BB k else ⟨#[]⟩
theorem ZX (H : Heap) (w v : V) (k : Chk) (hk : KAt H w v k) (hf : k.Fit) : Call Tryz.prog 85 [.agg (kC w v k)] H (.tup [.str (ZQ k), .int .i64 (Uk k)]) H := by
 have l1 := hf.ws
 have l2 := hf.vs
 unfold ZQ Uk
 cases hm : OD k with
 | true => exact JR H w v k.ws k.vs k.r k.m k.t hk.ws hk.vs hm
 | false =>
  have s1 := hk.ws.cells
  have s2 := hk.vs.cells
  rw [if_neg (by decide), if_neg (by decide)]
  refine AQ fit mixed Tryz.func85 rfl rfl rfl (by kernel_rfl) rfl fun hM => ?_
  refine AO (AK ?_)
  refine Ax T82 fun b1 H1 hM => ?_
  have c1 := Gp H1 w v k.ws k.vs k.r k.m k.t (hk.ws.mono hM.pre) (hk.vs.mono hM.pre) (by omega) (by omega)
  unfold OD at hm
  rw [hm] at c1
  clear hm
  refine goM ?_
  refine AA c1 ?_
  refine goM ?_
  exact An ⟨rfl, hM.pre⟩
def Kz (s : St) (m : Chk × Int) : Bool := OD m.1 && ((Cl s.st m.2).2 && (EF (Cl s.st m.2).1 (BB m.1) && (fits s.c.i s.c.h m.1.ws && decide (m.1.t ≤ s.c.total))))
theorem Ns (s : St) (m : Chk × Int) : Kz s m = (FO s.c m && FW s.st m) := by
 unfold Kz FO FW BW BI OD
 cases CT m.1.ws m.1.vs m.1.r m.1.m m.1.t <;> cases (Cl s.st m.2).2 <;> cases EF (Cl s.st m.2).1 (BB m.1) <;> cases fits s.c.i s.c.h m.1.ws <;> simp
theorem aM (s : St) : s.ms.all (Kz s) = (s.ms.all (FO s.c) && s.ms.all (FW s.st)) := by
 rw [Bool.eq_iff_iff, Bool.and_eq_true, List.all_eq_true, List.all_eq_true, List.all_eq_true]
 constructor
 ·intro h
  refine ⟨fun x hx => ?_, fun x hx => ?_⟩
  ·have := h x hx; rw [Ns, Bool.and_eq_true] at this; exact this.1
  ·have := h x hx; rw [Ns, Bool.and_eq_true] at this; exact this.2
 ·intro h x hx
  rw [Ns, h.1 x hx, h.2 x hx]; rfl
theorem Rf (s : St) : BZ s = (Al s.c && (decide ((s.ms.length : Int) = s.c.m) && (Ap s.es s.c.m && (Az s.st && (s.ms.all (Kz s) && s.st.all (Dn s.ms)))))) := by
 rw [aM]
 unfold BZ HJ
 cases Al s.c <;> cases decide ((s.ms.length : Int) = s.c.m) <;> cases Ap s.es s.c.m <;> cases Az s.st <;> cases s.ms.all (FO s.c) <;> cases s.ms.all (FW s.st) <;> simp
theorem GM (H : Heap) (s : St) (rv mv ev sv : V) (xs : List MR) (ha : Da H rv mv ev sv xs s) (hf : s.Fit) :
  Call Tryz.prog 38 [.agg (stC s.c rv mv ev sv)] H (.bool (BZ s)) H := by
 have l1 := hf.c.rows
 have l2 := hf.c.row
 have l3 := hf.ms
 have l4 := hf.es
 have l5 := hf.st
 have s1 : rv.cells = [rv] ∧ rv.isTup = false := by obtain ⟨_, h, _⟩ := ha.rows; exact h.cells
 have s2 := ha.ms.cells
 have s3 := ha.es.cells
 have s4 := ha.st.cells
 have hxl := ha.len
 have hkx := hf.kx ha
 obtain ⟨n, hn⟩ : ∃ n, s.ms.length = n := ⟨_, rfl⟩
 have hlen := ha.ms.len T28 rfl
 rw [hxl, hn] at hlen
 obtain ⟨ns, hns⟩ : ∃ n, s.st.length = n := ⟨_, rfl⟩
 have hlenS := ha.st.len T30 rfl
 rw [hns] at hlenS
 refine AQ fit mixed Tryz.func38 rfl rfl rfl (by kernel_rfl) rfl fun hM => ?_
 refine AO (AK ?_)
 refine Ax T32 fun b1 H1 hM => ?_
 have c1 := EA H1 s.c rv (ha.rows.mono hM.pre) (by omega) (fun r hr => by have := l2 r hr; omega)
 have c3 := Ql H1 ev s.es s.c.m (ha.es.mono hM.pre) (by omega)
 have c4 := FF H1 sv s.st (ha.st.mono hM.pre) (by omega)
 rw [Rf]
 obtain ⟨q1, e1⟩ : ∃ q, Al s.c = q := ⟨_, rfl⟩
 obtain ⟨q2, e2⟩ : ∃ q, decide ((s.ms.length : Int) = s.c.m) = q := ⟨_, rfl⟩
 obtain ⟨q4, e4⟩ : ∃ q, Ap s.es s.c.m = q := ⟨_, rfl⟩
 obtain ⟨q5, e5⟩ : ∃ q, Az s.st = q := ⟨_, rfl⟩
 have d2 : ((n : Int) != s.c.m) = !q2 := by rw [← e2, hn]; by_cases h : (n : Int) = s.c.m <;> simp [h]
 rw [e1, e2, e4, e5]
 rw [e1] at c1
 rw [e4] at c3
 rw [e5] at c4
 clear e1 e2 e4 e5
 cases q1 with
 | false =>
  refine goM ?_
  refine AA c1 ?_
  refine goM ?_
  exact AY ⟨rfl, hM.pre⟩
 | true =>
 cases q2 with
 | false =>
  refine goM ?_
  refine AA c1 ?_
  refine goM ?_
  exact AY ⟨rfl, hM.pre⟩
 | true =>
 cases q4 with
 | false =>
  refine goM ?_
  refine AA c1 ?_
  refine goM ?_
  refine AA c3 ?_
  refine goM ?_
  exact AY ⟨rfl, hM.pre⟩
 | true =>
 cases q5 with
 | false =>
  refine goM ?_
  refine AA c1 ?_
  refine goM ?_
  refine AA c3 ?_
  refine goM ?_
  refine AA c4 ?_
  refine goM ?_
  exact AY ⟨rfl, hM.pre⟩
 | true =>
  simp only [Bool.true_and]
  refine goM ?_
  refine AA c1 ?_
  refine goM ?_
  refine AA c3 ?_
  refine goM ?_
  refine AA c4 ?_
  clear c1 c3 c4 d2
  refine goM ?_
  refine AT (fun cc ρ h => ∃ (k : Nat), k ≤ n ∧ cc = n - k ∧ (∀ (j : Nat) x, j < k → s.ms[j]? = some x → Kz s x = true) ∧ Mem H h [.box b1 (stC s.c rv mv ev sv)] ∧ ρ 1 = .ptr b1 0 ∧ ρ 3 = .int .i64 (k : Int)) ⟨0, Nat.zero_le _, rfl, fun j x hj => by omega, hM, by simp [AD, AB, BT, *]⟩ ?_
  clear hM
  rintro _ ρ h ⟨k, hk, rfl, hok, hM, g1, g3⟩
  refine goM ?_
  refine AE (fun hb => ?_) (fun hb => ?_)
  ·have hk' : k < n := by simpa using hb
   clear hb
   obtain ⟨x, hx⟩ : ∃ x, xs[k]? = some x := ⟨xs[k]'(by omega), by simp⟩
   have hxm := List.mem_of_getElem? hx
   have hka := ha.ks x hxm
   have hkf := hkx x hxm
   have hmx : s.ms[k]? = some x.val := by rw [← ha.val, List.getElem?_map, hx]; rfl
   have t1 := hka.ws.cells
   have t2 := hka.vs.cells
   have hw := AG (n := k) (by omega)
   have hbad : Kz s x.val = false → s.ms.all (Kz s) = false := fun h => by
    rw [List.all_eq_false]
    exact ⟨x.val, List.mem_of_getElem? hmx, by rw [h]; decide⟩
   have hdd : Kz s x.val = (OD x.k && ((Cl s.st x.h).2 && (EF (Cl s.st x.h).1 (BB x.k) && (fits s.c.i s.c.h x.k.ws && decide (x.k.t ≤ s.c.total))))) := rfl
   obtain ⟨bo, o, hi, lo, loK, loH⟩ := EM (ha.ms.mono hM.pre) hx
   clear lo
   refine goM ?_
   refine Aj (cs := Ay) T82 rfl fun b4 H4 hM => ?_
   refine AM T82 fun H5 hM => ?_
   clear loK loH
   obtain ⟨bo2, o2, hi2, _, _, loH⟩ := EM (ha.ms.mono hM.pre) hx
   rw [hi] at hi2
   cases hi2
   have c1 := XV H5 sv s.st x.h (ha.st.mono hM.pre) (by omega)
   have c2 := ZX H5 x.w x.v x.k (hka.mono hM.pre) hkf
   have c3 := Gq H5 s.c.i s.c.h x.w x.k.ws (hka.mono hM.pre).ws (by have := hkf.ws; omega)
   have htt : OD x.k = true → ZQ x.k = BB x.k := fun h => by unfold ZQ; rw [if_pos h]
   have hee : OD x.k = true → Uk x.k = 0 := fun h => by unfold Uk; rw [if_pos h]
   have hee2 : OD x.k = false → Uk x.k = 1400 := fun h => by unfold Uk; rw [h]; rfl
   have hd5 : decide (x.k.t > s.c.total) = !(decide (x.k.t ≤ s.c.total)) := by
    by_cases h : x.k.t ≤ s.c.total
    ·rw [decide_eq_true h, decide_eq_false (by omega)]; rfl
    ·rw [decide_eq_false h, decide_eq_true (by omega)]; rfl
   generalize hk0 : OD x.k = p1 at *
   generalize hg0 : Cl s.st x.h = g at *
   generalize hf0 : fits s.c.i s.c.h x.k.ws = p4 at *
   generalize hd0 : decide (x.k.t ≤ s.c.total) = p5 at *
   obtain ⟨gt, p2⟩ := g
   simp only at c1 hdd
   generalize hT0 : ZQ x.k = pt at *
   generalize hE0 : Uk x.k = pe at *
   clear hk0 hg0 hf0 hd0 hT0 hE0 hxm hkf hka
   refine goM ?_
   refine AI c1 ?_
   refine goM ?_
   refine AA c2 ?_
   clear c1 c2
   cases p1 with
   | false =>
    have hE := hee2 rfl
    subst hE
    rw [hbad hdd]
    clear hbad hdd hok htt hee hee2
    refine goM ?_
    exact AY ⟨rfl, hM.pre⟩
   | true =>
    have hE := hee rfl
    have hTT := htt rfl
    subst hE
    subst hTT
    clear htt hee hee2
    cases p2 with
    | false =>
     rw [hbad hdd]
     clear hbad hdd hok
     refine goM ?_
     exact AY ⟨rfl, hM.pre⟩
    | true =>
     have htd := GB gt (BB x.k)
     generalize hq0 : EF gt (BB x.k) = p3 at *
     clear hq0
     cases p3 with
     | false =>
      rw [hbad hdd]
      clear hbad hdd hok
      refine goM ?_
      exact AY ⟨rfl, hM.pre⟩
     | true =>
      cases p4 with
      | false =>
       rw [hbad hdd]
       clear hbad hdd hok
       refine goM ?_
       refine AA c3 ?_
       refine goM ?_
       exact AY ⟨rfl, hM.pre⟩
      | true =>
       cases p5 with
       | false =>
        rw [hbad hdd]
        clear hbad hdd hok
        refine goM ?_
        refine AA c3 ?_
        refine goM ?_
        exact AY ⟨rfl, hM.pre⟩
       | true =>
        clear hbad
        refine goM ?_
        refine AA c3 ?_
        refine goM ?_
        refine ⟨n - (k + 1), by omega, k + 1, hk', rfl, fun j y hj hy => ?_, hM.Ea, by simp [AD, AB, *]⟩
        by_cases hjk : j < k
        ·exact hok j y hjk hy
        ·obtain rfl : j = k := by omega
         rw [hmx] at hy
         cases hy
         exact hdd
  ·have hk' : k = n := by have : ¬ k < n := by simpa using hb
                          omega
   subst hk'
   clear hb
   have hall : s.ms.all (Kz s) = true := by
    rw [List.all_eq_true]
    intro y hy
    obtain ⟨j, hj⟩ := List.mem_iff_getElem?.1 hy
    exact hok j y (by have := (List.getElem?_eq_some_iff.1 hj).1; omega) hj
   rw [hall, Bool.true_and]
   clear hall hok
   refine goM ?_
   refine AT (fun cc ρ h => ∃ (i : Nat), i ≤ ns ∧ cc = ns - i ∧ (∀ (j : Nat) x, j < i → s.st[j]? = some x → Dn s.ms x = true) ∧ Mem H h [.box b1 (stC s.c rv mv ev sv)] ∧ ρ 1 = .ptr b1 0 ∧ ρ 9 = .int .i64 (i : Int)) ⟨0, Nat.zero_le _, rfl, fun j x hj => by omega, hM, by simp [AD, AB, *]⟩ ?_
   repeat clear hM
   clear g1 g3 hk
   rintro _ ρ h ⟨i, hi, rfl, hok, hM, g1, g9⟩
   refine goM ?_
   refine AE (fun hb => ?_) (fun hb => ?_)
   ·have hi' : i < ns := by simpa using hb
    clear hb
    obtain ⟨e, he⟩ : ∃ e, s.st[i]? = some e := ⟨s.st[i]'(by omega), by simp⟩
    have hw := AG (n := i) (by omega)
    have hbad : Dn s.ms e = false → s.st.all (Dn s.ms) = false := fun h => by
     rw [List.all_eq_false]
     exact ⟨e, List.mem_of_getElem? he, by rw [h]; decide⟩
    obtain ⟨be, oe, hie, _, loI, _, loN⟩ := CV (ha.st.mono hM.pre) he
    refine goM ?_
    refine AT (fun cc ρ h' => ∃ (j : Nat), j ≤ k ∧ cc = k - j ∧ h' = h ∧ ρ 1 = .ptr b1 0 ∧ ρ 9 = .int .i64 (i : Int) ∧ ρ 10 = .int .i64 (BQ (s.ms.take j) e.id : Int) ∧ ρ 11 = .int .i64 (j : Int)) ⟨0, Nat.zero_le _, rfl, rfl, by simp [AD, AB, BQ, *]⟩ ?_
    clear g1 g9
    rintro _ ρ h' ⟨j, hj, rfl, rfl, g1, g9, g10, g11⟩
    refine goM ?_
    refine AE (fun hb => ?_) (fun hb => ?_)
    ·have hj' : j < k := by simpa using hb
     clear hb
     obtain ⟨x, hx⟩ : ∃ x, xs[j]? = some x := ⟨xs[j]'(by omega), by simp⟩
     have hmx : s.ms[j]? = some x.val := by rw [← ha.val, List.getElem?_map, hx]; rfl
     obtain ⟨bm, om, him, _, _, loH⟩ := EM (ha.ms.mono hM.pre) hx
     have hwj := AG (n := j) (by omega)
     have hcl := KH (s.ms.take j) e.id
     rw [List.length_take] at hcl
     have hwc := AG (n := BQ (s.ms.take j) e.id) (by omega)
     have hsn : BQ (s.ms.take (j + 1)) e.id = BQ (s.ms.take j) e.id + if x.h = e.id then 1 else 0 := by
      rw [List.take_add_one, hmx]
      exact IX _ _ _
     by_cases hxe : x.h = e.id
     ·have de : (x.h == e.id) = true := by simpa using hxe
      rw [if_pos hxe] at hsn
      clear hxe
      refine goM ?_
      refine ⟨k - (j + 1), by omega, j + 1, hj', rfl, rfl, ?_⟩
      rw [hsn]
      simp [AD, AB, *]
     ·have de : (x.h == e.id) = false := by simpa using hxe
      rw [if_neg hxe, Nat.add_zero] at hsn
      clear hxe
      refine goM ?_
      refine ⟨k - (j + 1), by omega, j + 1, hj', rfl, rfl, ?_⟩
      rw [hsn]
      simp [AD, AB, *]
    ·have hj' : j = k := by have : ¬ j < k := by simpa using hb
                            omega
     subst hj'
     clear hb
     rw [List.take_of_length_le (by omega)] at g10
     have hed : Dn s.ms e = decide (e.n = (BQ s.ms e.id : Int)) := rfl
     by_cases hq : e.n = (BQ s.ms e.id : Int)
     ·have dq : ((BQ s.ms e.id : Int) != e.n) = false := by rw [hq]; simp
      rw [decide_eq_true hq] at hed
      clear hq hbad
      refine goM ?_
      refine ⟨ns - (i + 1), by omega, i + 1, hi', rfl, fun q y hqi hy => ?_, hM, by simp [AD, AB, *]⟩
      by_cases hqk : q < i
      ·exact hok q y hqk hy
      ·obtain rfl : q = i := by omega
       rw [he] at hy
       cases hy
       exact hed
     ·have dq : ((BQ s.ms e.id : Int) != e.n) = true := by simpa using fun h => hq h.symm
      rw [decide_eq_false hq] at hed
      rw [hbad hed]
      clear hq hbad hed hok
      refine goM ?_
      exact AY ⟨rfl, hM.pre⟩
   ·have hi' : i = ns := by have : ¬ i < ns := by simpa using hb
                            omega
    subst hi'
    clear hb
    have hall : s.st.all (Dn s.ms) = true := by
     rw [List.all_eq_true]
     intro y hy
     obtain ⟨j, hj⟩ := List.mem_iff_getElem?.1 hy
     exact hok j y (by have := (List.getElem?_eq_some_iff.1 hj).1; omega) hj
    rw [hall]
    clear hall hok
    refine goM ?_
    exact AY ⟨rfl, hM.pre⟩
theorem Jw (H : Heap) (c : Cfg) (v : V) (hv : Rows H v c.rows) (hf : c.Fit) : ∃ w H', Call Tryz.prog 69 [.agg (BJ c v)] H w H' ∧ ∃ u rv, w = .agg (BJ c u) ∧ Jr rv c.rows ∧ Mem H H' [.ro (pack (Bl u rv c.rows))] := by
 have l1 := hf.rows
 have l2 := hf.row
 have hv0 := hv
 have s0 : v.cells = [v] ∧ v.isTup = false := by obtain ⟨_, h, _⟩ := hv; exact h.cells
 obtain ⟨n, hn⟩ : ∃ n, c.rows.length = n := ⟨_, rfl⟩
 have hlen : builtinP T .len [24] [v] = some (.int .i64 (n : Int)) := by
  obtain ⟨qv, hqv, hql, _⟩ := hv
  have := hqv.len T24 rfl
  rw [hql, hn] at this
  exact this
 refine Ao fit mixed Tryz.func69 rfl rfl rfl (by kernel_rfl) fun hM => ?_
 refine AO (AK ?_)
 refine Ax T26 fun b1 H1 hM => ?_
 refine Aj (cs := Cj) T26 rfl fun b2 H2 hM => ?_
 refine goM ?_
 have hM0 : Mem H H2 [.ro (pack (Bl .AN [] [])), .box b2 Cj, .box b1 (BJ c v)] := Mem.packed (L := Bl .AN [] []) (hM.nil 2 Dg)
 refine AT (fun cc ρ h => ∃ (k : Nat) (u : V) (rv : List (V × Int)), k ≤ n ∧ cc = n - k ∧ Jr rv (c.rows.take k) ∧ Mem H h [.ro (pack (Bl u rv (c.rows.take k))), .box b2 Cj, .box b1 (BJ c v)] ∧ ρ 1 = .ptr b1 0 ∧ ρ 2 = .ptr b2 0 ∧ ρ 3 = u ∧ ρ 4 = .int .i64 (k : Int)) ⟨0, .AN, [], Nat.zero_le _, rfl, ⟨rfl, by simp⟩, hM0, by simp [AD, AB, BT, *]⟩ ?_
 repeat clear hM
 clear hM0
 rintro _ ρ h ⟨k, u, rv, hk, rfl, hlk, hM, g1, g2, g3, g4⟩
 have hsu : u.cells = [u] ∧ u.isTup = false := by
  have := DL (hM.fact (F := pack (Bl u rv (c.rows.take k))) .here) hlk
  obtain ⟨_, h, _⟩ := this
  exact h.cells
 refine goM ?_
 refine AE (fun hb => ?_) (fun hb => ?_)
 ·have hk' : k < n := by simpa using hb
  clear hb
  obtain ⟨⟨xs, y⟩, hrk⟩ : ∃ r, c.rows[k]? = some r := ⟨c.rows[k]'(by omega), by simp⟩
  obtain ⟨b3, o3, x, hi3, hlo3, _, _, hxs⟩ := hv0.at hrk
  replace hlo3 := CX hM.pre hlo3
  have hxl : xs.length * 8 ≤ 140737488351232 := l2 _ (List.mem_of_getElem? hrk)
  have hw := AG (n := k) (by omega)
  have hrl : rv.length = k := by rw [hlk.1, List.length_take]; omega
  have s1 := hxs.cells
  have htk : c.rows.take (k + 1) = c.rows.take k ++ [(xs, y)] := by rw [List.take_add_one, hrk]; rfl
  clear hrk
  refine goM ?_
  refine Aj (cs := [.AN, .int .i64 0]) GD rfl fun b4 H1 hM => ?_
  refine AM GD fun H2 hM => ?_
  refine goM ?_
  refine Aa AH [] [] T27 rfl T3 rfl (Ba []) (by decide) fun e1 H3 hM => ?_
  refine goM ?_
  refine Bg (hxs.mono hM.pre) fun a H4 hM => ?_
  have s3 := (hM.sl .here).cells
  refine goM ?_
  refine AM T27 fun H5 hM => ?_
  refine goM ?_
  refine Aa Dg [(a, y)] [a, .int .i64 y] T24 rfl GD rfl (Gb [(a, y)]) (by decide) (fun e2 H6 hM => ?_)
  have hM2 : Mem H H6 (.own 2 Dg e2 [(a, y)] :: .own 2 Dg u rv :: .box b4 [a, .int .i64 y] :: .box b2 Cj :: .box b1 (BJ c v) :: .own 1 AH a ([] ++ xs) :: Dq rv (c.rows.take k)) := by
   have h1 := hM.front (r := .ro (pack (Bl u rv (c.rows.take k)))) tkG
   have h2 := (h1.sub (L' := [.ro (pack (Bl u rv (c.rows.take k))), .own 2 Dg e2 [(a, y)], .own 1 AH a ([] ++ xs), .box b4 [a, .int .i64 y], .box b2 Cj, .box b1 (BJ c v)]) sbG).Fu
   refine h2.perm ?_
   refine (List.perm_append_comm (l₁ := Bl u rv (c.rows.take k))).trans ?_
   refine List.Perm.cons _ ?_
   show (Res.own 1 AH a ([] ++ xs) :: .box b4 [a, .int .i64 y] :: .box b2 Cj :: .box b1 (BJ c v) :: Res.own 2 Dg u rv :: Dq rv (c.rows.take k)).Perm _
   refine (List.perm_middle (l₁ := [Res.own 1 AH a ([] ++ xs), .box b4 [a, .int .i64 y], .box b2 Cj, .box b1 (BJ c v)])).trans (List.Perm.cons _ ?_)
   exact (List.perm_middle (l₁ := [Res.box b4 [a, .int .i64 y], .box b2 Cj, .box b1 (BJ c v)])).symm
  clear hM
  have hM := hM2
  clear hM2
  refine goM ?_
  refine Bg (hM.sl .here) (xs := rv) (hh := .there .here) (hb := by simp only [List.length_cons, List.length_nil]; rw [hrl]; omega) fun u' H7 hM => ?_
  refine goM ?_
  refine ⟨n - (k + 1), by omega, k + 1, u', rv ++ [(a, y)], hk', rfl, ?_, ?_, by simp [AD, AB, *]⟩
  ·rw [htk]
   have h3 : (c.rows.take k).length = k := by rw [List.length_take]; omega
   refine ⟨by simp [hrl, h3], fun j p r hp hr => ?_⟩
   by_cases hj : j < k
   ·rw [List.getElem?_append_left (by omega)] at hp hr
    exact hlk.2 j p r hp hr
   ·rw [List.getElem?_append_right (by omega)] at hp hr
    rw [hrl] at hp
    rw [h3] at hr
    match hq : j - k, hp, hr with
    | 0, hp, hr => simp at hp hr; subst hp; subst hr; rfl
    | q + 1, hp, hr => simp at hp
  ·rw [htk]
   have h3 : (c.rows.take k).length = k := by rw [List.length_take]; omega
   have hz : Dq (rv ++ [(a, y)]) (c.rows.take k ++ [(xs, y)]) = Dq rv (c.rows.take k) ++ [.own 1 AH a xs] := by
    unfold Dq
    rw [List.zipWith_append (by omega)]; rfl
   unfold Bl
   rw [hz]
   refine Mem.packed ?_
   refine ((hM.drop).sub (L' := .own 2 Dg u' (rv ++ [(a, y)]) :: .box b2 Cj :: .box b1 (BJ c v) :: .own 1 AH a ([] ++ xs) :: Dq rv (c.rows.take k)) sbG).perm ?_
   refine List.Perm.cons _ ?_
   refine (List.perm_append_comm (l₁ := [Res.box b2 Cj, .box b1 (BJ c v)]) (l₂ := .own 1 AH a ([] ++ xs) :: Dq rv (c.rows.take k))).trans ?_
   exact List.Perm.append_right _ (List.perm_append_comm (l₁ := [Res.own 1 AH a xs]) (l₂ := Dq rv (c.rows.take k)))
 ·have hk' : k = n := by have : ¬ k < n := by simpa using hb
                         omega
  subst hk'
  clear hb
  rw [List.take_of_length_le (by omega)] at hM hlk
  refine goM ?_
  refine AM T24 fun H4 hM => ?_
  refine goM ?_
  refine AM T26 fun H5 hM => ?_
  refine goM ?_
  exact AY ⟨u, rv, rfl, hlk, hM.Ea⟩
theorem TQ (H : Heap) (s : St) (rv mv ev sv : V) (xs : List MR) (ha : Da H rv mv ev sv xs s) (hf : s.Fit) :
  ∃ w H', Call Tryz.prog 75 [.agg (stC s.c rv mv ev sv)] H w H' ∧ Mem H H' [.own 1 AH w (FI s)] := by
 have z1 : rv.cells = [rv] ∧ rv.isTup = false := by obtain ⟨_, h, _⟩ := ha.rows; exact h.cells
 have z2 := ha.ms.cells
 have z3 := ha.es.cells
 have z4 := ha.st.cells
 refine Ao fit mixed Tryz.func75 rfl rfl rfl (by kernel_rfl) fun hM => ?_
 refine AO (AK ?_)
 refine Ax T32 fun b1 H1 hM => ?_
 obtain ⟨n, hn⟩ : ∃ n, xs.length = n := ⟨_, rfl⟩
 have hlen := ha.ms.len T28 rfl
 rw [hn] at hlen
 have hkx := hf.kx ha
 have hnb : n * 80 ≤ 140737488351232 := by have := hf.ms; rw [← hn, ha.len]; exact this
 have hsc : FI s = xs.map fun x => (By s.c x.k).1 := by unfold FI; rw [← ha.val, List.map_map]; rfl
 rw [hsc]
 clear hsc
 refine goM ?_
 refine AT (fun cc ρ h => ∃ (k : Nat) (u : V), k ≤ n ∧ cc = n - k ∧ Mem H h [.own 1 AH u ((xs.take k).map fun x => (By s.c x.k).1), .box b1 (stC s.c rv mv ev sv)] ∧ ρ 1 = .ptr b1 0 ∧ ρ 3 = u ∧ ρ 4 = .int .i64 (k : Int)) ⟨0, .AN, Nat.zero_le _, rfl, hM.nil 1 AH, by simp [AD, AB, BT, *]⟩ ?_
 repeat clear hM
 rintro _ ρ h ⟨k, u, hk, rfl, hM, g1, g3, g4⟩
 have t1 := (hM.sl .here).cells
 refine goM ?_
 refine AE (fun hb => ?_) (fun hb => ?_)
 ·have hk' : k < n := by simpa using hb
  clear hb
  obtain ⟨x, hx⟩ : ∃ x, xs[k]? = some x := ⟨xs[k]'(by omega), by simp⟩
  have hxm := List.mem_of_getElem? hx
  have hka := ha.ks x hxm
  obtain ⟨bo, o, hi, lo, _, _⟩ := EM (ha.ms.mono hM.pre) hx
  have hw := AG (n := k) (by omega)
  have htk : (xs.take (k + 1)).map (fun x => (By s.c x.k).1) = (xs.take k).map (fun x => (By s.c x.k).1) ++ [(By s.c x.k).1] := by rw [List.take_add_one, hx]; simp
  have hkf := hkx x hxm
  clear hx hxm
  have c1 := TP h s.c rv x.w x.v x.k x.h (ha.rows.mono hM.pre) (hka.mono hM.pre) hf.c hkf
  refine goM ?_
  refine AI c1 ?_
  refine goM ?_
  refine Aa AH [(By s.c x.k).1] [.int .i64 (By s.c x.k).1] T27 rfl T3 rfl (Ba [(By s.c x.k).1]) (by decide) fun e1 H6 hM => ?_
  refine goM ?_
  refine Bg (hM.sl .here) (xs := (xs.take k).map fun x => (By s.c x.k).1) (hh := .there .here) (hb := by simp only [List.length_map, List.length_take, List.length_cons, List.length_nil]; rw [Nat.min_eq_left (by omega)]; show (k + 1) * 8 ≤ _ ∧ k + 1 ≤ _; omega) fun u' H7 hM => ?_
  have t2 := (hM.sl (v := u') (xs := (xs.take k).map (fun x => (By s.c x.k).1) ++ [(By s.c x.k).1]) hsG).cells
  refine goM ?_
  refine ⟨n - (k + 1), by omega, k + 1, u', hk', rfl, ?_, by simp [AD, AB, *]⟩
  rw [htk]
  exact hM.Ea
 ·have hk' : k = n := by have : ¬ k < n := by simpa using hb
                         omega
  subst hk'
  clear hb
  rw [List.take_of_length_le (by omega)] at hM
  refine goM ?_
  exact AY (hM.Ea)
theorem bS (H : Heap) (c : Cfg) (rv : V) (hr : Rows H rv c.rows) (hf : c.Fit) :
  ∃ w H', Call Tryz.prog 34 [.agg (BJ c rv)] H w H' ∧ ∃ u mv sv rvs xs, w = .tup [.agg (stC (Gy c).1.c u mv .AN sv), .int .i64 (Gy c).2] ∧ Jr rvs (Gy c).1.c.rows ∧ xs.map MR.val = (Gy c).1.ms ∧ Mem H H' (Cz u mv .AN sv rvs xs (Gy c).1) := by
 have l1 := hf.rows
 have l2 := hf.row
 have s0 : rv.cells = [rv] ∧ rv.isTup = false := by obtain ⟨_, h, _⟩ := hr; exact h.cells
 refine Ao fit mixed Tryz.func34 rfl rfl rfl (by kernel_rfl) fun hM => ?_
 refine AO (AK ?_)
 refine Ax T26 fun b1 H1 hM => ?_
 refine Aj (cs := Au) T32 rfl fun b2 H2 hM => ?_
 have c1 := EA H2 c rv (hr.mono hM.pre) (by omega) (fun r hr => by have := l2 r hr; omega)
 unfold Gy
 cases hc : Al c with
 | false =>
  rw [hc] at c1
  rw [if_neg (by decide)]
  clear hc
  refine goM ?_
  refine AA c1 ?_
  refine goM ?_
  refine AM T32 fun H3 hM => ?_
  refine goM ?_
  exact An ⟨.AN, .AN, .AN, [], [], rfl, ⟨rfl, by simp⟩, rfl, (OR (H := H3)).Yt hM.pre⟩
 | true =>
  rw [hc] at c1
  rw [if_pos rfl]
  obtain ⟨hm2, _⟩ := AX hc
  obtain ⟨n, hn⟩ : ∃ n : Nat, c.m = n := ⟨c.m.toNat, by omega⟩
  have hn8 : n ≤ 8 := by omega
  have hlt : ∀ k : Nat, k < n → Cx c k = true := fun k h => Pg hc (by omega)
  have hnew := fun i h => (ML hc i h).1
  have hnat : c.m.toNat = n := by omega
  have hS : FX c = ⟨c, (newF c n).1, [], (newF c n).2⟩ := by unfold FX; rw [hnat]
  rw [hS]
  clear hS hnat
  replace hn : Held (c.m = n) := hn
  refine goM ?_
  refine AA c1 ?_
  clear c1
  refine goM ?_
  obtain ⟨_, H3, c1, u, rvs, rfl, hlk, m1⟩ := Jw H2 c rv (hr.mono hM.pre) hf
  refine AA c1 ?_
  have s1 : u.cells = [u] ∧ u.isTup = false := by obtain ⟨_, h, _⟩ := DL (m1.fact .here) hlk; exact h.cells
  replace hM := hM.BH m1
  clear c1 m1
  refine goM ?_
  refine Aj (cs := Au) T32 rfl fun b4 H4 hM => ?_
  refine AM T32 fun H5 hM => ?_
  refine goM ?_
  have hM0 : Mem H H5 [.box b4 (stC c u .AN .AN .AN), .ro (pack (Bn [])), .own 6 mrC .AN [], .own 3 BE .AN [], .ro (pack (Bl u rvs c.rows)), .box b2 Au, .box b1 (BJ c rv)] := by
   have h1 := Mem.packed (L := []) ((hM.nil 3 BE).nil 6 mrC)
   exact (h1.front (r := .box b4 (stC c u .AN .AN .AN)) (.there (.there (.there .here)))).sub sbG
  refine AT (fun cc ρ h => ∃ (k : Nat) (mv sv : V) (xs : List MR), k ≤ n ∧ cc = n - k ∧ xs.map MR.val = (newF c k).1 ∧ Mem H h [.box b4 (stC c u mv .AN sv), .ro (pack (Bn xs)), .own 6 mrC mv xs, .own 3 BE sv (newF c k).2, .ro (pack (Bl u rvs c.rows)), .box b2 Au, .box b1 (BJ c rv)] ∧ ρ 1 = .ptr b1 0 ∧ ρ 2 = .ptr b2 0 ∧ ρ 4 = .ptr b4 0 ∧ ρ 5 = .int .i64 (k : Int)) ⟨0, .AN, .AN, [], Nat.zero_le _, rfl, rfl, hM0, by simp [AD, AB, BT, *]⟩ ?_
  repeat clear hM
  clear hM0
  rintro _ ρ h ⟨k, mv, sv, xs, hk, rfl, hval, hM, g1, g2, g4, g5⟩
  have t1 := (hM.sl (v := mv) (xs := xs) hsG).cells
  have t2 := (hM.sl (v := sv) (xs := (newF c k).2) hsG).cells
  have hxl : xs.length = k := by rw [← List.length_map (f := MR.val), hval]; exact (hnew k (by omega)).len
  have hsl := (hnew k (by omega)).stl
  by_cases hk' : k < n
  ·have dk : decide ((k : Int) < c.m) = true := decide_eq_true (by have : c.m = (n : Int) := hn; omega)
   have hw := AG (n := k) (by omega)
   obtain ⟨_, H6, c1, a, b', rfl, m1⟩ := Xa h c rv k (hr.mono hM.pre) hf
   have hfk : Bq c k = CQ c k := by unfold Bq; rw [if_pos (hlt k hk')]
   have hfs : strOf (HE c k) = BB (CQ c k) := by unfold HE; rw [if_pos (hlt k hk')]; rfl
   have hfe : HD c k = 0 := by unfold HD; rw [if_pos (hlt k hk')]
   rw [hfk] at m1
   rw [hfk, hfs, hfe] at c1
   have s3 := (m1.sl .here).cells
   have s4 := (m1.sl (.there .here)).cells
   have hsucc : newF c (k + 1) = ((newF c k).1 ++ [(CQ c (k : Int), (putS (newF c k).2 (BB (CQ c (k : Int)))).2.1)], (putS (newF c k).2 (BB (CQ c (k : Int)))).1) := rfl
   clear hfk hfs hfe
   generalize hK : CQ c (k : Int) = K at *
   refine goM ?_
   refine AA c1 ?_
   replace hM := hM.call2 m1
   clear c1 m1
   refine goM ?_
   refine Aj (cs := Dr) T84 rfl fun b6 H7 hM => ?_
   refine AM T84 fun H8 hM => ?_
   refine goM ?_
   obtain ⟨_, H9, c1, sv', rfl, m1⟩ := MS H8 sv (newF c k).2 (BB K) (hM.sl (v := sv) (xs := (newF c k).2) hsG) (by omega)
   refine AA c1 ?_
   have s5 := (m1.sl .here).cells
   replace hM := hM.BH m1
   clear c1 m1
   generalize putS (newF c k).2 (BB K) = o at *
   obtain ⟨st', id', er'⟩ := o
   simp only at hsucc hM ⊢
   refine goM ?_
   refine AM T3 fun H10 hM => ?_
   refine goM ?_
   refine AM T30 fun H11 hM => ?_
   refine goM ?_
   refine Aa mrC [⟨a, b', K, id'⟩] (mC a b' K id') T28 rfl T84 rfl (Hm [⟨a, b', K, id'⟩]) (by decide) fun e1 H12 hM => ?_
   refine goM ?_
   refine Bg (hM.sl .here) (xs := xs) (hh := by (repeat (first | exact Has.here | apply Has.there))) (hb := by rw [hxl]; show (k + 1) * 80 ≤ _ ∧ k + 1 ≤ _; omega) fun mv' H13 hM => ?_
   have s6 := (hM.sl (v := mv') (xs := xs ++ [⟨a, b', K, id'⟩]) hsG).cells
   refine goM ?_
   refine AM T28 fun H14 hM => ?_
   refine goM ?_
   have h1 := ((hM.front (r := .ro (pack (Bn xs))) tkG).front (r := .own 1 AH b' K.vs) tkG).front (r := .own 1 AH a K.ws) tkG
   have h2 := Mem.JN (x := ⟨a, b', K, id'⟩) h1
   have h3 := (((h2.front (r := .own 3 BE sv' st') tkG).front (r := .own 6 mrC mv' (xs ++ [⟨a, b', K, id'⟩])) tkG).front (r := .ro (pack (Bn (xs ++ [⟨a, b', K, id'⟩])))) tkG).front (r := .box b4 (stC c u mv' .AN sv')) tkG
   refine ⟨n - (k + 1), by omega, k + 1, mv', sv', xs ++ [⟨a, b', K, id'⟩], hk', rfl, ?_, ?_, by simp [AD, AB, *]⟩
   ·rw [hsucc, List.map_append, hval]; rfl
   ·rw [hsucc]
    exact h3.sub sbG
  ·have dk : decide ((k : Int) < c.m) = false := decide_eq_false (by have : c.m = (n : Int) := hn; omega)
   have hk'' : k = n := by omega
   subst hk''
   refine goM ?_
   refine AM T32 fun H6 hM => ?_
   refine goM ?_
   refine An ⟨u, mv, sv, rvs, xs, rfl, hlk, hval, ?_⟩
   have h1 := ((hM.front (r := .own 3 BE sv (newF c k).2) tkG).nil 6 evC)
   exact (((h1.front (r := .own 6 mrC mv xs) tkG).front (r := .ro (pack (Bn xs))) tkG).front (r := .ro (pack (Bl u rvs c.rows))) tkG).sub (by unfold Cz; (repeat (first | exact List.Sublist.slnil | exact List.Sublist.refl _ | refine List.Sublist.cons_cons _ ?_ | refine List.Sublist.cons _ ?_)))
theorem UE (H : Heap) (s : St) (rv mv ev sv : V) (xs : List MR) (ha : Da H rv mv ev sv xs s) (hf : s.Fit) :
  ∃ w H', Call Tryz.prog 16 [.agg (stC s.c rv mv ev sv)] H w H' ∧ ∃ u mv' ev' sv' rvs xs', w = .agg (stC s.c u mv' ev' sv') ∧ Jr rvs s.c.rows ∧ xs'.map MR.val = s.ms ∧ Mem H H' (Cz u mv' ev' sv' rvs xs' s) := by
 have z1 : rv.cells = [rv] ∧ rv.isTup = false := by obtain ⟨_, h, _⟩ := ha.rows; exact h.cells
 have z2 := ha.ms.cells
 have z3 := ha.es.cells
 have z4 := ha.st.cells
 have l4 := hf.es
 have l5 := hf.st
 refine Ao fit mixed Tryz.func16 rfl rfl rfl (by kernel_rfl) fun hM => ?_
 refine AO (AK ?_)
 refine Ax T32 fun b1 H1 hM => ?_
 refine Aj (cs := Au) T32 rfl fun b2 H2 hM => ?_
 obtain ⟨n, hn⟩ : ∃ n, xs.length = n := ⟨_, rfl⟩
 have hlen := ha.ms.len T28 rfl
 rw [hn] at hlen
 have hkx := hf.kx ha
 have hnb : n * 80 ≤ 140737488351232 := by have := hf.ms; rw [← hn, ha.len]; exact this
 refine goM ?_
 have hM0 : Mem H H2 [.ro (pack (Bn [])), .own 6 mrC .AN [], .box b2 Au, .box b1 (stC s.c rv mv ev sv)] := Mem.packed (L := []) (hM.nil 6 mrC)
 refine AT (fun cc ρ h => ∃ (k : Nat) (v : V) (ys : List MR), k ≤ n ∧ cc = n - k ∧ ys.map MR.val = (xs.take k).map MR.val ∧ Mem H h [.ro (pack (Bn ys)), .own 6 mrC v ys, .box b2 Au, .box b1 (stC s.c rv mv ev sv)] ∧ ρ 1 = .ptr b1 0 ∧ ρ 2 = .ptr b2 0 ∧ ρ 3 = v ∧ ρ 4 = .int .i64 (k : Int)) ⟨0, .AN, [], Nat.zero_le _, rfl, rfl, hM0, by simp [AD, AB, BT, *]⟩ ?_
 repeat clear hM
 clear hM0
 rintro _ ρ h ⟨k, v, ys, hk, rfl, hys, hM, g1, g2, g3, g4⟩
 have t1 := (hM.sl (v := v) (xs := ys) hsG).cells
 have hyl : ys.length = k := by have := congrArg List.length hys; simp only [List.length_map, List.length_take] at this; omega
 refine goM ?_
 refine AE (fun hb => ?_) (fun hb => ?_)
 ·have hk' : k < n := by simpa using hb
  clear hb
  obtain ⟨x, hx⟩ : ∃ x, xs[k]? = some x := ⟨xs[k]'(by omega), by simp⟩
  have hxm := List.mem_of_getElem? hx
  have hka := ha.ks x hxm
  have hkf := hkx x hxm
  obtain ⟨bo, o, hi, lo, _, _⟩ := EM (ha.ms.mono hM.pre) hx
  have hw := AG (n := k) (by omega)
  have s1 := hka.ws.cells
  have s2 := hka.vs.cells
  have htk : (xs.take (k + 1)).map MR.val = (xs.take k).map MR.val ++ [x.val] := by rw [List.take_add_one, hx]; simp
  obtain ⟨xw, xv, xk, xh⟩ := x
  simp only at lo s1 s2 hka hkf
  clear hx hxm
  refine goM ?_
  refine Aj (cs := Dr) T84 rfl fun b5 H4 hM => ?_
  refine AM T84 fun H5 hM => ?_
  refine goM ?_
  obtain ⟨_, H6, c1, a, b', rfl, m1⟩ := SB H5 xw xv xk (hka.mono hM.pre) hkf
  refine AA c1 ?_
  have s3 := (m1.sl .here).cells
  have s4 := (m1.sl (.there .here)).cells
  replace hM := hM.call2 m1
  clear c1 m1
  refine goM ?_
  refine AM T82 fun H7 hM => ?_
  refine goM ?_
  refine Aa mrC [⟨a, b', xk, xh⟩] (mC a b' xk xh) T28 rfl T84 rfl (Hm [⟨a, b', xk, xh⟩]) (by decide) fun e1 H8 hM => ?_
  refine goM ?_
  refine Bg (hM.sl .here) (xs := ys) (hh := by (repeat (first | exact Has.here | apply Has.there))) (hb := by rw [hyl]; show (k + 1) * 80 ≤ _ ∧ k + 1 ≤ _; omega) fun v' H9 hM => ?_
  have s6 := (hM.sl (v := v') (xs := ys ++ [⟨a, b', xk, xh⟩]) hsG).cells
  refine goM ?_
  have h1 := ((hM.front (r := .ro (pack (Bn ys))) tkG).front (r := .own 1 AH b' xk.vs) tkG).front (r := .own 1 AH a xk.ws) tkG
  have h2 := Mem.JN (x := ⟨a, b', xk, xh⟩) h1
  have h3 := (h2.front (r := .own 6 mrC v' (ys ++ [⟨a, b', xk, xh⟩])) tkG).swap
  have h4 := h3.front (r := .ro (pack (Bn (ys ++ [⟨a, b', xk, xh⟩])))) tkG
  refine ⟨n - (k + 1), by omega, k + 1, v', ys ++ [⟨a, b', xk, xh⟩], hk', rfl, ?_, h4.sub sbG, by simp [AD, AB, *]⟩
  rw [htk, List.map_append, hys]; rfl
 ·have hk' : k = n := by have : ¬ k < n := by simpa using hb
                         omega
  subst hk'
  clear hb
  rw [List.take_of_length_le (by omega), ha.val] at hys
  refine goM ?_
  refine Aa (sz := 6) evC [] [] T29 rfl GY rfl Cells.nil (by decide) fun e1 H3 hM => ?_
  refine goM ?_
  refine Bg (ha.es.mono hM.pre) (xs := []) (hb := by simp only [List.length_nil]; show (0 + s.es.length) * 48 ≤ _ ∧ _; omega) fun ev' H4 hM => ?_
  have s5 := (hM.sl .here).cells
  refine goM ?_
  refine Aa (sz := 3) BE [] [] T30 rfl T63 rfl Cells.nil (by decide) fun e2 H5 hM => ?_
  refine goM ?_
  refine Bg (ha.st.mono hM.pre) (xs := []) (hb := by simp only [List.length_nil]; show (0 + s.st.length) * 32 ≤ _ ∧ _; omega) fun sv' H6 hM => ?_
  have s6 := (hM.sl .here).cells
  refine goM ?_
  obtain ⟨_, H7, c1, u, rvs, rfl, hlk, m1⟩ := Qc H6 s.c rv (ha.rows.mono hM.pre) hf.c
  refine AA c1 ?_
  have s7 : u.cells = [u] ∧ u.isTup = false := by obtain ⟨_, h, _⟩ := DL (m1.fact .here) hlk; exact h.cells
  replace hM := hM.BH m1
  clear c1 m1
  refine goM ?_
  refine AM T32 fun H8 hM => ?_
  refine goM ?_
  refine AY ⟨u, v, ev', sv', rvs, ys, rfl, hlk, hys, ?_⟩
  have h1 := (((hM.front (r := .own 3 BE sv' ([] ++ s.st)) tkG).front (r := .own 6 evC ev' ([] ++ s.es)) tkG).front (r := .own 6 mrC v ys) tkG).front (r := .ro (pack (Bn ys))) tkG
  exact (h1.front (r := .ro (pack (Bl u rvs s.c.rows))) tkG).sub (by unfold Cz; (repeat (first | exact List.Sublist.slnil | exact List.Sublist.refl _ | refine List.Sublist.cons_cons _ ?_ | refine List.Sublist.cons _ ?_)))
theorem Ku (H : Heap) (w v : V) (k : Chk) (hk : KAt H w v k) (hf : k.Fit) : ∃ u H', Call Tryz.prog 76 [.agg (kC w v k)] H u H' ∧ ∃ a b, u = .agg (kC a b k) ∧ Mem H H' [.own 1 AH b k.vs, .own 1 AH a k.ws] := by
 have l1 := hf.ws
 have l2 := hf.vs
 have s1 := hk.ws.cells
 have s2 := hk.vs.cells
 refine Ao fit mixed Tryz.func76 rfl rfl rfl (by kernel_rfl) fun hM => ?_
 refine AO (AK ?_)
 refine Ax T82 fun b1 H1 hM => ?_
 refine Aj (cs := Ay) T82 rfl fun b2 H2 hM => ?_
 refine goM ?_
 refine Aa AH [] [] T27 rfl T3 rfl (Ba []) (by decide) fun e1 H3 hM => ?_
 refine goM ?_
 refine Bg (hk.ws.mono hM.pre) fun a H4 hM => ?_
 have s3 := (hM.sl .here).cells
 refine goM ?_
 refine AM T27 fun H5 hM => ?_
 refine goM ?_
 refine Aa AH [] [] T27 rfl T3 rfl (Ba []) (by decide) fun e2 H6 hM => ?_
 refine goM ?_
 refine Bg (hk.vs.mono hM.pre) fun b H7 hM => ?_
 have s4 := (hM.sl .here).cells
 refine goM ?_
 refine AM T27 fun H8 hM => ?_
 refine goM ?_
 refine AM T82 fun H9 hM => ?_
 refine goM ?_
 exact AY ⟨a, b, rfl, hM.Ea⟩
theorem gF (H : Heap) (c : Cfg) (rv : V) (hr : Rows H rv c.rows) (hf : c.Fit) : ∃ w H', Call Tryz.prog 34 [.agg (BJ c rv)] H w H' ∧ KD H (Gy c) w H' := by
 obtain ⟨w, H', h, u, mv, sv, rvs, xs, rfl, h1, h2, h3⟩ := bS H c rv hr hf
 exact ⟨_, H', h, ⟨u, mv, .AN, sv, rvs, xs⟩, rfl, ⟨h1, h2⟩, h3.svN⟩
theorem gZ (H : Heap) (s : St) (rv mv ev sv : V) (xs : List MR) (ha : Da H rv mv ev sv xs s) (hf : s.Fit) :
  ∃ w H', Call Tryz.prog 16 [.agg (stC s.c rv mv ev sv)] H w H' ∧ ∃ q : SV, w = .agg (q.c s) ∧ q.Ok s ∧ Mem H H' [q.own s] := by
 obtain ⟨w, H', h, u, mv', ev', sv', rvs, xs', rfl, h1, h2, h3⟩ := UE H s rv mv ev sv xs ha hf
 exact ⟨_, H', h, ⟨u, mv', ev', sv', rvs, xs'⟩, rfl, ⟨h1, h2⟩, h3.svN⟩
theorem XH (r m : Int) (b : Nat) : IG r m b = (clip (Is r (b % 2 == 1)) 64 16384, clip (Is m (decide (2 ≤ b))) 0 58982) := by
 unfold IG clip
 ext
 ·show min _ _ = _
  simp only
  split <;> (try split) <;> omega
 ·show min _ _ = _
  simp only
  split <;> (try split) <;> omega
theorem TN (H : Heap) (r m : Int) (b : Nat) (hy : BK r m = true) (hb : b < 4) : Call Tryz.prog 132 [.agg [.int .i64 r, .int .i64 m], .int .i64 b] H (.tup [.agg [.int .i64 (IG r m b).1, .int .i64 (IG r m b).2], .int .i64 0]) H := by
 refine AQ fit mixed Tryz.func132 rfl rfl rfl (by kernel_rfl) rfl fun hM => ?_
 refine AO (AK ?_)
 refine Ax T80 fun b1 H1 hM => ?_
 refine Aj (cs := [.int .i64 0, .int .i64 0]) T80 rfl fun b2 H2 hM => ?_
 have c0 := GK H2 r m
 rw [hy] at c0
 have c1 := DM H2 b 0 3
 rw [within_iff.2 (by omega)] at c1
 rw [XH]
 have c2 := fun dn => aQ H2 dn
 have c3 := fun x dn => EI H2 x (if dn = true then 52429 else 81920)
 have e1 := WA b
 have e2 : decide ((b : Int) ≥ 2) = decide (2 ≤ b) := by
  by_cases h : 2 ≤ b
  ·rw [decide_eq_true h, decide_eq_true (by omega)]
  ·rw [decide_eq_false h, decide_eq_false (by omega)]
 clear hy hb
 generalize (b % 2 == 1) = d1 at *
 generalize decide (2 ≤ b) = d2 at *
 have x1 := Gr H2 (Is r d1) 64 16384 (by decide)
 have x2 := Gr H2 (Is m d2) 0 58982 (by decide)
 have c4 := c3 r d1
 have c5 := c3 m d2
 have c6 := c2 d1
 have c7 := c2 d2
 rw [show times r (if d1 = true then 52429 else 81920) = Is r d1 from rfl] at c4
 rw [show times m (if d2 = true then 52429 else 81920) = Is m d2 from rfl] at c5
 generalize (if d1 = true then (52429 : Int) else 81920) = f1 at *
 generalize (if d2 = true then (52429 : Int) else 81920) = f2 at *
 clear c2 c3
 refine goM ?_
 refine AA c0 ?_
 refine goM ?_
 refine AA c1 ?_
 refine goM ?_
 refine AI c6 ?_
 refine goM ?_
 refine AI c4 ?_
 refine goM ?_
 refine AI x1 ?_
 refine goM ?_
 refine AI c7 ?_
 refine goM ?_
 refine AI c5 ?_
 refine goM ?_
 refine AI x2 ?_
 refine goM ?_
 refine AM T80 fun H3 hM => ?_
 refine goM ?_
 exact An ⟨rfl, hM.pre⟩
theorem XZ (H : Heap) (c : Cfg) (rv : V) (r m : Int) (k : Nat) (hr : rv.cells = [rv] ∧ rv.isTup = false) (hc : Al c = true) (hh : BK r m = true) (hk : k ≤ 1000000) :
  Call Tryz.prog 77 [.agg (BJ c rv), .agg [.int .i64 r, .int .i64 m], .int .i64 k] H (.agg [.int .i64 (FL c r m k).1, .int .i64 (FL c r m k).2]) H := by
 obtain ⟨_, _, ⟨hs0, hs1⟩, _⟩ := AX hc
 have hsn : ((c.seed.toNat : Nat) : Int) = c.seed := Int.toNat_of_nonneg hs0
 have w1 := AG (n := k) (by omega)
 have w2 : IntKind.i64.wrap ((k : Int) + 2) = (k : Int) + 2 := wrap_i64 (by omega) (by omega)
 refine AQ fit mixed Tryz.func77 rfl rfl rfl (by kernel_rfl) rfl fun hM => ?_
 refine AO (AK ?_)
 refine Ax T26 fun b1 H1 hM => ?_
 refine Ax T80 fun b2 H2 hM => ?_
 refine Aj (cs := [.int .i64 0, .int .i64 0]) T80 rfl fun b3 H3 hM => ?_
 unfold FL
 obtain ⟨ct, hct⟩ : ∃ q, c.pert = q := ⟨_, rfl⟩
 cases ct with
 | true =>
  rw [if_pos hct]
  have hb4 : DQ c.seed.toNat (k + 1) 4 < 4 := Fo (s := c.seed.toNat) (k := k + 1) (b := 4) (by decide)
  have c1 : Call Tryz.prog 131 [.int .i64 c.seed, .int .i64 ((k : Int) + 1), .int .i64 4] H3 (.tup [.int .i64 (DQ c.seed.toNat (k + 1) 4 : Nat), .int .i64 0]) H3 := by
   have := LX H3 c.seed.toNat (k + 1) 4 (by omega) (by omega) (by decide) (by decide)
   rw [hsn] at this
   exact this
  have c2 := TN H3 r m (DQ c.seed.toNat (k + 1) 4) hh hb4
  generalize DQ c.seed.toNat (k + 1) 4 = x at *
  generalize IG r m x = z at *
  clear hsn
  refine goM ?_
  refine AA c1 ?_
  refine goM ?_
  refine AA c2 ?_
  refine goM ?_
  refine Aj (cs := [.int .i64 0, .int .i64 0]) T80 rfl fun b4 H4 hM => ?_
  refine AM T80 fun H5 hM => ?_
  refine goM ?_
  refine AM T80 fun H6 hM => ?_
  refine goM ?_
  exact AY ⟨rfl, hM.pre⟩
 | false =>
  rw [if_neg (by rw [hct]; decide)]
  have c1 : Call Tryz.prog 133 [.int .i64 c.seed, .int .i64 ((k : Int) + 2)] H3 (.tup [.agg [.int .i64 (DR c.seed.toNat (k + 2) : Nat), .int .i64 (GI c.seed.toNat (k + 2) : Nat)], .int .i64 0]) H3 := by
   have := LY H3 c.seed.toNat (k + 2) (by omega) (by omega)
   rw [hsn] at this
   exact this
  generalize DR c.seed.toNat (k + 2) = a at *
  generalize GI c.seed.toNat (k + 2) = b at *
  clear hsn
  refine goM ?_
  refine AA c1 ?_
  refine goM ?_
  refine Aj (cs := [.int .i64 0, .int .i64 0]) T80 rfl fun b4 H4 hM => ?_
  refine AM T80 fun H5 hM => ?_
  refine goM ?_
  refine AM T80 fun H6 hM => ?_
  refine goM ?_
  exact AY ⟨rfl, hM.pre⟩
theorem Kv (H : Heap) (s : St) (rv mv ev sv : V) (xs : List MR) (ha : Da H rv mv ev sv xs s) (hf : s.Fit) :
  ∃ w H', Call Tryz.prog 57 [.agg (stC s.c rv mv ev sv)] H w H' ∧ ∃ u mv' ev' sv' rvs xs', w = .agg (stC s.c u mv' ev' sv') ∧ Jr rvs s.c.rows ∧ xs'.map MR.val = s.ms ∧ Mem H H' (Cz u mv' ev' sv' rvs xs' s) := by
 obtain ⟨z1, z2, z3, z4⟩ := ha.Ga
 have l4 := hf.es
 have l5 := hf.st
 refine Ao fit mixed Tryz.func57 rfl rfl rfl (by kernel_rfl) fun hM => ?_
 refine AO (AK ?_)
 refine Ax T32 fun b1 H1 hM => ?_
 refine Aj (cs := Au) T32 rfl fun b2 H2 hM => ?_
 obtain ⟨n, hn⟩ : ∃ n, xs.length = n := ⟨_, rfl⟩
 have hlen := ha.ms.len T28 rfl
 rw [hn] at hlen
 have hkx := hf.kx ha
 have hnb : n * 80 ≤ 140737488351232 := by have := hf.ms; rw [← hn, ha.len]; exact this
 refine goM ?_
 obtain ⟨_, H3, c1, u, rvs, rfl, hlk, m1⟩ := Jw H2 s.c rv (ha.rows.mono hM.pre) hf.c
 refine AA c1 ?_
 have s7 : u.cells = [u] ∧ u.isTup = false := by obtain ⟨_, h, _⟩ := DL (m1.fact .here) hlk; exact h.cells
 replace hM := hM.BH m1
 clear c1 m1
 refine goM ?_
 refine Aj (cs := Au) T32 rfl fun b3 H4 hM => ?_
 refine AM T32 fun H5 hM => ?_
 refine goM ?_
 have hM0 : Mem H H5 [.ro (pack (Bn [])), .own 6 mrC .AN [], .box b3 (stC s.c u .AN .AN .AN), .ro (pack (Bl u rvs s.c.rows)), .box b2 Au, .box b1 (stC s.c rv mv ev sv)] := Mem.packed (L := []) (hM.nil 6 mrC)
 refine AT (fun cc ρ h => ∃ (k : Nat) (v : V) (ys : List MR), k ≤ n ∧ cc = n - k ∧ ys.map MR.val = (xs.take k).map MR.val ∧ Mem H h [.ro (pack (Bn ys)), .own 6 mrC v ys, .box b3 (stC s.c u v .AN .AN), .ro (pack (Bl u rvs s.c.rows)), .box b2 Au, .box b1 (stC s.c rv mv ev sv)] ∧ ρ 1 = .ptr b1 0 ∧ ρ 2 = .ptr b2 0 ∧ ρ 3 = .ptr b3 0 ∧ ρ 4 = .int .i64 (k : Int)) ⟨0, .AN, [], Nat.zero_le _, rfl, rfl, hM0, by simp [AD, AB, BT, *]⟩ ?_
 repeat clear hM
 clear hM0
 rintro _ ρ h ⟨k, v, ys, hk, rfl, hys, hM, g1, g2, g3, g4⟩
 have t1 := (hM.sl (v := v) (xs := ys) hsG).cells
 have hyl : ys.length = k := by have := congrArg List.length hys; simp only [List.length_map, List.length_take] at this; omega
 refine goM ?_
 refine AE (fun hb => ?_) (fun hb => ?_)
 ·have hk' : k < n := by simpa using hb
  clear hb
  obtain ⟨x, hx⟩ : ∃ x, xs[k]? = some x := ⟨xs[k]'(by omega), by simp⟩
  have hxm := List.mem_of_getElem? hx
  have hka := ha.ks x hxm
  have hkf := hkx x hxm
  obtain ⟨bo, o, hi, lo, _, _⟩ := EM (ha.ms.mono hM.pre) hx
  have hw := AG (n := k) (by omega)
  have s1 := hka.ws.cells
  have s2 := hka.vs.cells
  have htk : (xs.take (k + 1)).map MR.val = (xs.take k).map MR.val ++ [x.val] := by rw [List.take_add_one, hx]; simp
  obtain ⟨xw, xv, xk, xh⟩ := x
  simp only at lo s1 s2 hka hkf
  clear hx hxm
  refine goM ?_
  refine Aj (cs := Dr) T84 rfl fun b5 H4 hM => ?_
  refine AM T84 fun H5 hM => ?_
  refine goM ?_
  obtain ⟨_, H6, c1, a, b', rfl, m1⟩ := Ku H5 xw xv xk (hka.mono hM.pre) hkf
  refine AA c1 ?_
  have s3 := (m1.sl .here).cells
  have s4 := (m1.sl (.there .here)).cells
  replace hM := hM.call2 m1
  clear c1 m1
  refine goM ?_
  refine AM T82 fun H7 hM => ?_
  refine goM ?_
  refine Aa mrC [⟨a, b', xk, xh⟩] (mC a b' xk xh) T28 rfl T84 rfl (Hm [⟨a, b', xk, xh⟩]) (by decide) fun e1 H8 hM => ?_
  refine goM ?_
  refine Bg (hM.sl .here) (xs := ys) (hh := by (repeat (first | exact Has.here | apply Has.there))) (hb := by rw [hyl]; show (k + 1) * 80 ≤ _ ∧ k + 1 ≤ _; omega) fun v' H9 hM => ?_
  have s6 := (hM.sl (v := v') (xs := ys ++ [⟨a, b', xk, xh⟩]) hsG).cells
  refine goM ?_
  refine AM T28 fun H10 hM => ?_
  refine goM ?_
  have h1 := ((hM.front (r := .ro (pack (Bn ys))) tkG).front (r := .own 1 AH b' xk.vs) tkG).front (r := .own 1 AH a xk.ws) tkG
  have h2 := Mem.JN (x := ⟨a, b', xk, xh⟩) h1
  have h3 := ((h2.front (r := .box b3 (stC s.c u v' .AN .AN)) tkG).front (r := .own 6 mrC v' (ys ++ [⟨a, b', xk, xh⟩])) tkG).front (r := .ro (pack (Bn (ys ++ [⟨a, b', xk, xh⟩])))) tkG
  refine ⟨n - (k + 1), by omega, k + 1, v', ys ++ [⟨a, b', xk, xh⟩], hk', rfl, ?_, h3.sub sbG, by simp [AD, AB, *]⟩
  rw [htk, List.map_append, hys]; rfl
 ·have hk' : k = n := by have : ¬ k < n := by simpa using hb
                         omega
  subst hk'
  clear hb
  rw [List.take_of_length_le (by omega), ha.val] at hys
  refine goM ?_
  refine Aa (sz := 6) evC [] [] T29 rfl GY rfl Cells.nil (by decide) fun e1 H3 hM => ?_
  refine goM ?_
  refine Bg (ha.es.mono hM.pre) (xs := []) (hb := by simp only [List.length_nil]; show (0 + s.es.length) * 48 ≤ _ ∧ _; omega) fun ev' H4 hM => ?_
  have s5 := (hM.sl .here).cells
  refine goM ?_
  refine AM T29 fun H5 hM => ?_
  refine goM ?_
  refine Aa (sz := 3) BE [] [] T30 rfl T63 rfl Cells.nil (by decide) fun e2 H6 hM => ?_
  refine goM ?_
  refine Bg (ha.st.mono hM.pre) (xs := []) (hb := by simp only [List.length_nil]; show (0 + s.st.length) * 32 ≤ _ ∧ _; omega) fun sv' H7 hM => ?_
  have s6 := (hM.sl .here).cells
  refine goM ?_
  refine AM T30 fun H8 hM => ?_
  refine goM ?_
  refine AM T32 fun H9 hM => ?_
  refine goM ?_
  refine AY ⟨u, v, ev', sv', rvs, ys, rfl, hlk, hys, ?_⟩
  have h1 := (((hM.front (r := .own 3 BE sv' ([] ++ s.st)) tkG).front (r := .own 6 evC ev' ([] ++ s.es)) tkG).front (r := .own 6 mrC v ys) tkG).front (r := .ro (pack (Bn ys))) tkG
  exact (h1.front (r := .ro (pack (Bl u rvs s.c.rows))) tkG).sub (by unfold Cz; (repeat (first | exact List.Sublist.slnil | exact List.Sublist.refl _ | refine List.Sublist.cons_cons _ ?_ | refine List.Sublist.cons _ ?_)))
abbrev spR (u mv ev sv : V) (rvs : List (V × Int)) (ys : List MR) (c : Cfg) (es : List Ev) (st : List Ent) (L : List Res) : List Res :=
 .own 6 mrC mv ys :: .own 6 evC ev es :: .own 3 BE sv st :: .ro (pack (Bn ys)) :: .ro (pack (Bl u rvs c.rows)) :: L
theorem Ur {B H : Heap} {L : List Res} {u mv ev sv : V} {rvs : List (V × Int)} {ys : List MR} {c : Cfg} {es : List Ev} {st : List Ent} {p : Nat} {y : MR} (hM : Mem B H (spR u mv ev sv rvs ys c es st L)) (hq : Tq u mv ev sv) (hy : ys[p]? = some y) (hf : BW c y.k = true) (hl : st.length ≤ 100) :
  ∃ w H', Call Tryz.prog 79 [.agg (stC c u mv ev sv), .int .i64 p] H w H' ∧ ∃ sv', w = .agg (stC c u mv ev sv') ∧ Mem B H' (spR u mv ev sv' rvs (ys.set p (MB st y)) c es (DP (Iw st (BB y.k)).1 y.h).1 L) := by
 obtain ⟨q1, q2, q3, q4⟩ := hq
 have hml : p < ys.length := (List.getElem?_eq_some_iff.1 hy).1
 obtain ⟨cb, co, hi, _⟩ := EM (hM.sl (v := mv) (xs := ys) hsG) hy
 have hcm : CT y.k.ws y.k.vs y.k.r y.k.m y.k.t = true := by
  unfold BW BI at hf
  rw [Bool.and_eq_true] at hf
  exact hf.1
 have hka0 := fun (H1 : Heap) (hp : (pack (Bn ys)).p H1) => GH hp y (List.mem_of_getElem? hy)
 obtain ⟨yw, yv, yk, yh⟩ := y
 simp only at hcm hf hka0
 have s12 := hka0 H (hM.fact (F := pack (Bn ys)) hsG)
 have s1 := s12.ws.cells
 have s2 := s12.vs.cells
 clear s12
 have e1 : Bn (ys.set p (MB st ⟨yw, yv, yk, yh⟩)) = Bn ys := MJ hy rfl rfl rfl rfl
 unfold MB at e1 ⊢
 simp only at e1 ⊢
 refine CO fit mixed hM Tryz.func79 rfl rfl rfl (by kernel_rfl) fun _ => ?_
 refine AO (AK ?_)
 refine Ax T32 fun b1 H0 hM => ?_
 refine Aj (cs := Au) T32 rfl fun b2 H1 hM => ?_
 obtain ⟨l0, _, _, _⟩ := Fj (hM.sl (v := mv) (xs := ys) hsG) hi hy
 simp only at l0
 have hka := hka0 H1 (hM.fact (F := pack (Bn ys)) hsG)
 have c1 : Call Tryz.prog 85 [.agg (kC yw yv yk)] H1 (.tup [.str (BB yk), .int .i64 0]) H1 := JR H1 yw yv yk.ws yk.vs yk.r yk.m yk.t hka.ws hka.vs hcm
 obtain ⟨_, H2, c2, x1, rfl, m1⟩ := MS H1 sv st (BB yk) (hM.sl (v := sv) (xs := st) hsG) (by omega)
 have t1 := (m1.sl .here).cells
 have hpl := LU st (BB yk)
 clear hka0
 refine goM ?_
 refine AA c1 ?_
 refine goM ?_
 refine AA c2 ?_
 replace hM := hM.BH m1
 clear c1 c2 m1 l0 hka
 unfold Iw at e1 ⊢
 by_cases hq : (putS st (BB yk)).2.2 = 0
 ·have q0 : ((putS st (BB yk)).2.2 != 0) = false := by rw [hq]; rfl
  rw [if_pos hq] at e1 ⊢
  generalize putS st (BB yk) = o at *
  obtain ⟨st', id', er'⟩ := o
  simp only at q0 hM hpl e1 ⊢
  obtain ⟨_, _, _, l5⟩ := Fj (hM.sl (v := mv) (xs := ys) hsG) hi hy
  simp only at l5
  obtain ⟨_, H3, c3, x2, rfl, m2⟩ := OY H2 x1 st' yh (hM.sl (v := x1) (xs := st') hsG) (by omega)
  have t2 := (m2.sl .here).cells
  refine goM ?_
  refine AA c3 ?_
  replace hM := hM.BH m2
  clear c3 m2 l5
  refine goM ?_
  refine AM T30 fun H4 hM => ?_
  obtain ⟨H5, st4, hM4⟩ := Fy hM (u := mv) (ys := ys) hsG hy hi 5 T3 (by decide) (w := .int .i64 id') (y' := ⟨yw, yv, yk, id'⟩) rfl rfl rfl
  rw [← e1] at hM4
  refine goM ?_
  refine Dc st4 ?_
  clear hM
  have hM := hM4
  clear hM4
  refine goM ?_
  refine AM T32 fun H6 hM => ?_
  refine goM ?_
  refine AY ⟨x2, rfl, ?_⟩
  have h1 := (hM.front (r := .own 3 BE x2 (DP st' yh).1) tkG).front (r := .own 6 evC ev es) tkG
  exact (h1.front (r := .own 6 mrC mv (ys.set p ⟨yw, yv, yk, id'⟩)) tkG).sub sbG
 ·have q0 : ((putS st (BB yk)).2.2 != 0) = true := by simpa using hq
  rw [if_neg hq] at e1 ⊢
  generalize putS st (BB yk) = o at *
  obtain ⟨st', id', er'⟩ := o
  simp only at q0 hM hpl
  obtain ⟨_, H3, c3, x2, rfl, m2⟩ := Mx H2 sv st (hM.sl (v := sv) (xs := st) hsG) (by omega)
  have hsl := Oz st
  generalize EE st = o at *
  obtain ⟨st2, er2⟩ := o
  simp only at hsl m2 e1 ⊢
  have t2 := (m2.sl .here).cells
  refine goM ?_
  refine AA c3 ?_
  replace hM := hM.BH m2
  clear c3 m2
  refine goM ?_
  obtain ⟨_, H4, c4, x3, rfl, m3⟩ := MS H3 x2 st2 (BB yk) (hM.sl (v := x2) (xs := st2) hsG) (by omega)
  have t3 := (m3.sl .here).cells
  have hpl2 := LU st2 (BB yk)
  refine AA c4 ?_
  replace hM := hM.BH m3
  clear c4 m3
  generalize putS st2 (BB yk) = o at *
  obtain ⟨st3, id3, er3⟩ := o
  simp only at hM hpl2 e1 ⊢
  obtain ⟨_, _, _, l5⟩ := Fj (hM.sl (v := mv) (xs := ys) hsG) hi hy
  simp only at l5
  obtain ⟨_, H5, c5, x4, rfl, m4⟩ := OY H4 x3 st3 yh (hM.sl (v := x3) (xs := st3) hsG) (by omega)
  have t4 := (m4.sl .here).cells
  refine goM ?_
  refine AA c5 ?_
  replace hM := hM.BH m4
  clear c5 m4 l5
  refine goM ?_
  refine AM T30 fun H6 hM => ?_
  obtain ⟨H7, st7, hM7⟩ := Fy hM (u := mv) (ys := ys) hsG hy hi 5 T3 (by decide) (w := .int .i64 id3) (y' := ⟨yw, yv, yk, id3⟩) rfl rfl rfl
  rw [← e1] at hM7
  refine goM ?_
  refine Dc st7 ?_
  clear hM
  have hM := hM7
  clear hM7
  refine goM ?_
  refine AM T32 fun H8 hM => ?_
  refine goM ?_
  refine AY ⟨x4, rfl, ?_⟩
  have h1 := (hM.front (r := .own 3 BE x4 (DP st3 yh).1) tkG).front (r := .own 6 evC ev es) tkG
  exact (h1.front (r := .own 6 mrC mv (ys.set p ⟨yw, yv, yk, id3⟩)) tkG).sub sbG
theorem Rj (H : Heap) (x a b : Int) : Call Tryz.prog 87 [.int .i64 x, .int .i64 a, .int .i64 b] H (.bool (within x a b)) H := by
 refine AQ fit mixed Tryz.func87 rfl rfl rfl (by kernel_rfl) rfl fun hM => ?_
 unfold within
 obtain ⟨q, hq⟩ : ∃ q, decide (x ≥ a) = q := ⟨_, rfl⟩
 rw [hq]
 cases q
 ·refine goM ?_
  exact AY ⟨rfl, hM.pre⟩
 ·refine goM ?_
  refine AY ⟨?_, hM.pre⟩
  simp
theorem ZY (H : Heap) (sv : V) (ss : List Int) (hs : Sl 1 AH H sv ss) (hl : ss.length ≤ 2 ^ 47) : ∃ w H', Call Tryz.prog 129 [sv] H w H' ∧ ∃ u, w = .tup [u, .int .i64 (QE ss)] ∧ Mem H H' [.own 1 Fk u (FE ss)] := by
 have s0 := hs.cells
 have hlen := hs.len T27 rfl
 have c1 := DC H sv ss hs hl
 refine Ao fit mixed Tryz.func129 rfl rfl rfl (by kernel_rfl) fun hM => ?_
 unfold QE FE Fa
 obtain ⟨n, hn⟩ : ∃ n, ss.length = n := ⟨_, rfl⟩
 have c0 := Rj H (n : Int) 1 8
 have hw8 : within (n : Int) 1 8 = (decide (1 ≤ n) && decide (n ≤ 8)) := by apply Bool.eq_iff_iff.2; simp [within]; omega
 rw [hw8] at c0
 rw [hn] at hlen hl ⊢
 obtain ⟨q1, hq1⟩ : ∃ q, (decide (1 ≤ n) && decide (n ≤ 8)) = q := ⟨_, rfl⟩
 rw [hq1] at c0 ⊢
 obtain ⟨q2, hq2⟩ : ∃ q, BF ss = q := ⟨_, rfl⟩
 rw [hq2] at c1 ⊢
 clear hw8
 refine goM ?_
 refine AA c0 ?_
 cases q1 with
 | false =>
  refine goM ?_
  exact An ⟨.AN, rfl, hM.nil 1 Fk⟩
 | true =>
  refine goM ?_
  refine AA c1 ?_
  cases q2 with
  | false =>
   refine goM ?_
   exact An ⟨.AN, rfl, hM.nil 1 Fk⟩
  | true =>
   have h18 : 1 ≤ n ∧ n ≤ 8 := by simpa using hq1
   simp only [Bool.true_and, if_true]
   clear c0 c1 hq1 hq2
   refine goM ?_
   refine AT (fun m ρ hp => ∃ (i : Nat) (u : V), i ≤ n ∧ m = n - i ∧ Mem H hp [.own 1 Fk u (Cf (Ak ss) i)] ∧ ρ 0 = sv ∧ ρ 4 = u ∧ ρ 5 = .int .i64 (i : Nat)) ⟨0, .AN, Nat.zero_le _, rfl, hM.nil 1 Fk, rfl, rfl, rfl⟩ ?_
   clear hM
   rintro _ ρ hp ⟨i, u, hi, rfl, hM, h0, h4, h5⟩
   have hul := (hM.sl .here).len T27 rfl
   rw [GS] at hul
   refine goM ?_
   refine AE (fun hb => ?_) (fun hb => ?_)
   ·have hi' : i < n := by simpa using hb
    clear hb
    have hrl := GS (Ak ss) i
    have hrm := IH (Ak ss) i
    have hwi := AG (n := i) (by omega)
    have hnext : Cf (Ak ss) (i + 1) = PR (Ak ss) i (Cf (Ak ss) i) := rfl
    rw [PR, hrl] at hnext
    refine goM ?_
    refine Aa Fk [i] [.int .i64 (i : Int)] T27 rfl T3 rfl (Cells.one (sz := 1) rfl rfl) (by decide) fun e1 H1 hM => ?_
    refine goM ?_
    refine Bg (hM.sl .here) (xs := Cf (Ak ss) i) (hb := by rw [hrl]; simp only [List.length_cons, List.length_nil]; omega) fun u2 H2 hM => ?_
    replace hM : Mem H H2 [.own 1 Fk u2 (Cf (Ak ss) i ++ [i])] := hM.Ea
    rw [← mid_end, hrl] at hM
    generalize Cf (Ak ss) i = row at *
    have s2 := (hM.sl .here).cells
    clear hul
    refine goM ?_
    refine AT (fun m ρ hp => ∃ k y : Nat, k ≤ i ∧ m = k ∧ insPos (Ak ss) i row i = insPos (Ak ss) i row k ∧ Mem H hp [.own 1 Fk u2 (mid row k y [])] ∧ ρ 0 = sv ∧ ρ 4 = u2 ∧ ρ 5 = .int .i64 (i : Nat) ∧ ρ 6 = .int .i64 (k : Nat)) ⟨i, i, Nat.le_refl _, rfl, rfl, hM, by simp [AD, AB, *], by simp [AD, AB, *], by simp [AD, AB, *], by simp [AD, AB, *]⟩ ?_
    clear hM h0 h4 h5
    clear ρ
    rintro k ρ hp ⟨_, y, hk, rfl, hpos, hM, h0, h4, h5, h6⟩
    -- what comes behind the inner loop
    have leave : (k = 0 ∨ ¬ Ak ss (row.getD (k - 1) 0) > Ak ss i) → ∃ b o H3, idxV T 27 u2 (k : Int) = some (.ptr b o) ∧ storeV T 3 hp b o (.int .i64 (i : Int)) = some H3 ∧ Mem H H3 [.own 1 Fk u2 (Cf (Ak ss) (i + 1))] := fun h => by
     have e : insPos (Ak ss) i row i = k := by rw [hpos, Mo h]
     obtain ⟨b3, hi3, put1⟩ := hM.elem .here T27 rfl T3 rfl (k := k) (by rw [NP _ _ (by omega)]; omega)
     obtain ⟨H3, st1, hM1⟩ := put1 (.int .i64 (i : Int)) i rfl rfl rfl
     rw [bF _ _ _ (by omega), ← e, ← hnext] at hM1
     exact ⟨b3, _, H3, hi3, st1, hM1⟩
    cases k with
    | zero =>
     obtain ⟨b3, o3, H3, hi3, st1, hM2⟩ := leave (.inl rfl)
     clear leave hM
     have hd : decide (((0 : Nat) : Int) > 0) = false := rfl
     refine goM ?_
     refine Dc st1 ?_
     refine goM ?_
     exact ⟨n - (i + 1), by omega, i + 1, u2, hi', rfl, hM2, by simp [AD, AB, *]⟩
    | succ k =>
     have hd : decide (((k + 1 : Nat) : Int) > 0) = true := decide_eq_true (by omega)
     have hw1 : IntKind.i64.wrap (((k + 1 : Nat) : Int) - 1) = (k : Int) := by rw [wrap_i64 (by omega) (by omega)]; omega
     have hki : k < row.length := by omega
     obtain ⟨x, hx⟩ : ∃ x, row.getD k 0 = x := ⟨_, rfl⟩
     have hxn : x < n := by
      have : x ∈ row := by rw [← hx, List.getD_eq_getElem?_getD, List.getElem?_eq_getElem hki]; exact List.getElem_mem _
      have := (hrm x).1 this; omega
     have g2 := Vq y [] (Nat.lt_succ_self k) (by omega : k + 1 ≤ row.length)
     rw [hx] at g2
     obtain ⟨b2, o2, _, hi2', rfl, _, hlo2, _⟩ := (hM.sl .here).get T27 rfl T3 rfl g2
     have ho2 := AF T3 rfl hlo2
     obtain ⟨b4, o4, _, hi4', rfl, _, hlo4, _⟩ := (hs.mono hM.pre).get T27 rfl T3 rfl (SP (xs := ss) (k := x) (by omega))
     have ho4 := AF T3 rfl hlo4
     obtain ⟨b5, o5, _, hi5', rfl, _, hlo5, _⟩ := (hs.mono hM.pre).get T27 rfl T3 rfl (SP (xs := ss) (k := i) (by omega))
     have ho5 := AF T3 rfl hlo5
     obtain ⟨b3, hi3, put1⟩ := hM.elem .here T27 rfl T3 rfl (k := k + 1) (by rw [NP _ _ (by omega)]; omega)
     obtain ⟨H1, st1, hM1⟩ := put1 (.int .i64 (x : Int)) x rfl rfl rfl
     rw [← hx, Yw _ _ hki, hx] at hM1
     have hpos2 : decide (ss.getD x 0 > ss.getD i 0) = true → insPos (Ak ss) i row (k + 1) = insPos (Ak ss) i row k := fun h => Mp (by rw [hx]; simpa [Ak] using h)
     have hleave2 : decide (ss.getD x 0 > ss.getD i 0) = false → _ := fun h => leave (.inr (by rw [Nat.add_sub_cancel, hx]; simpa [Ak] using h))
     obtain ⟨t, ht⟩ : ∃ t, decide (ss.getD x 0 > ss.getD i 0) = t := ⟨_, rfl⟩
     rw [ht] at hleave2 hpos2
     clear leave put1 hlo2 hlo4 hlo5 g2 hnext
     cases t with
     | false =>
      obtain ⟨b6, o6, H3, hi6, st6, hM2⟩ := hleave2 rfl
      rw [hi3] at hi6
      cases hi6
      clear hleave2 hpos2 hM hM1
      refine goM ?_
      refine Dc st6 ?_
      refine goM ?_
      exact ⟨n - (i + 1), by omega, i + 1, u2, hi', rfl, hM2, by simp [AD, AB, *]⟩
     | true =>
      have hpos3 := hpos2 rfl
      clear hleave2 hpos2 hM
      refine goM ?_
      refine Dc st1 ?_
      refine goM ?_
      exact ⟨k, by omega, k, x, by omega, rfl, by rw [hpos, hpos3], hM1, by simp [AD, AB, *]⟩
   ·have hi' : i = n := by have : ¬ i < n := by simpa using hb
                           omega
    subst hi'
    clear hb
    refine goM ?_
    exact An ⟨u, rfl, hM⟩
end Go.Proofs.YtncjbjlmgnjhiaaGreat.VM
