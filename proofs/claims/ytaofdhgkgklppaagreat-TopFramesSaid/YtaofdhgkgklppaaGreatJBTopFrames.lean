/- Joined texts: VmF, Tab, GetP, StoreG, JourP, RunJ, FrP, FrA, JourQ, FrB, FrC, TopH. -/
import Derived.Test.YtaofdhgkgklppaaGreatJB1
import Derived.Test.YtaofdhgkgklppaaGreatJB2
import Derived.Test.YtaofdhgkgklppaaGreatJB3
import Derived.Test.YtaofdhgkgklppaaGreatJB4
import Derived.Test.YtaofdhgkgklppaaGreatJB5
import Derived.Test.YtaofdhgkgklppaaGreatJB6
import Derived.Test.YtaofdhgkgklppaaGreatJB7
import Derived.Test.YtaofdhgkgklppaaGreatJB8
import Derived.Test.YtaofdhgkgklppaaGreatJB9
import Derived.Test.YtaofdhgkgklppaaGreatJB10
import Derived.Test.YtaofdhgkgklppaaGreatJB11
import Derived.Test.YtaofdhgkgklppaaGreatJB12
import Derived.Test.YtaofdhgkgklppaaGreatJB13
import Derived.Test.YtaofdhgkgklppaaGreatJBTopAll
import Derived.Lib.ConvBytes
import Derived.Test.YtaofdhgkgklppaaGreatRows
import Derived.KernelRfl
namespace Go.Proofs.YtaofdhgkgklppaaGreat.VM
open Go
set_option linter.unusedVariables false
set_option linter.unusedSimpArgs false
variable {P : Program} {T : Tab} {μ : Mu}
theorem bytesOf_length (s : ByteArray) : (V.bytesOf s).length = s.size := by simp [V.bytesOf]
end Go.Proofs.YtaofdhgkgklppaaGreat.VM
namespace Go.Proofs.YtaofdhgkgklppaaGreat.VM
open Go
set_option maxRecDepth 100000 in
theorem T96 : T 96 = some { k := .slice 9, size := 1, bytes := 24, zero := [.nils] } := rfl
end Go.Proofs.YtaofdhgkgklppaaGreat.VM
namespace Go.Proofs.YtaofdhgkgklppaaGreat.VM
open Go
set_option linter.unusedVariables false
set_option linter.unusedSimpArgs false
attribute [local irreducible] wq wqL wqD wqE wqO Th Bk EndR
set_option maxHeartbeats 8000000
theorem wrap_u32 (n : Int) : IntKind.u32.wrap n = n % 4294967296 := by
 unfold IntKind.wrap
 simp only [IntKind.bits, IntKind.signed, Bool.false_and, Bool.false_eq_true, if_false, Int.reducePow]
theorem strOf_extract (bs : List Int) (l h : Nat) : (strOf bs).extract l h = strOf ((bs.drop l).take (h - l)) := by
 apply ByteArray.ext
 rw [ByteArray.data_extract]
 simp only [strOf]
 apply Array.ext'
 simp [List.map_take, List.map_drop, List.extract_eq_take_drop]
theorem s_strIdx {ρ : Rho} {H : Heap} {x y : Operand} {bs : List Int} {k : IntKind} {n : Int} (i : Nat) {b : Int} (hx : ρ.ev x = some (.str (strOf bs))) (hy : ρ.ev y = some (.int k n)) (hn : n = i) (ho : okB bs) (h : bs[i]? = some b) : Does T ρ H (.index 9 x y) (.int .u8 b) H := by
 subst hn
 refine does_pure rfl ?_
 simp only [pureOp, T9, hx, hy]
 rw [if_pos (by omega), Int.toNat_natCast]
 exact strOf_get ho h
theorem s_strCut {ρ : Rho} {H : Heap} {x : Operand} {lo hi : Option Operand} {bs : List Int} {vl vh : Option V} (l h : Nat) (hx : ρ.ev x = some (.str (strOf bs))) (h1 : optEv ρ.ev lo = some vl) (h2 : optEv ρ.ev hi = some vh) (hl : boundV vl 0 h = some l) (hh : boundV vh bs.length bs.length = some h) : Does T ρ H (.slice 9 x lo hi none) (.str (strOf ((bs.drop l).take (h - l)))) H := by
 refine does_pure rfl ?_
 have h3 : optEv ρ.ev none = some none := rfl
 simp only [pureOp, T9, hx, h1, h2, h3, sliceS, strOf_size, hh, hl, strOf_extract]
theorem bound_at {k : IntKind} {n : Int} {m d : Nat} (i : Nat) (h : n = i) (hi : i ≤ m) : boundV (some (.int k n)) d m = some i := by
 subst h
 simp only [boundV]
 rw [if_pos ⟨by omega, by omega⟩, Int.toNat_natCast]
theorem str_len (bs : List Int) : builtinP T .len [9] [.str (strOf bs)] = some (.int .i64 (bs.length : Int)) := by
 simp only [builtinP, T9, strOf_size]
theorem rd_str {K : Heap} {D : Type} {v : V} {d : DataW D} (h : RdV T K 9 v d) : ∃ s, v = .str s ∧ s.size ≤ reachBytes := by
 obtain ⟨s, h1, h2⟩ := (h.plain T9 rfl).isStr T9 rfl
 simp at h1
 exact ⟨s, h1, h2⟩
theorem frameL_len (s : List Int) : (frameL s).length = 6 + s.length := by
 unfold frameL frameH
 simp only [List.length_append, lowL_len]; omega
theorem getF_put (pre s post : List Int) (hs : s.length ≤ 1024) : getF (pre ++ (frameL s ++ post)) pre.length = some (s, pre.length + 6 + s.length) := by
 have hl := frameL_len s
 have ht := told (pre := pre) (s := s) (x := post) (j := (frameL s).length) (by omega) (by omega)
 rw [List.take_length] at ht
 have hd : ((pre ++ (frameL s ++ post)).drop (pre.length + 2)).take s.length = s := by
  rw [← List.drop_drop, List.drop_left]
  have h2 : (lowL (s.length : Int) 2).length = 2 := lowL_len ..
  have : (frameL s ++ post).drop 2 = s ++ (lowL (sumN (frameH s)) 4 ++ post) := by
   unfold frameL frameH
   rw [List.append_assoc, List.append_assoc, List.drop_append_of_le_length (by omega), List.drop_of_length_le (by omega), List.nil_append]
  rw [this, List.take_left]
 have hf : ((pre ++ (frameL s ++ post)).drop pre.length).take (6 + s.length) = frameL s := by
  rw [List.drop_left, ← hl, List.take_left]
 unfold getF
 rw [ht, Int.toNat_natCast, hd, hf, if_pos (by simp only [List.length_append]; omega), if_pos ⟨hs, by simp only [List.length_append]; omega⟩, if_pos rfl]
def loadF (t : List Int) : List (List Int) := (loadN (t.take 65536) 65537 0).1
theorem bv_32 {x : Nat} (hx : x < 4294967296) : (BitVec.ofInt IntKind.u32.bits (x : Int)).toNat = x := by
 show (BitVec.ofInt 32 (x : Int)).toNat = x
 rw [BitVec.toNat_ofInt]
 omega
theorem wrap_32 {x : Nat} (hx : x < 4294967296) : IntKind.u32.wrap (x : Int) = (x : Int) := by rw [wrap_u32]; omega
theorem xor_32 {x y : Nat} (hx : x < 4294967296) (hy : y < 4294967296) : (x ^^^ y) < 4294967296 := Nat.xor_lt_two_pow (n := 32) hx hy
theorem f_xor32 {x y : Nat} (hx : x < 4294967296) (hy : y < 4294967296) : IntKind.u32.wrap ((BitVec.ofInt IntKind.u32.bits (x : Int) ^^^ BitVec.ofInt IntKind.u32.bits (y : Int)).toNat : Int) = ((x ^^^ y : Nat) : Int) := by
 rw [BitVec.toNat_xor, bv_32 hx, bv_32 hy]
 exact wrap_32 (xor_32 hx hy)
theorem f_and32 {x y : Nat} (hx : x < 4294967296) (hy : y < 4294967296) : IntKind.u32.wrap ((BitVec.ofInt IntKind.u32.bits (x : Int) &&& BitVec.ofInt IntKind.u32.bits (y : Int)).toNat : Int) = ((x &&& y : Nat) : Int) := by
 rw [BitVec.toNat_and, bv_32 hx, bv_32 hy]
 exact wrap_32 (Nat.lt_of_le_of_lt Nat.and_le_left hx)
theorem f_half (x : Nat) : ((x : Nat) : Int).fdiv (2 ^ min (Int.toNat 1) IntKind.u32.bits) = ((x / 2 : Nat) : Int) := by
 have : (2 : Int) ^ min (Int.toNat 1) IntKind.u32.bits = 2 := by decide
 rw [this, Int.fdiv_eq_ediv_of_nonneg _ (by decide)]
 omega
theorem crcBit_lt {x : Nat} (hx : x < 4294967296) : crcBit x < 4294967296 := by
 unfold crcBit
 split
 ·exact xor_32 (by omega) (by decide)
 ·omega
theorem crc_p {x : Nat} (hx : x < 4294967296) : ∃ a b c d : Nat, ((x : Nat) : Int).fdiv (2 ^ min (Int.toNat 1) IntKind.u32.bits) = (a : Int) ∧
  IntKind.u32.wrap ((BitVec.ofInt IntKind.u32.bits (x : Int) &&& BitVec.ofInt IntKind.u32.bits 1).toNat : Int) = (b : Int) ∧ IntKind.u32.wrap (0 - (b : Int)) = (c : Int) ∧
  IntKind.u32.wrap ((BitVec.ofInt IntKind.u32.bits 3988292384 &&& BitVec.ofInt IntKind.u32.bits (c : Int)).toNat : Int) = (d : Int) ∧
  IntKind.u32.wrap ((BitVec.ofInt IntKind.u32.bits (a : Int) ^^^ BitVec.ofInt IntKind.u32.bits (d : Int)).toNat : Int) = ((crcBit x : Nat) : Int) := by
 have h1 := f_and32 (x := x) (y := 1) hx (by decide)
 rw [Nat.and_one_is_mod] at h1
 by_cases hb : x % 2 = 1
 ·refine ⟨x / 2, 1, 4294967295, 3988292384, f_half x, by rw [← hb]; exact h1, by decide, by decide, ?_⟩
  unfold crcBit
  rw [if_pos hb]
  exact f_xor32 (by omega) (by decide)
 ·have h0 : x % 2 = 0 := by omega
  refine ⟨x / 2, 0, 0, 0, f_half x, by rw [← h0]; exact h1, by decide, by decide, ?_⟩
  unfold crcBit
  rw [if_neg hb]
  have := f_xor32 (x := x / 2) (y := 0) (by omega) (by decide)
  rw [Nat.xor_zero] at this
  exact this
theorem crcBits_lt : ∀ (k : Nat) {x : Nat}, x < 4294967296 → crcBits k x < 4294967296
 | 0, _, h => h
 | k + 1, _, h => crcBits_lt k (crcBit_lt h)
theorem crcByte_lt {x : Nat} {b : Int} (hx : x < 4294967296) (hb : 0 ≤ b ∧ b < 256) : crcByte x b < 4294967296 := crcBits_lt 8 (xor_32 hx (by omega))
theorem crc_in {x : Nat} {b : Int} (hx : x < 4294967296) (hb : 0 ≤ b ∧ b < 256) : IntKind.u32.wrap b = b ∧ IntKind.u32.wrap ((BitVec.ofInt IntKind.u32.bits (x : Int) ^^^ BitVec.ofInt IntKind.u32.bits b).toNat : Int) = ((x ^^^ b.toNat : Nat) : Int) ∧ (x ^^^ b.toNat) < 4294967296 := by
 obtain ⟨n, rfl⟩ : ∃ n : Nat, b = (n : Int) := ⟨b.toNat, by omega⟩
 exact ⟨wrap_32 (by omega), f_xor32 hx (by omega), xor_32 hx (by omega)⟩
theorem crcBits_succ : ∀ (k x : Nat), crcBits (k + 1) x = crcBit (crcBits k x)
 | 0, _ => rfl
 | k + 1, x => by
  show crcBits (k + 1) (crcBit x) = _
  rw [crcBits_succ k (crcBit x)]
  rfl
def crcTo (bs : List Int) (k : Nat) : Nat := (bs.take k).foldl crcByte 4294967295
theorem crcTo_zero (bs : List Int) : crcTo bs 0 = 4294967295 := by simp [crcTo]
theorem crcTo_succ {bs : List Int} {k : Nat} {b : Int} (h : bs[k]? = some b) : crcTo bs (k + 1) = crcByte (crcTo bs k) b := by
 unfold crcTo
 rw [List.take_add_one, h]
 simp
theorem crcTo_lt {bs : List Int} (h : okB bs) : ∀ k, crcTo bs k < 4294967296
 | 0 => by rw [crcTo_zero]; decide
 | k + 1 => by
  cases hk : bs[k]? with
  | none =>
   have hl := List.getElem?_eq_none_iff.1 hk
   have : crcTo bs (k + 1) = crcTo bs k := by unfold crcTo; rw [List.take_of_length_le (by omega), List.take_of_length_le hl]
   rw [this]; exact crcTo_lt h k
  | some b => rw [crcTo_succ hk]; exact crcByte_lt (crcTo_lt h k) (h b (List.mem_of_getElem? hk))
theorem crcTo_all (bs : List Int) {k : Nat} (hk : bs.length ≤ k) : 4294967295 ^^^ crcTo bs k = sumN bs := by unfold crcTo sumN; rw [List.take_of_length_le hk]
theorem not_32 {x : Nat} (hx : x < 4294967296) : IntKind.u32.wrap ((BitVec.ofInt IntKind.u32.bits (if IntKind.u32.signed then -1 else IntKind.u32.max) ^^^ BitVec.ofInt IntKind.u32.bits (x : Int)).toNat : Int) = ((4294967295 ^^^ x : Nat) : Int) := f_xor32 (x := 4294967295) (by decide) hx
theorem sumN_lt {bs : List Int} (h : okB bs) : sumN bs < 4294967296 := by rw [← crcTo_all bs (Nat.le_refl _)]; exact xor_32 (by decide) (crcTo_lt h _)
theorem s_toBytes {ρ : Rho} {H H' : Heap} {x : Operand} {v : V} {bs : List Int} (hx : ρ.ev x = some (.str (strOf bs))) (hv : V.slc H.length 0 bs.length bs.length false 1 = v) (hH : H ++ [.row (V.bytesOf (strOf bs)) false] = H') : Does T ρ H (.convert 9 77 x) v H' := by
 subst hv; subst hH
 refine does_mem rfl ?_ ?_
 ·simp only [pureOp, T77, T9, hx]
 ·simp only [memOp, T77, T9, T5, hx, strOf_size]
theorem sl_bytes (H : Heap) {bs : List Int} (ho : okB bs) : Sl 1 byteC (H ++ [.row (V.bytesOf (strOf bs)) false]) (.slc H.length 0 bs.length bs.length false 1) bs := by
 refine .inr ⟨H.length, 0, bs.length, false, V.bytesOf (strOf bs), false, rfl, Nat.le_refl _, by simp, by rw [bytesOf_length, strOf_size]; omega, fun k x hk => ?_⟩
 have hx := ho x (List.mem_of_getElem? hk)
 have hkl := (List.getElem?_eq_some_iff.1 hk).1
 have hg : (V.bytesOf (strOf bs))[k]? = some (.int .u8 x) := by
  simp only [V.bytesOf, strOf, List.getElem?_map, hk, Option.map_some, Option.some.injEq, V.int.injEq, true_and]
  have : (UInt8.ofNat x.toNat).toNat = x.toNat := by
   rw [UInt8.toNat_ofNat']
   omega
  rw [this]; omega
 show ((V.bytesOf (strOf bs)).drop (0 + k * 1)).take 1 = [V.int .u8 x]
 rw [Nat.zero_add, Nat.mul_one]
 have hkl2 : k < (V.bytesOf (strOf bs)).length := by rw [bytesOf_length, strOf_size]; exact hkl
 rw [List.drop_eq_getElem_cons hkl2]
 rw [List.getElem?_eq_getElem hkl2] at hg
 rw [Option.some.inj hg]
 rfl
theorem lowF_ (H : Heap) (x : Int) (k : Nat) (hk : k ≤ 8) : Call Tryz.prog 195 [.int .i64 x, .int .i64 k] H (.str (strOf (lowL x k))) H := by
 refine call_plain fit mixed Tryz.func195 rfl rfl rfl (by kernel_rfl) rfl ?_
 obtain ⟨H1, hH1⟩ : ∃ H1, H ++ [.row (zeros [.int .u8 0] k) true] = H1 := ⟨_, rfl⟩
 have p1 : H <+: H1 := by rw [← hH1]; exact List.prefix_append _ _
 obtain ⟨v, hv⟩ : ∃ v, V.slc H.length 0 k k true 1 = v := ⟨_, rfl⟩
 have hm : Mine 1 byteC H H1 v (List.replicate k 0) := by
  have h := mine_make (R := byteC) (t := true) (List.prefix_refl H) (cells_zeros (sz := 1) (z := [V.int .u8 0]) (x := (0 : Int)) rfl rfl k)
  rw [List.length_replicate, hH1, hv] at h
  exact h
 have hlen := hm.sl.len T77 rfl
 rw [List.length_replicate] at hlen
 refine goW ?_
 refine l_makeG T77 rfl T5 ?_
 refine l_heap (h' := H1) hH1 ?_
 rw [Int.toNat_natCast, hv]
 refine goW ?_
 refine wq_loop (fun c ρ hp => ∃ j ys, j ≤ k ∧ c = k - j ∧ ys.length = k ∧ (∀ i, i < j → ys[i]? = some (lowK x i)) ∧ Mine 1 byteC H hp v ys ∧ ρ 0 = .int .i64 x ∧ ρ 5 = v ∧ ρ 10 = .int .i64 (k : Nat) ∧ ρ 11 = .int .i64 (j : Nat)) ⟨0, _, Nat.zero_le _, rfl, by simp, by intro i hi; omega, hm, rfl, rfl, rfl, rfl⟩ ?_
 clear hm hv hH1 p1
 rintro _ ρ hp ⟨j, ys, hj, rfl, hyl, hys, hm, h0, h5, h10, h11⟩
 refine goW ?_
 refine cond_go (fun hb => ?_) (fun hb => ?_)
 ·have hj' : j < k := by simpa using hb
  clear hb
  obtain ⟨b, o, hi, hst0⟩ := hm.store T77 rfl T5 rfl (k := j) (by omega)
  obtain ⟨H', hst, hm2⟩ := hst0 (.int .u8 (lowK x j)) (lowK x j) rfl rfl rfl
  have w8 : IntKind.i64.wrap (8 * (j : Int)) = ((8 * j : Nat) : Int) := by rw [show 8 * (j : Int) = ((8 * j : Nat) : Int) by omega]; exact wrap_nat (by omega)
  have hw := wrap_succ (n := j) (by omega)
  have hall : ∀ i, i < j + 1 → (ys.set j (lowK x j))[i]? = some (lowK x i) := fun i hi2 => by
   by_cases hij : i = j
   ·subst hij; rw [List.getElem?_set_self (by omega)]
   ·rw [List.getElem?_set_ne (by omega)]; exact hys i (by omega)
  clear hm hys hst0
  have hsh : vbin T .shr 3 (.int .i64 x) (.int .i64 ((8 * j : Nat) : Int)) = some (.int .i64 (x.fdiv (2 ^ min (8 * j) IntKind.i64.bits))) := by
   simp only [vbin, shiftBin]
   rw [if_neg (by omega), Int.toNat_natCast]
  have hlk : IntKind.u8.wrap (x.fdiv (2 ^ min (8 * j) IntKind.i64.bits)) = lowK x j := rfl
  repeat (first | refine wq_seq ?_ | refine wq_line ?_ | refine wq_draw (by decide +kernel) ?_ | refine wq_block ?_ | refine l_nil ?_ | refine d_nil ?_ | refine wq_skip ?_ | refine wq_ret ?_ | refine wq_exit ?_ | refine th_normal ?_ | refine th_ret ?_ | refine th_exit ?_ | refine bk_normal ?_ | refine bk_ret ?_ | refine bk_exit ?_ | refine bk_other rfl ?_ | refine l_step (s_bin eLk eLk hsh) ?_ | refine l_go ?_)
  refine ⟨k - (j + 1), by omega, j + 1, _, hj', rfl, by simpa using hyl, hall, hm2, ?_⟩
  simp [put_app, put_none, *]
 ·have hj' : j = k := by have : ¬ j < k := by simpa using hb
                         omega
  subst hj'
  clear hb
  have hyy : ys = lowL x j := by
   apply List.ext_getElem?
   intro i
   by_cases hi : i < j
   ·rw [hys i hi]; simp [lowL, hi]
   ·rw [List.getElem?_eq_none (by omega), List.getElem?_eq_none (by simp [lowL]; omega)]
  subst hyy
  have hsl := hm.sl
  have hpr := hm.1
  clear hm hys
  refine goW ?_
  refine l_step (s_toStr eLk hsl) ?_
  refine goW ?_
  refine end_ret (by simp only [resRf, resRs, resR]; first | done | rfl) ⟨?_, hpr⟩
  simp [put_app, put_none]
theorem sumF_ (H : Heap) (bs : List Int) (ho : okB bs) (hl : bs.length ≤ 2 ^ 40) : Call Tryz.prog 196 [.str (strOf bs)] H (.int .u32 (sumN bs : Nat)) H := by
 refine call_plain fit mixed Tryz.func196 rfl rfl rfl (by kernel_rfl) rfl ?_
 obtain ⟨H1, hH1⟩ : ∃ H1, H ++ [.row (V.bytesOf (strOf bs)) false] = H1 := ⟨_, rfl⟩
 have p1 : H <+: H1 := by rw [← hH1]; exact List.prefix_append _ _
 obtain ⟨v, hv⟩ : ∃ v, V.slc H.length 0 bs.length bs.length false 1 = v := ⟨_, rfl⟩
 have hsl : Sl 1 byteC H1 v bs := by rw [← hH1, ← hv]; exact sl_bytes H ho
 have hlen := hsl.len T77 rfl
 obtain ⟨n, hn⟩ : ∃ n, bs.length = n := ⟨_, rfl⟩
 rw [hn] at hlen
 refine goM ?_
 refine l_step (s_toBytes eLk hv hH1) ?_
 clear hv hH1
 refine goM ?_
 refine wq_loop (fun m ρ hp => ∃ k : Nat, k ≤ n ∧ m = n - k ∧ H1 = hp ∧ ρ 3 = .int .u32 ((crcTo bs k : Nat) : Int) ∧ ρ 7 = v ∧ ρ 8 = .int .i64 (n : Int) ∧ ρ 9 = .int .i64 (k : Int)) ⟨0, Nat.zero_le _, rfl, rfl, by rw [crcTo_zero]; rfl, rfl, rfl, rfl⟩ ?_
 rintro _ ρ hp ⟨k, hk, rfl, rfl, g3, g7, g8, g9⟩
 have hx0 := crcTo_lt ho k
 by_cases hk' : k < n
 ·have dk : decide ((k : Int) < (n : Int)) = true := decide_eq_true (by omega)
  obtain ⟨b, hb⟩ : ∃ b, bs[k]? = some b := ⟨bs[k]'(by omega), by simp⟩
  obtain ⟨b2, o2, _, hi2, rfl, _, hlo2, _⟩ := hsl.get T77 rfl T5 rfl hb
  have ho2 := loadV_one T5 rfl hlo2
  have hs := crcTo_succ hb
  unfold crcByte at hs
  obtain ⟨e1, e2, e3⟩ := crc_in hx0 (ho b (List.mem_of_getElem? hb))
  have hw := wrap_succ (n := k) (by omega)
  obtain ⟨y, hy⟩ : ∃ y, crcTo bs k ^^^ b.toNat = y := ⟨_, rfl⟩
  rw [hy] at e2 e3 hs
  obtain ⟨x0, hx⟩ : ∃ x0, crcTo bs k = x0 := ⟨_, rfl⟩
  rw [hx] at e2 g3
  clear hlo2 hb hy hx
  refine goM ?_
  refine wq_loop (fun m ρ hp => ∃ j : Nat, j ≤ 8 ∧ m = 8 - j ∧ H1 = hp ∧ ρ 3 = .int .u32 ((crcBits j y : Nat) : Int) ∧ ρ 7 = v ∧ ρ 8 = .int .i64 (n : Int) ∧ ρ 9 = .int .i64 (k : Int) ∧ ρ 17 = .int .i64 (j : Int)) ⟨0, by omega, rfl, rfl, by simp [put_app, put_none, crcBits, *]⟩ ?_
  clear g3 g7 g8 g9
  rintro _ ρ hp ⟨j, hj, rfl, rfl, g3, g7, g8, g9, g17⟩
  by_cases hj' : j < 8
  ·have dj : decide ((j : Int) < 8) = true := decide_eq_true (by omega)
   have hwj := wrap_succ (n := j) (by omega)
   have hst := crcBits_succ j y
   have hxj := crcBits_lt j e3
   obtain ⟨xj, hxe⟩ : ∃ xj, crcBits j y = xj := ⟨_, rfl⟩
   rw [hxe] at g3 hst hxj
   obtain ⟨a, bb, c, d, q1, q2, q3, q4, q5⟩ := crc_p hxj
   rw [← hst] at q5
   clear hst hxe dk hs
   refine goM ?_
   exact ⟨8 - (j + 1), by omega, j + 1, hj', rfl, rfl, by simp [put_app, put_none, *]⟩
  ·have dj : decide ((j : Int) < 8) = false := decide_eq_false (by omega)
   obtain rfl : j = 8 := by omega
   rw [← hs] at g3
   clear dk
   refine goM ?_
   exact ⟨n - (k + 1), by omega, k + 1, hk', rfl, rfl, by simp [put_app, put_none, *]⟩
 ·have dk : decide ((k : Int) < (n : Int)) = false := decide_eq_false (by omega)
  have hnn := not_32 hx0
  rw [crcTo_all bs (by omega)] at hnn
  obtain ⟨x0, hx⟩ : ∃ x0, crcTo bs k = x0 := ⟨_, rfl⟩
  rw [hx] at hnn g3
  clear hx
  refine goM ?_
  exact end_1 (by first | exact .inl rfl | exact .inr rfl) ⟨rfl, p1⟩
theorem putF_ (H : Heap) (s : List Int) (ho : okB s) (hs : s.length ≤ 1024) : Call Tryz.prog 127 [.str (strOf s)] H (.tup [.str (strOf (frameL s)), .int .i64 0]) H := by
 refine call_pure fit mixed Tryz.func127 rfl rfl rfl (by kernel_rfl) rfl fun hM => ?_
 have h1 := str_len s
 obtain ⟨n, hn⟩ : ∃ n, s.length = n := ⟨_, rfl⟩
 have c1 := lowF_ H n 2 (by omega)
 have a1 := str_add (a := lowL n 2) (b := s) (by rw [lowL_len]; omega)
 have hoh : okB (lowL n 2 ++ s) := okB_app (okB_low _ _) ho
 have hhl : (lowL n 2 ++ s).length ≤ 2 ^ 40 := by rw [List.length_append, lowL_len]; omega
 have c2 := sumF_ H (lowL n 2 ++ s) hoh hhl
 have hlt := sumN_lt hoh
 have c3 := lowF_ H (sumN (lowL n 2 ++ s) : Nat) 4 (by omega)
 have a2 := str_add (a := lowL n 2 ++ s) (b := lowL (sumN (lowL n 2 ++ s) : Nat) 4) (by rw [List.length_append, lowL_len, lowL_len]; omega)
 have he : frameL s = lowL n 2 ++ s ++ lowL (sumN (lowL n 2 ++ s) : Nat) 4 := by unfold frameL frameH; rw [hn]
 rw [← he] at a2
 obtain ⟨z, hz⟩ : ∃ z, sumN (lowL n 2 ++ s) = z := ⟨_, rfl⟩
 have hw : IntKind.i64.wrap (z : Int) = (z : Int) := wrap_nat (by omega)
 rw [hz] at c2 c3 a2
 have dn : decide ((n : Int) > 1024) = false := decide_eq_false (by omega)
 rw [hn] at h1
 clear he hz hlt hoh hhl hn
 generalize lowL n 2 ++ s = A at *
 generalize lowL (z : Int) 4 = B at *
 refine goM ?_
 refine l_callG c1 ?_
 refine goM ?_
 refine l_step (s_bin eLk eLk a1) ?_
 refine goM ?_
 refine l_callG c2 ?_
 refine goM ?_
 refine l_callG c3 ?_
 refine goM ?_
 refine l_step (s_bin eLk eLk a2) ?_
 refine goM ?_
 exact end_2 (by first | exact .inl rfl | exact .inr rfl) ⟨rfl, hM.pre⟩
theorem putF_bad (H : Heap) (s : List Int) (hs : 1024 < s.length) (hl : s.length ≤ 2 ^ 40) : Call Tryz.prog 127 [.str (strOf s)] H (.tup [.str ⟨#[]⟩, .int .i64 1600]) H := by
 refine call_pure fit mixed Tryz.func127 rfl rfl rfl (by kernel_rfl) rfl fun hM => ?_
 have h1 := str_len s
 have dn : decide ((s.length : Int) > 1024) = true := decide_eq_true (by omega)
 refine goM ?_
 exact end_2 (by first | exact .inl rfl | exact .inr rfl) ⟨rfl, hM.pre⟩
theorem getF_split {t : List Int} {at_ next : Nat} {s : List Int} (h : getF t at_ = some (s, next)) : s.length ≤ 1024 ∧ next = at_ + 6 + s.length ∧ next ≤ t.length ∧ (t.drop at_).take (6 + s.length) = frameL s := by
 unfold getF at h
 generalize (numN ((t.drop at_).take 2)).toNat = k at h
 by_cases h1 : at_ + 6 ≤ t.length
 ·rw [if_pos h1] at h
  by_cases h2 : k ≤ 1024 ∧ at_ + 6 + k ≤ t.length
  ·rw [if_pos h2] at h
   by_cases h3 : frameL ((t.drop (at_ + 2)).take k) = (t.drop at_).take (6 + k)
   ·rw [if_pos h3] at h
    cases h
    have hl : ((t.drop (at_ + 2)).take k).length = k := by rw [List.length_take, List.length_drop]; omega
    rw [hl]
    exact ⟨h2.1, rfl, h2.2, h3.symm⟩
   ·rw [if_neg h3] at h; cases h
  ·rw [if_neg h2] at h; cases h
 ·rw [if_neg h1] at h; cases h
theorem getF_of {t : List Int} {at_ : Nat} {s : List Int} (hs : s.length ≤ 1024) (ha : at_ ≤ t.length) (h : (t.drop at_).take (6 + s.length) = frameL s) : getF t at_ = some (s, at_ + 6 + s.length) := by
 have e : t = t.take at_ ++ (frameL s ++ (t.drop at_).drop (6 + s.length)) := by
  rw [← h, List.take_append_drop, List.take_append_drop]
 have hl : (t.take at_).length = at_ := by rw [List.length_take]; omega
 have := getF_put (t.take at_) s ((t.drop at_).drop (6 + s.length)) hs
 rw [← e, hl] at this
 exact this
theorem getF_more {t : List Int} {n at_ next : Nat} {s : List Int} (h : getF (t.take n) at_ = some (s, next)) : getF t at_ = some (s, next) := by
 obtain ⟨h1, rfl, h3, h4⟩ := getF_split h
 rw [List.length_take] at h3
 refine getF_of h1 (by omega) ?_
 rw [← h4, List.drop_take, List.take_take, Nat.min_eq_left (by omega)]
theorem load_cases (t : List Int) (f at_ : Nat) : (∃ s next, getF t at_ = some (s, next) ∧ at_ + 6 ≤ next ∧ next ≤ t.length ∧ loadN t (f + 1) at_ = (s :: (loadN t f next).1, (loadN t f next).2)) ∨ (getF t at_ = none ∧ loadN t (f + 1) at_ = ([], at_)) := by
 cases h : getF t at_ with
 | none =>
  refine .inr ⟨rfl, ?_⟩
  unfold loadN
  rw [h]
 | some p =>
  obtain ⟨s, next⟩ := p
  obtain ⟨_, h2, h3, _⟩ := getF_split h
  refine .inl ⟨s, next, rfl, by omega, h3, ?_⟩
  conv => lhs; unfold loadN
  rw [h]
def getV (t : List Int) (a : Nat) : V := match getF t a with
 | some (s, nx) => .tup [.str (strOf s), .int .i64 (nx : Int), .int .i64 0]
 | none => .tup [.str ⟨#[]⟩, .int .i64 0, .int .i64 1600]
theorem numN_two {t : List Int} {a : Nat} {x y : Int} (hx : t[a]? = some x) (hy : t[a + 1]? = some y) : numN ((t.drop a).take 2) = y * 256 + x := by
 have e : (t.drop a).take 2 = [x, y] := by
  obtain ⟨h1, rfl⟩ := List.getElem?_eq_some_iff.1 hx
  obtain ⟨h2, rfl⟩ := List.getElem?_eq_some_iff.1 hy
  rw [List.drop_eq_getElem_cons h1, List.take_succ_cons, List.drop_eq_getElem_cons h2, List.take_succ_cons, List.take_zero]
 rw [e]
 simp only [numN]
 omega
theorem or_two {x y : Int} (hx : 0 ≤ x ∧ x < 256) (hy : 0 ≤ y ∧ y < 256) : IntKind.i64.wrap ((BitVec.ofInt IntKind.i64.bits x ||| BitVec.ofInt IntKind.i64.bits (y * 256)).toNat : Int) = y * 256 + x := by
 obtain ⟨m, rfl⟩ : ∃ m : Nat, y = m := ⟨y.toNat, by omega⟩
 obtain ⟨n, rfl⟩ : ∃ n : Nat, x = n := ⟨x.toNat, by omega⟩
 have e1 : (m : Int) * 256 = ((m * 256 : Nat) : Int) := by omega
 rw [e1, BitVec.ofInt_natCast, BitVec.ofInt_natCast, BitVec.toNat_or, BitVec.toNat_ofNat, BitVec.toNat_ofNat, Nat.mod_eq_of_lt (by show _ < 2 ^ 64; omega), Nat.mod_eq_of_lt (by show _ < 2 ^ 64; omega)]
 have e2 : n ||| m * 256 = m * 256 + n := by
  have := Nat.two_pow_add_eq_or_of_lt (i := 8) (b := n) (by omega) m
  rw [Nat.or_comm, Nat.mul_comm m 256]
  exact this.symm
 rw [e2, wrap_i64 (by omega) (by omega)]
 omega
theorem shl_8 {y : Int} (hy : 0 ≤ y ∧ y < 256) : IntKind.i64.wrap (y * 2 ^ min (Int.toNat 8) IntKind.i64.bits) = y * 256 := by
 have e8 : (2 : Int) ^ min (Int.toNat 8) IntKind.i64.bits = 256 := by decide
 rw [e8, wrap_i64 (by omega) (by omega)]
theorem strOf_inj {a b : List Int} (ha : okB a) (hb : okB b) (h : strOf a = strOf b) : a = b := by
 have h3 := congrArg (fun s : ByteArray => s.data.toList) h
 simp only [strOf] at h3
 have key : ∀ (a b : List Int), okB a → okB b → a.map (fun n => UInt8.ofNat n.toNat) = b.map (fun n => UInt8.ofNat n.toNat) → a = b := by
  intro a
  induction a with
  | nil => intro b _ _ h; cases b with
   | nil => rfl
   | cons _ _ => simp at h
  | cons x a ih =>
   intro b h1 h2 h
   cases b with
   | nil => simp at h
   | cons y b =>
    simp only [List.map_cons, List.cons.injEq] at h
    have hx := h1 x List.mem_cons_self
    have hy := h2 y List.mem_cons_self
    have e := congrArg UInt8.toNat h.1
    rw [UInt8.toNat_ofNat', UInt8.toNat_ofNat'] at e
    rw [ih b (fun z hz => h1 z (List.mem_cons_of_mem _ hz)) (fun z hz => h2 z (List.mem_cons_of_mem _ hz)) h.2, show x = y by omega]
 exact key a b ha hb h3
theorem str_same2 {a b : List Int} (ha : okB a) (hb : okB b) : ((strOf a).toList == (strOf b).toList) = decide (a = b) := by
 rw [tx_def, Bool.eq_iff_iff, txEq_iff, decide_eq_true_eq]
 exact ⟨strOf_inj ha hb, fun h => by rw [h]⟩
theorem getP_ (H : Heap) (t : List Int) (a : Nat) (ho : okB t) (hl : t.length ≤ 2 ^ 47) (ha : a ≤ t.length) : Call Tryz.prog 55 [.str (strOf t), .int .i64 (a : Int)] H (getV t a) H := by
 unfold getV getF
 obtain ⟨n, hn⟩ : ∃ n, t.length = n := ⟨_, rfl⟩
 have h1 := str_len t
 rw [hn] at h1 ha hl ⊢
 have d1 : decide ((a : Int) < 0) = false := decide_eq_false (by omega)
 have d2 : decide ((a : Int) > (n : Int)) = false := decide_eq_false (by omega)
 have w1 : IntKind.i64.wrap ((n : Int) - (a : Int)) = ((n - a : Nat) : Int) := by rw [wrap_i64 (by omega) (by omega)]; omega
 by_cases h6 : a + 6 ≤ n
 ·rw [if_pos h6]
  have d3 : decide (((n - a : Nat) : Int) < 6) = false := decide_eq_false (by omega)
  obtain ⟨x, hx⟩ : ∃ x, t[a]? = some x := ⟨t[a]'(by omega), by simp⟩
  obtain ⟨y, hy⟩ : ∃ y, t[a + 1]? = some y := ⟨t[a + 1]'(by omega), by simp⟩
  have hxb := ho x (List.mem_of_getElem? hx)
  have hyb := ho y (List.mem_of_getElem? hy)
  rw [numN_two hx hy]
  obtain ⟨k, hk⟩ : ∃ k : Nat, y * 256 + x = k := ⟨(y * 256 + x).toNat, by omega⟩
  have hor := or_two hxb hyb
  have hsh := shl_8 hyb
  rw [hk] at hor ⊢
  rw [Int.toNat_natCast]
  have eR : (t.drop a).take (n - a) = t.drop a := List.take_of_length_le (by rw [List.length_drop]; omega)
  have hoR : okB (t.drop a) := fun z hz => ho z (List.mem_of_mem_drop hz)
  have hRx : (t.drop a)[0]? = some x := by rw [List.getElem?_drop]; exact hx
  have hRy : (t.drop a)[1]? = some y := by rw [List.getElem?_drop]; exact hy
  have hRl := str_len (t.drop a)
  rw [List.length_drop, hn] at hRl
  have hd2 : t.drop (a + 2) = (t.drop a).drop 2 := by rw [List.drop_drop]
  rw [hd2]
  obtain ⟨R, hR⟩ : ∃ R, t.drop a = R := ⟨_, rfl⟩
  have hRn : R.length = n - a := by rw [← hR, List.length_drop, hn]
  rw [hR] at hoR hRx hRy hRl ⊢
  replace eR : (t.drop a).take (n - a) = R := eR.trans hR
  have w2 : IntKind.i64.wrap (((n - a : Nat) : Int) - 2) = ((n - a - 2 : Nat) : Int) := by rw [wrap_i64 (by omega) (by omega)]; omega
  have w3 : IntKind.i64.wrap (((n - a - 2 : Nat) : Int) - 4) = ((n - a - 6 : Nat) : Int) := by rw [wrap_i64 (by omega) (by omega)]; omega
  have wx : IntKind.i64.wrap x = x := wrap_i64 (by omega) (by omega)
  have wy : IntKind.i64.wrap y = y := wrap_i64 (by omega) (by omega)
  have hkb : k < 65536 := by omega
  clear hx hy hk hd2 hR
  by_cases hkn : a + 6 + k ≤ n
  ·have d4 : decide ((k : Int) > ((n - a - 6 : Nat) : Int)) = false := decide_eq_false (by omega)
   have w4 : IntKind.i64.wrap (2 + (k : Int)) = ((2 + k : Nat) : Int) := by rw [wrap_i64 (by omega) (by omega)]; omega
   have eS : (R.drop 2).take (2 + k - 2) = (R.drop 2).take k := by rw [Nat.add_sub_cancel_left]
   have hoS : okB ((R.drop 2).take k) := fun z hz => hoR z (List.mem_of_mem_drop (List.mem_of_mem_take hz))
   have hSl : ((R.drop 2).take k).length = k := by rw [List.length_take, List.length_drop]; omega
   by_cases hk1 : k ≤ 1024
   ·rw [if_pos ⟨hk1, hkn⟩]
    obtain ⟨s, hs⟩ : ∃ s, (R.drop 2).take k = s := ⟨_, rfl⟩
    rw [hs] at eS hoS hSl ⊢
    have c1 := putF_ H s hoS (by omega)
    have hfl := str_len (frameL s)
    rw [frameL_len, hSl] at hfl
    have hof : okB (frameL s) := by unfold frameL frameH; exact okB_app (okB_app (okB_low _ _) hoS) (okB_low _ _)
    have hoT : okB (R.take (6 + k)) := fun z hz => hoR z (List.mem_of_mem_take hz)
    have eT : (R.drop 0).take (6 + k - 0) = R.take (6 + k) := by rw [List.drop_zero, Nat.sub_zero]
    have hne := str_same2 hof hoT
    have w5 : IntKind.i64.wrap ((a : Int) + 2) = ((a + 2 : Nat) : Int) := by rw [wrap_i64 (by omega) (by omega)]; omega
    have w6 : IntKind.i64.wrap (((a + 2 : Nat) : Int) + (k : Int)) = ((a + 2 + k : Nat) : Int) := by rw [wrap_i64 (by omega) (by omega)]; omega
    have w7 : IntKind.i64.wrap (((a + 2 + k : Nat) : Int) + 4) = ((a + 6 + k : Nat) : Int) := by rw [wrap_i64 (by omega) (by omega)]; omega
    have hq : decide (frameL s = R.take (6 + k)) = decide (frameL s = R.take (6 + k)) := rfl
    clear hs hof hoT hoS hxb hyb
    by_cases heq : frameL s = R.take (6 + k)
    ·rw [if_pos heq]
     rw [decide_eq_true heq] at hne
     clear heq hq
     generalize frameL s = F at *
     refine call_pure fit mixed Tryz.func55 rfl rfl rfl (by kernel_rfl) rfl fun hM => ?_
     refine goM ?_
     refine l_step (s_strCut a n eLk eLk eLk (bound_at _ rfl (by omega)) (by rw [hn]; rfl)) ?_
     rw [eR]
     refine goM ?_
     refine d_step (s_strIdx 0 eLk eLk rfl hoR hRx) ?_
     refine goM ?_
     refine d_step (s_strIdx 1 eLk eLk rfl hoR hRy) ?_
     refine goM ?_
     refine l_step (s_strCut 2 (2 + k) eLk eLk eLk (bound_at _ rfl (by omega)) (bound_at _ rfl (by omega))) ?_
     rw [eS]
     refine goM ?_
     refine l_callG c1 ?_
     refine goM ?_
     refine l_step (s_strCut 0 (6 + k) eLk eLk eLk rfl (bound_at _ rfl (by omega))) ?_
     rw [eT]
     refine goM ?_
     exact end_3 (by first | exact .inl rfl | exact .inr rfl) ⟨rfl, hM.pre⟩
    ·rw [if_neg heq]
     rw [decide_eq_false heq] at hne
     clear heq hq
     generalize frameL s = F at *
     refine call_pure fit mixed Tryz.func55 rfl rfl rfl (by kernel_rfl) rfl fun hM => ?_
     refine goM ?_
     refine l_step (s_strCut a n eLk eLk eLk (bound_at _ rfl (by omega)) (by rw [hn]; rfl)) ?_
     rw [eR]
     refine goM ?_
     refine d_step (s_strIdx 0 eLk eLk rfl hoR hRx) ?_
     refine goM ?_
     refine d_step (s_strIdx 1 eLk eLk rfl hoR hRy) ?_
     refine goM ?_
     refine l_step (s_strCut 2 (2 + k) eLk eLk eLk (bound_at _ rfl (by omega)) (bound_at _ rfl (by omega))) ?_
     rw [eS]
     refine goM ?_
     refine l_callG c1 ?_
     refine goM ?_
     refine l_step (s_strCut 0 (6 + k) eLk eLk eLk rfl (bound_at _ rfl (by omega))) ?_
     rw [eT]
     refine goM ?_
     exact end_3 (by first | exact .inl rfl | exact .inr rfl) ⟨rfl, hM.pre⟩
   ·rw [if_neg (fun h => hk1 h.1)]
    obtain ⟨s, hs⟩ : ∃ s, (R.drop 2).take k = s := ⟨_, rfl⟩
    rw [hs] at eS hoS hSl
    have c1 := putF_bad H s (by omega) (by omega)
    clear hs hoS hxb hyb
    refine call_pure fit mixed Tryz.func55 rfl rfl rfl (by kernel_rfl) rfl fun hM => ?_
    refine goM ?_
    refine l_step (s_strCut a n eLk eLk eLk (bound_at _ rfl (by omega)) (by rw [hn]; rfl)) ?_
    rw [eR]
    refine goM ?_
    refine d_step (s_strIdx 0 eLk eLk rfl hoR hRx) ?_
    refine goM ?_
    refine d_step (s_strIdx 1 eLk eLk rfl hoR hRy) ?_
    refine goM ?_
    refine l_step (s_strCut 2 (2 + k) eLk eLk eLk (bound_at _ rfl (by omega)) (bound_at _ rfl (by omega))) ?_
    rw [eS]
    refine goM ?_
    refine l_callG c1 ?_
    refine goM ?_
    exact end_3 (by first | exact .inl rfl | exact .inr rfl) ⟨rfl, hM.pre⟩
  ·rw [if_neg (fun h => hkn h.2)]
   have d4 : decide ((k : Int) > ((n - a - 6 : Nat) : Int)) = true := decide_eq_true (by omega)
   clear hxb hyb
   refine call_pure fit mixed Tryz.func55 rfl rfl rfl (by kernel_rfl) rfl fun hM => ?_
   refine goM ?_
   refine l_step (s_strCut a n eLk eLk eLk (bound_at _ rfl (by omega)) (by rw [hn]; rfl)) ?_
   rw [eR]
   refine goM ?_
   refine d_step (s_strIdx 0 eLk eLk rfl hoR hRx) ?_
   refine goM ?_
   refine d_step (s_strIdx 1 eLk eLk rfl hoR hRy) ?_
   refine goM ?_
   exact end_3 (by first | exact .inl rfl | exact .inr rfl) ⟨rfl, hM.pre⟩
 ·rw [if_neg h6]
  have d3 : decide (((n - a : Nat) : Int) < 6) = true := decide_eq_true (by omega)
  clear h6
  refine call_pure fit mixed Tryz.func55 rfl rfl rfl (by kernel_rfl) rfl fun hM => ?_
  refine goM ?_
  exact end_3 (by first | exact .inl rfl | exact .inr rfl) ⟨rfl, hM.pre⟩
def bytesL (s : ByteArray) : List Int := s.data.toList.map fun b => (b.toNat : Int)
theorem bytesL_len (s : ByteArray) : (bytesL s).length = s.size := by simp [bytesL]
theorem okB_bytesL (s : ByteArray) : okB (bytesL s) := fun b hb => by
 obtain ⟨x, _, rfl⟩ := List.mem_map.1 hb
 have := x.toNat_lt
 omega
theorem strOf_bytesL (s : ByteArray) : strOf (bytesL s) = s := by
 apply ByteArray.ext
 unfold strOf bytesL
 simp only [List.map_map]
 have : ((fun n : Int => UInt8.ofNat n.toNat) ∘ fun b : UInt8 => (b.toNat : Int)) = id := by
  funext b
  simp
 rw [this, List.map_id]
def bsC (cs : List V) (s : List Int) : Prop := cs = [.str (strOf s)]
theorem take_min {t : List Int} {n m : Nat} (h : t.length = n) : t.take (min n m) = t.take m := by
 rcases Nat.le_total n m with h1 | h1
 ·rw [Nat.min_eq_left h1, List.take_of_length_le (by omega), List.take_of_length_le (by omega)]
 ·rw [Nat.min_eq_right h1]
theorem min_nat {n k : Nat} : builtinP T .min [3, 3] [.int .i64 (n : Int), .int .i64 (k : Int)] = some (.int .i64 ((min n k : Nat) : Int)) := by
 show some (V.int .i64 (if (k : Int) < (n : Int) then (k : Int) else (n : Int))) = _
 rcases Nat.le_total n k with h1 | h1
 ·rw [if_neg (by omega), Nat.min_eq_left h1]
 ·rw [Nat.min_eq_right h1]
  split
  ·rfl
  ·rw [show n = k by omega]
theorem loadP_ (H : Heap) (t : List Int) (ho : okB t) (hl : t.length ≤ 2 ^ 47) : ∃ w H', Call Tryz.prog 54 [.str (strOf t)] H w H' ∧ ∃ u, w = .tup [u, .int .i64 ((loadN (t.take 65536) 65537 0).2 : Int)] ∧ Mem H H' [.own 1 bsC u (loadF t)] := by
 refine call_mem fit mixed Tryz.func54 rfl rfl rfl (by kernel_rfl) fun hM => ?_
 unfold loadF
 have h1 := str_len t
 obtain ⟨n, hn⟩ : ∃ n, t.length = n := ⟨_, rfl⟩
 rw [hn] at h1
 have hmb : builtinP T .min [3, 3] [.int .i64 (n : Int), .int .i64 65536] = some (.int .i64 ((min n 65536 : Nat) : Int)) := min_nat (k := 65536)
 have eT : (t.drop 0).take (min n 65536 - 0) = t.take 65536 := by rw [List.drop_zero, Nat.sub_zero, take_min hn]
 have hmn : min n 65536 ≤ n := Nat.min_le_left _ _
 obtain ⟨m, hm⟩ : ∃ m, min n 65536 = m := ⟨_, rfl⟩
 rw [hm] at hmb eT hmn
 have ho' : okB (t.take 65536) := fun z hz => ho z (List.mem_of_mem_take hz)
 have hl' : (t.take 65536).length ≤ 65536 := by rw [List.length_take]; omega
 obtain ⟨t', ht⟩ : ∃ t', t.take 65536 = t' := ⟨_, rfl⟩
 rw [ht] at eT ho' hl' ⊢
 obtain ⟨q, hq⟩ : ∃ q, loadN t' 65537 0 = q := ⟨_, rfl⟩
 rw [hq]
 clear hm
 refine goM ?_
 refine l_step (s_strCut 0 m eLk eLk eLk rfl (bound_at _ rfl (by omega))) ?_
 rw [eT]
 refine goM ?_
 replace hM := hM.nil 1 bsC
 refine wq_loop (m := 65537) (fun f ρ h => ∃ (p : Nat) (v : V) (acc : List (List Int)), Mem H h [.own 1 bsC v acc] ∧ p ≤ t'.length ∧ t'.length < p + 6 * f ∧ acc.length ≤ p ∧ q = (acc ++ (loadN t' f p).1, (loadN t' f p).2) ∧ ρ 0 = .str (strOf t') ∧ ρ 4 = v ∧ ρ 5 = .int .i64 (p : Int)) ⟨0, .nils, [], hM, Nat.zero_le _, by omega, Nat.le_refl _, by rw [hq]; rfl, by simp [put_app, put_none, rho0_app, *]⟩ ?_
 clear hM hq h1 hmb eT hmn
 rintro f ρ h ⟨p, v, acc, hM, hp, hf, hal, hq, g0, g4, g5⟩
 obtain ⟨f', rfl⟩ : ∃ f', f = f' + 1 := ⟨f - 1, by omega⟩
 have c1 := getP_ h t' p ho' (by omega) hp
 unfold getV at c1
 rcases load_cases t' f' p with ⟨s, next, k1, k2, k3, k4⟩ | ⟨k1, k2⟩
 ·rw [k1] at c1
  simp only at c1
  rw [k4] at hq
  simp only at hq
  clear k1 k4
  refine goM ?_
  refine l_callG c1 ?_
  refine goM ?_
  refine l_sliceM bsC [s] [.str (strOf s)] T96 rfl T9 rfl (Cells.one (sz := 1) rfl rfl) (by decide) fun e1 H1 hM => ?_
  refine goM ?_
  refine l_appM (hM.sl .here) (xs := acc) (hh := .there .here) (hb := by simp only [List.length_cons, List.length_nil]; omega) fun v2 H2 hM => ?_
  replace hM := hM.drop
  refine goM ?_
  exact ⟨f', by omega, next, v2, acc ++ [s], hM, k3, by omega, by rw [List.length_append, List.length_singleton]; omega, by rw [hq, List.append_assoc]; rfl, by simp [put_app, put_none, *]⟩
 ·rw [k1] at c1
  simp only at c1
  rw [k2] at hq
  simp only [List.append_nil] at hq
  subst hq
  clear k1 k2
  refine goM ?_
  refine l_callG c1 ?_
  refine goM ?_
  exact end_2 (by first | exact .inl rfl | exact .inr rfl) ⟨v, rfl, hM⟩
theorem law_topFrames {D : Type} (K : Heap) (vs : List V) (ds : List (DataW D)) (ro : Ro K) (h : RdAll T K [9] vs ds) : ∃ K', Call Tryz.prog 16 vs K (.bool true) K' := by
 obtain ⟨v1, vs, d1, ds, rfl, rfl, hv1, h⟩ := rdAll_cons h
 obtain ⟨rfl, rfl⟩ := rdAll_nil h
 obtain ⟨s, rfl, ls⟩ := rd_str hv1
 replace ls : s.size ≤ 140737488351232 := ls
 clear hv1 h
 obtain ⟨t, rfl, ho, hl⟩ : ∃ t, s = strOf t ∧ okB t ∧ t.length ≤ 2 ^ 47 := ⟨bytesL s, (strOf_bytesL s).symm, okB_bytesL s, by rw [bytesL_len]; omega⟩
 clear ls
 refine ⟨K, ?_⟩
 refine call_pure fit mixed Tryz.func16 rfl rfl rfl (by kernel_rfl) rfl fun hM => ?_
 obtain ⟨_, H1, c1, u, rfl, m1⟩ := loadP_ K t ho hl
 have hul := (m1.sl .here).len T96 rfl
 have htl := str_len t
 have hq : loadN (t.take 65536) 65537 0 = (loadF t, (loadN (t.take 65536) 65537 0).2) := rfl
 obtain ⟨to, hto⟩ : ∃ to, (loadN (t.take 65536) 65537 0).2 = to := ⟨_, rfl⟩
 obtain ⟨ss, hss⟩ : ∃ ss, loadF t = ss := ⟨_, rfl⟩
 rw [hto] at hq c1
 rw [hss] at hq m1 hul
 have hl' : (t.take 65536).length ≤ 65536 := by rw [List.length_take]; omega
 have hlt : (t.take 65536).length ≤ t.length := by rw [List.length_take]; omega
 have hmore : ∀ p s next, getF (t.take 65536) p = some (s, next) → getF t p = some (s, next) := fun p s next h => getF_more h
 have hfew : t.length ≤ 65536 → t.take 65536 = t := fun h => List.take_of_length_le h
 obtain ⟨n, hn⟩ : ∃ n, ss.length = n := ⟨_, rfl⟩
 rw [hn] at hul
 obtain ⟨t', ht⟩ : ∃ t', t.take 65536 = t' := ⟨_, rfl⟩
 rw [ht] at hq hl' hlt hmore hfew
 have hss2 : ss.length ≤ t'.length := by
  have gen : ∀ f p, p ≤ t'.length → (loadN t' f p).1.length + p ≤ t'.length := by
   intro f
   induction f with
   | zero => intro p hp; simpa [loadN] using hp
   | succ f ih =>
    intro p hp
    rcases load_cases t' f p with ⟨s, next, k1, k2, k3, k4⟩ | ⟨k1, k2⟩
    ·rw [k4]
     have := ih next k3
     simp only [List.length_cons]
     omega
    ·rw [k2]; simpa using hp
  have := gen 65537 0 (Nat.zero_le _)
  rw [hq] at this
  simpa using this
 clear hto hss ht
 refine goM ?_
 refine l_callG (awakeT_ _) ?_
 refine goM ?_
 refine l_callG c1 ?_
 replace hM := hM.call1 m1
 clear c1 m1
 refine goM ?_
 refine wq_loop (fun c ρ h => ∃ (k p f : Nat), k ≤ n ∧ c = n - k ∧ Mem K h [.own 1 bsC u ss] ∧ p ≤ t'.length ∧ t'.length < p + 6 * f ∧ loadN t' f p = (ss.drop k, to) ∧ ρ 0 = .str (strOf t) ∧ ρ 3 = u ∧ ρ 4 = .int .i64 (to : Int) ∧ ρ 5 = .int .i64 (p : Int) ∧ ρ 6 = .int .i64 (k : Int)) ⟨0, 0, 65537, Nat.zero_le _, rfl, hM, Nat.zero_le _, by omega, hq, by simp [put_app, put_none, rho0_app, *]⟩ ?_
 clear hM hq
 rintro _ ρ h ⟨k, p, f, hk, rfl, hM, hp, hf, hq, g0, g3, g4, g5, g6⟩
 obtain ⟨f', rfl⟩ : ∃ f', f = f' + 1 := ⟨f - 1, by omega⟩
 have c2 := getP_ h t p ho hl (by omega)
 unfold getV at c2
 by_cases hk' : k < n
 ·have dk : decide ((k : Int) < (n : Int)) = true := decide_eq_true (by omega)
  have hw := wrap_succ (n := k) (by omega)
  obtain ⟨x, hx⟩ : ∃ x, ss[k]? = some x := ⟨ss[k]'(by omega), by simp⟩
  have hdr : ss.drop k = x :: ss.drop (k + 1) := by
   obtain ⟨h1, rfl⟩ := List.getElem?_eq_some_iff.1 hx
   exact List.drop_eq_getElem_cons h1
  rcases load_cases t' f' p with ⟨s, next, k1, k2, k3, k4⟩ | ⟨k1, k2⟩
  ·rw [hmore _ _ _ k1] at c2
   simp only at c2
   rw [hq, hdr, Prod.mk.injEq, List.cons.injEq] at k4
   obtain ⟨⟨rfl, e1⟩, e2⟩ := k4
   obtain ⟨b2, o2, _, hi2, rfl, _, hlo2, _⟩ := (hM.sl (v := u) (xs := ss) (by (repeat (first | exact Has.here | apply Has.there)))).get T96 rfl T9 rfl hx
   have ho2 := loadV_one T9 rfl hlo2
   have hsame : ((strOf x).toList == (strOf x).toList) = true := by simp
   have dn : decide ((next : Int) ≤ (p : Int)) = false := decide_eq_false (by omega)
   have hq2 : loadN t' f' next = (ss.drop (k + 1), to) := Prod.ext e1.symm e2.symm
   clear hq hdr e1 e2 k1 hx hlo2 hmore hfew
   refine goM ?_
   refine l_callG c2 ?_
   refine goM ?_
   refine l_callG (num_ _ _) ?_
   refine goM ?_
   exact ⟨n - (k + 1), by omega, k + 1, next, f', hk', rfl, hM, k3, by omega, hq2, by simp [put_app, put_none, *]⟩
  ·rw [k2, hdr] at hq
   cases hq
 ·have dk : decide ((k : Int) < (n : Int)) = false := decide_eq_false (by omega)
  have hdr : ss.drop k = [] := List.drop_eq_nil_of_le (by omega)
  rcases load_cases t' f' p with ⟨s, next, k1, k2, k3, k4⟩ | ⟨k1, k2⟩
  ·rw [k4, hdr] at hq
   cases hq
  ·rw [k2, hdr] at hq
   obtain rfl : p = to := congrArg Prod.snd hq
   have dp : ((p : Int) == (p : Int)) = true := by simp
   clear hq k2
   cases hg : getF t p with
   | none =>
    rw [hg] at c2
    simp only at c2
    clear hg k1 hmore hfew
    refine goM ?_
    refine l_callG c2 ?_
    refine goM ?_
    refine l_callG (num_ _ _) ?_
    refine goM ?_
    exact end_1 (by first | exact .inl rfl | exact .inr rfl) ⟨rfl, hM.pre⟩
   | some r =>
    obtain ⟨s, next⟩ := r
    rw [hg] at c2
    simp only at c2
    have hbig : 65536 < t.length := by
     apply Nat.lt_of_not_le
     intro hle
     rw [hfew hle, hg] at k1
     cases k1
    have db : decide ((t.length : Int) > 65536) = true := decide_eq_true (by omega)
    clear hg k1 hmore hfew
    refine goM ?_
    refine l_callG c2 ?_
    refine goM ?_
    refine l_callG (num_ _ _) ?_
    refine goM ?_
    exact end_1 (by first | exact .inl rfl | exact .inr rfl) ⟨rfl, hM.pre⟩
end Go.Proofs.YtaofdhgkgklppaaGreat.VM
