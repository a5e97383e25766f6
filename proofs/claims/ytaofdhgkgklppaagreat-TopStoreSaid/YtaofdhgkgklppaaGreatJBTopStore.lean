/- Joined texts: GetP, RunQ, MembF, TopE. -/
import Derived.Test.YtaofdhgkgklppaaGreatJB1
import Derived.Test.YtaofdhgkgklppaaGreatJB2
import Derived.Test.YtaofdhgkgklppaaGreatJB3
import Derived.Test.YtaofdhgkgklppaaGreatJB4
import Derived.Test.YtaofdhgkgklppaaGreatJB5
import Derived.Test.YtaofdhgkgklppaaGreatJB6
import Derived.Test.YtaofdhgkgklppaaGreatJB7
import Derived.Test.YtaofdhgkgklppaaGreatJB8
import Derived.Test.YtaofdhgkgklppaaGreatJB9
import Derived.Test.YtaofdhgkgklppaaGreatJB10
import Derived.Test.YtaofdhgkgklppaaGreatJB11
import Derived.Test.YtaofdhgkgklppaaGreatJB12
import Derived.Test.YtaofdhgkgklppaaGreatJB13
import Derived.Test.YtaofdhgkgklppaaGreatJBTopAll
namespace Go.Proofs.YtaofdhgkgklppaaGreat.VM
open Go
set_option linter.unusedVariables false
set_option linter.unusedSimpArgs false
attribute [local irreducible] wq wqL wqD wqE wqO Th Bk EndR
set_option maxHeartbeats 8000000
theorem wrap_u32 (n : Int) : IntKind.u32.wrap n = n % 4294967296 := by
 unfold IntKind.wrap
 simp only [IntKind.bits, IntKind.signed, Bool.false_and, Bool.false_eq_true, if_false, Int.reducePow]
theorem wrap_i32 (n : Int) : IntKind.i32.wrap n = if 2147483648 ≤ n % 4294967296 then n % 4294967296 - 4294967296 else n % 4294967296 := by
 unfold IntKind.wrap
 simp only [IntKind.bits, IntKind.signed, Bool.true_and, decide_eq_true_eq, Nat.reduceSub, Int.reducePow, ge_iff_le]
theorem lowK_2 (x : Int) : lowK x 2 = x / 65536 % 256 := by
 unfold lowK; rw [wrap_u8, Int.fdiv_eq_ediv_of_nonneg _ (Int.pow_nonneg (by decide))]
 rw [show (2 : Int) ^ min (8 * 2) IntKind.i64.bits = 65536 by decide]
theorem lowK_3 (x : Int) : lowK x 3 = x / 16777216 % 256 := by
 unfold lowK; rw [wrap_u8, Int.fdiv_eq_ediv_of_nonneg _ (Int.pow_nonneg (by decide))]
 rw [show (2 : Int) ^ min (8 * 3) IntKind.i64.bits = 16777216 by decide]
theorem numN_low4 (x : Int) : numN (lowL x 4) = x % 4294967296 := by
 have e : lowL x 4 = [lowK x 0, lowK x 1, lowK x 2, lowK x 3] := rfl
 rw [e]
 simp only [numN, lowK_0, lowK_1, lowK_2, lowK_3]
 omega
theorem num_signed {x : Int} (h : fixMay x = true) : IntKind.i64.wrap (IntKind.i32.wrap (IntKind.u32.wrap (numN (lowL x 4)))) = x := by
 unfold fixMay at h
 rw [within_iff] at h
 rw [numN_low4, wrap_u32, wrap_i32, wrap_i64] <;> split <;> omega
theorem num_plain {x : Int} (h0 : 0 ≤ x) (h : x < 4294967296) : numN (lowL x 4) = x := by rw [numN_low4]; omega
theorem lowsL_at : ∀ {xs : List Int} {k : Nat} {x : Int}, xs[k]? = some x → ((lowsL xs).drop (4 * k)).take 4 = lowL x 4
 | [], k, x, h => by simp at h
 | y :: ys, 0, x, h => by
  simp at h; subst h
  have e : lowsL (y :: ys) = lowL y 4 ++ lowsL ys := rfl
  rw [e, Nat.mul_zero, List.drop_zero, List.take_append_of_le_length (by rw [lowL_len]; omega), List.take_of_length_le (by rw [lowL_len]; omega)]
 | y :: ys, k + 1, x, h => by
  have e : lowsL (y :: ys) = lowL y 4 ++ lowsL ys := rfl
  rw [e, show 4 * (k + 1) = (lowL y 4).length + 4 * k by rw [lowL_len]; omega, ← List.drop_drop, List.drop_left]
  exact lowsL_at (by simpa using h)
theorem putL_at {ws vs : List Int} {r m t : Int} {k : Nat} {x : Int} (h : (ws ++ (vs ++ [r, m]))[k]? = some x) : ((putL ws vs r m t).drop (1 + 4 * k)).take 4 = lowL x 4 := by
 have hk := (List.getElem?_eq_some_iff.1 h).1
 have hl : (lowsL (ws ++ (vs ++ [r, m]))).length = 4 * (ws ++ (vs ++ [r, m])).length := lowsL_len _
 rw [putL_eq, List.append_assoc, show 1 + 4 * k = (lowL (ws.length : Int) 1).length + 4 * k by rw [lowL_len], ← List.drop_drop, List.drop_left,
  List.drop_append_of_le_length (by omega), List.take_append_of_le_length (by rw [List.length_drop]; omega)]
 exact lowsL_at h
theorem putL_len {ws vs : List Int} {r m t : Int} (h : vs.length = ws.length) : (putL ws vs r m t).length = 10 + 8 * ws.length := by
 rw [putL_eq]
 simp only [List.length_append, lowL_len, lowsL_len, List.length_cons, List.length_nil]
 omega
theorem vecMay_at {ws : List Int} (h : vecMay ws = true) {k : Nat} {x : Int} (hk : ws[k]? = some x) : fixMay x = true := by
 simp only [vecMay, Bool.and_eq_true, List.all_eq_true] at h
 exact h.2 x (List.mem_of_getElem? hk)
theorem putL_first (ws vs : List Int) (r m t : Int) : (putL ws vs r m t)[0]? = some (lowK ws.length 0) := by
 rw [putL_eq]; rfl
theorem strOf_extract (bs : List Int) (l h : Nat) : (strOf bs).extract l h = strOf ((bs.drop l).take (h - l)) := by
 apply ByteArray.ext
 rw [ByteArray.data_extract]
 simp only [strOf]
 apply Array.ext'
 simp [List.map_take, List.map_drop, List.extract_eq_take_drop]
theorem s_strIdx {ρ : Rho} {H : Heap} {x y : Operand} {bs : List Int} {k : IntKind} {n : Int} (i : Nat) {b : Int} (hx : ρ.ev x = some (.str (strOf bs))) (hy : ρ.ev y = some (.int k n)) (hn : n = i) (ho : okB bs) (h : bs[i]? = some b) : Does T ρ H (.index 9 x y) (.int .u8 b) H := by
 subst hn
 refine does_pure rfl ?_
 simp only [pureOp, T9, hx, hy]
 rw [if_pos (by omega), Int.toNat_natCast]
 exact strOf_get ho h
theorem s_strCut {ρ : Rho} {H : Heap} {x : Operand} {lo hi : Option Operand} {bs : List Int} {vl vh : Option V} (l h : Nat) (hx : ρ.ev x = some (.str (strOf bs))) (h1 : optEv ρ.ev lo = some vl) (h2 : optEv ρ.ev hi = some vh) (hl : boundV vl 0 h = some l) (hh : boundV vh bs.length bs.length = some h) : Does T ρ H (.slice 9 x lo hi none) (.str (strOf ((bs.drop l).take (h - l)))) H := by
 refine does_pure rfl ?_
 have h3 : optEv ρ.ev none = some none := rfl
 simp only [pureOp, T9, hx, h1, h2, h3, sliceS, strOf_size, hh, hl, strOf_extract]
theorem bound_at {k : IntKind} {n : Int} {m d : Nat} (i : Nat) (h : n = i) (hi : i ≤ m) : boundV (some (.int k n)) d m = some i := by
 subst h
 simp only [boundV]
 rw [if_pos ⟨by omega, by omega⟩, Int.toNat_natCast]
theorem str_same (a : ByteArray) : vbin T .neq 9 (.str a) (.str a) = some (.bool false) := by simp [vbin, strBin]
theorem str_len (bs : List Int) : builtinP T .len [9] [.str (strOf bs)] = some (.int .i64 (bs.length : Int)) := by
 simp only [builtinP, T9, strOf_size]
theorem swept_few {s : St} (h : StOk s) : (sweptS s).st.length ≤ s.ms.length := few_held h.st h.held
theorem swept_held {s : St} (h : StOk s) {e : Ent} (he : e ∈ (sweptS s).st) : ∃ m ∈ s.ms, m.2 = e.id := by
 obtain ⟨he, hn⟩ := List.mem_filter.1 he
 have := h.held e he
 exact countOf_some (by simp at hn; omega)
theorem or_byte {a b : Int} (h0 : 0 ≤ a) (h : a < 2 ^ 40) (hb0 : 0 ≤ b) (hb : b < 256) : vbin T .or 3 (.int .i64 (IntKind.i64.wrap (a * 2 ^ (min 8 IntKind.i64.bits)))) (.int .i64 b) = some (.int .i64 (a * 256 + b)) := by
 obtain ⟨m, rfl⟩ : ∃ m : Nat, a = m := ⟨a.toNat, by omega⟩
 obtain ⟨n, rfl⟩ : ∃ n : Nat, b = n := ⟨b.toNat, by omega⟩
 have e8 : (2 : Int) ^ (min 8 IntKind.i64.bits) = 256 := by decide
 rw [e8, wrap_i64 (by omega) (by omega)]
 simp only [vbin, intBin, if_true]
 have e1 : (m : Int) * 256 = ((m * 256 : Nat) : Int) := by omega
 rw [e1, BitVec.ofInt_natCast, BitVec.ofInt_natCast, BitVec.toNat_or, BitVec.toNat_ofNat, BitVec.toNat_ofNat, Nat.mod_eq_of_lt (by show _ < 2 ^ 64; omega), Nat.mod_eq_of_lt (by show _ < 2 ^ 64; omega)]
 have e2 : m * 256 ||| n = m * 256 + n := by
  have := Nat.two_pow_add_eq_or_of_lt (i := 8) (b := n) (by omega) m
  rw [Nat.mul_comm m 256]
  exact this.symm
 rw [e2, wrap_i64 (by omega) (by omega)]
 congr 2
theorem numN_drop {bs : List Int} {k : Nat} {b : Int} (h : bs[k]? = some b) : numN (bs.drop k) = numN (bs.drop (k + 1)) * 256 + b := by
 obtain ⟨hk, rfl⟩ := List.getElem?_eq_some_iff.1 h
 rw [List.drop_eq_getElem_cons hk]; rfl
theorem numN_in : ∀ {bs : List Int}, okB bs → 0 ≤ numN bs ∧ numN bs < 256 ^ bs.length
 | [], _ => by simp [numN]
 | b :: bs, h => by
  have ih := numN_in (bs := bs) fun x hx => h x (List.mem_cons_of_mem _ hx)
  have hb := h b List.mem_cons_self
  simp only [numN, List.length_cons, Int.pow_succ]
  omega
theorem numOf_ (H : Heap) (bs : List Int) (ho : okB bs) (hl : bs.length ≤ 4) : Call Tryz.prog 117 [.str (strOf bs)] H (.int .i64 (numN bs)) H := by
 obtain ⟨n, hn⟩ : ∃ n, bs.length = n := ⟨_, rfl⟩
 have hlen := str_len bs
 rw [hn] at hlen
 refine call_pure fit mixed Tryz.func117 rfl rfl rfl (by kernel_rfl) rfl fun hM => ?_
 have hw0 : IntKind.i64.wrap ((n : Int) - 1) = (n : Int) - 1 := wrap_i64 (by omega) (by omega)
 refine goM ?_
 refine wq_loop (fun k ρ hp => ∃ (z : Int), k ≤ n ∧ hp = H ∧ Held (z = (k : Int) - 1) ∧ ρ 0 = .str (strOf bs) ∧ ρ 3 = .int .i64 (numN (bs.drop k)) ∧ ρ 4 = .int .i64 z) ⟨_, Nat.le_refl _, rfl, rfl, rfl, by rw [List.drop_of_length_le (by omega)]; rfl, rfl⟩ ?_
 clear hM hw0
 rintro k ρ hp ⟨z, hk, rfl, hz, g0, g3, g4⟩
 refine goM ?_
 refine cond_go (fun hb => ?_) (fun hb => ?_)
 ·have h0 : 0 ≤ z := by simpa using hb
  clear hb
  replace hz : z = (k : Int) - 1 := hz
  obtain ⟨j, rfl⟩ : ∃ j, k = j + 1 := ⟨k - 1, by omega⟩
  have hzj : z = j := by omega
  obtain ⟨b, hbj⟩ : ∃ b, bs[j]? = some b := ⟨bs[j]'(by omega), by simp⟩
  have hb := ho b (List.mem_of_getElem? hbj)
  have hd := numN_drop hbj
  have hin := numN_in (bs := bs.drop (j + 1)) fun x hx => ho x (List.mem_of_mem_drop hx)
  have hp4 : (256 : Int) ^ (bs.drop (j + 1)).length ≤ 16777216 := by
   have : (bs.drop (j + 1)).length ≤ 3 := by rw [List.length_drop]; omega
   have h3 : (256 : Nat) ^ (bs.drop (j + 1)).length ≤ 256 ^ 3 := Nat.pow_le_pow_right (by decide) this
   have h4 : (256 : Int) ^ (bs.drop (j + 1)).length = ((256 ^ (bs.drop (j + 1)).length : Nat) : Int) := by rw [Int.natCast_pow]; rfl
   rw [h4]; omega
  have hor := or_byte (a := numN (bs.drop (j + 1))) (b := b) hin.1 (by omega) hb.1 hb.2
  rw [← hd] at hor
  have hwb : IntKind.i64.wrap b = b := wrap_i64 (by omega) (by omega)
  have hwz : IntKind.i64.wrap (z - 1) = z - 1 := wrap_i64 (by omega) (by omega)
  obtain ⟨a, ha⟩ : ∃ a, numN (bs.drop (j + 1)) = a := ⟨_, rfl⟩
  rw [ha] at g3 hor
  obtain ⟨s, hs⟩ : ∃ s, IntKind.i64.wrap (a * 2 ^ (min 8 IntKind.i64.bits)) = s := ⟨_, rfl⟩
  have hsh : vbin T .shl 3 (.int .i64 a) (.int .u64 8) = some (.int .i64 s) := by
   rw [← hs]
   simp only [vbin, shiftBin]
   rw [if_neg (by decide)]; rfl
  rw [hs] at hor
  have hz1 : Held (z - 1 = (j : Int) - 1) := by show z - 1 = (j : Int) - 1; omega
  clear hd hin hp4 ha hs h0 hz
  replace hzj : Held (z = (j : Int)) := hzj
  repeat (first | refine l_step (s_strIdx j eLk eLk hzj ho hbj) ?_ | (refine l_pl ?_; refine l_step (s_bin eLk eLk hsh) ?_) | (refine l_pl ?_; refine l_step (s_bin eLk eLk hor) ?_) | (refine l_pl ?_; refine l_goM ?_) | (refine d_pl ?_; refine d_goM ?_) | (refine l_gd ?_; first | refine l_onG ?_ | refine l_offG ?_ | refine l_offU ?_) | (refine d_gd ?_; first | refine d_onG ?_ | refine d_offG ?_ | refine d_offU ?_) | (refine cond_pl ?_; first | refine cond_yes ?_ | refine cond_no ?_) | refine wq_seq ?_ | refine wq_line ?_ | refine wq_draw (by decide +kernel) ?_ | refine wq_block ?_ | refine l_nil ?_ | refine d_nil ?_ | refine wq_skip ?_ | refine wq_ret ?_ | refine wq_exit ?_ | refine th_normal ?_ | refine th_ret ?_ | refine th_exit ?_ | refine bk_normal ?_ | refine bk_ret ?_ | refine bk_exit ?_ | refine bk_other rfl ?_)
  exact ⟨j, by omega, z - 1, by omega, rfl, hz1, by simp [put_app, put_none, *]⟩
 ·have h0 : ¬ 0 ≤ z := by simpa using hb
  replace hz : z = (k : Int) - 1 := hz
  obtain rfl : k = 0 := by omega
  clear hb h0
  rw [List.drop_zero] at g3
  refine goM ?_
  exact end_1 (by first | exact .inl rfl | exact .inr rfl) ⟨rfl, List.prefix_refl _⟩
theorem refGet_good (H : Heap) (ws vs : List Int) (r m t : Int) (hm : chkMay ws vs r m t = true) :
  ∃ w H', Call Tryz.prog 46 [.str (strOf (putL ws vs r m t))] H w H' ∧ ∃ a b, w = .tup [.agg (chkC a b r m t), .int .i64 0] ∧ Mem H H' [.own 1 intC b vs, .own 1 intC a ws] := by
 obtain ⟨hvw, hvv, hlv, hlw1, hhm, ht0, ht1⟩ := chkMay_split hm
 have hlw := vecMay_len hvw
 simp only [hyperMay, Bool.and_eq_true, within_iff] at hhm
 obtain ⟨n, hn⟩ : ∃ n, ws.length = n := ⟨_, rfl⟩
 obtain ⟨S, hS⟩ : ∃ S, putL ws vs r m t = S := ⟨_, rfl⟩
 have hok : okB S := hS ▸ okB_put ws vs r m t
 have hSl : S.length = 10 + 8 * n := by rw [← hS, ← hn]; exact putL_len hlv
 have hS0 : S[0]? = some (n : Int) := by
  have := putL_first ws vs r m t
  rw [hS, hn, lowK_plain (by omega) (by omega)] at this
  exact this
 have hS9 : S[9 + 8 * n]? = some t := by
  have := putL_last (ws := ws) (vs := vs) (r := r) (m := m) (t := t) hlv
  rw [hS, hn, lowK_plain (by omega) (by omega)] at this
  exact this
 have hSw : ∀ (k : Nat) x, ws[k]? = some x → (S.drop (1 + 4 * k)).take 4 = lowL x 4 := fun k x hx => by
  rw [← hS]
  exact putL_at (by rw [List.getElem?_append_left (List.getElem?_eq_some_iff.1 hx).1]; exact hx)
 have hSv : ∀ (k : Nat) x, vs[k]? = some x → (S.drop (1 + 4 * n + 4 * k)).take 4 = lowL x 4 := fun k x hx => by
  rw [← hS, show 1 + 4 * n + 4 * k = 1 + 4 * (n + k) by omega]
  refine putL_at ?_
  rw [List.getElem?_append_right (by omega), hn, Nat.add_sub_cancel_left, List.getElem?_append_left (List.getElem?_eq_some_iff.1 hx).1]
  exact hx
 have hSr : (S.drop (1 + 8 * n)).take 4 = lowL r 4 := by
  rw [← hS, show 1 + 8 * n = 1 + 4 * (n + n) by omega]
  refine putL_at ?_
  rw [List.getElem?_append_right (by omega), List.getElem?_append_right (by omega), show n + n - ws.length - vs.length = 0 by omega]; rfl
 have hSm : (S.drop (5 + 8 * n)).take 4 = lowL m 4 := by
  rw [← hS, show 5 + 8 * n = 1 + 4 * (n + n + 1) by omega]
  refine putL_at ?_
  rw [List.getElem?_append_right (by omega), List.getElem?_append_right (by omega), show n + n + 1 - ws.length - vs.length = 1 by omega]; rfl
 have hlen := str_len S
 rw [hSl] at hlen
 have hsame := str_same (strOf S)
 have w8 : IntKind.i64.wrap (8 * (n : Int)) = 8 * (n : Int) := wrap_i64 (by omega) (by omega)
 have w10 : IntKind.i64.wrap (10 + 8 * (n : Int)) = ((10 + 8 * n : Nat) : Int) := by rw [wrap_i64 (by omega) (by omega)]; omega
 have wn : IntKind.i64.wrap (n : Int) = n := wrap_nat (by omega)
 have dlt : decide (((10 + 8 * n : Nat) : Int) < 1) = false := decide_eq_false (by omega)
 refine call_mem fit mixed Tryz.func46 rfl rfl rfl (by kernel_rfl) fun hM => ?_
 refine wq_seq (wq_line ?_)
 refine l_newM (cs := zeroChk) T45 rfl fun b1 H1 hM => ?_
 rw [hS]
 repeat (first | refine l_step (s_strIdx 0 eLk eLk rfl hok hS0) ?_ | refine l_newM (cs := zeroChk) T45 rfl (fun b2 H2 hM => ?_) | (refine l_pl ?_; refine l_goM ?_) | (refine d_pl ?_; refine d_goM ?_) | (refine l_gd ?_; first | refine l_onG ?_ | refine l_offG ?_ | refine l_offU ?_) | (refine d_gd ?_; first | refine d_onG ?_ | refine d_offG ?_ | refine d_offU ?_) | (refine cond_pl ?_; first | refine cond_yes ?_ | refine cond_no ?_) | refine wq_seq ?_ | refine wq_line ?_ | refine wq_draw (by decide +kernel) ?_ | refine wq_block ?_ | refine l_nil ?_ | refine d_nil ?_ | refine wq_skip ?_ | refine wq_ret ?_ | refine wq_exit ?_ | refine th_normal ?_ | refine th_ret ?_ | refine th_exit ?_ | refine bk_normal ?_ | refine bk_ret ?_ | refine bk_exit ?_ | refine bk_other rfl ?_)
 replace hM := (hM.nil 1 intC).nil 1 intC
 refine wq_loop (fun c ρ hp => ∃ (k : Nat) (a b : V), k ≤ n ∧ c = n - k ∧ Mem H hp [.own 1 intC b (vs.take k), .own 1 intC a (ws.take k), .box b2 [a, b, .int .i64 0, .int .i64 0, .int .i64 0], .box b1 zeroChk] ∧ ρ 0 = .str (strOf S) ∧ ρ 2 = .ptr b1 0 ∧ ρ 4 = .int .i64 (n : Int) ∧ ρ 5 = .ptr b2 0 ∧ ρ 6 = .int .i64 (k : Int)) ⟨0, .nils, .nils, Nat.zero_le _, rfl, hM, rfl, rfl, rfl, rfl, rfl⟩ ?_
 clear hM dlt
 rintro _ ρ hp ⟨k, a, b, hk, rfl, hM, g0, g2, g4, g5, g6⟩
 refine goM ?_
 refine cond_go (fun hb => ?_) (fun hb => ?_)
 ·have hk' : k < n := by simpa using hb
  clear hb
  obtain ⟨x, hx⟩ : ∃ x, ws[k]? = some x := ⟨ws[k]'(by omega), by simp⟩
  obtain ⟨y, hy⟩ : ∃ x, vs[k]? = some x := ⟨vs[k]'(by omega), by simp⟩
  have e1 := hSw k x hx
  have e2 := hSv k y hy
  have mx := vecMay_at hvw hx
  have my := vecMay_at hvv hy
  have q1 : IntKind.i64.wrap (4 * (k : Int)) = ((4 * k : Nat) : Int) := by rw [wrap_i64 (by omega) (by omega)]; omega
  have q2 : IntKind.i64.wrap (1 + ((4 * k : Nat) : Int)) = ((1 + 4 * k : Nat) : Int) := by rw [wrap_i64 (by omega) (by omega)]; omega
  have q3 : IntKind.i64.wrap (5 + ((4 * k : Nat) : Int)) = ((5 + 4 * k : Nat) : Int) := by rw [wrap_i64 (by omega) (by omega)]; omega
  have q4 : IntKind.i64.wrap (4 * (n : Int)) = ((4 * n : Nat) : Int) := by rw [wrap_i64 (by omega) (by omega)]; omega
  have q5 : IntKind.i64.wrap (((4 * n : Nat) : Int) + 1) = ((4 * n + 1 : Nat) : Int) := by rw [wrap_i64 (by omega) (by omega)]; omega
  have q5' : IntKind.i64.wrap (1 + ((4 * n : Nat) : Int)) = ((1 + 4 * n : Nat) : Int) := by rw [wrap_i64 (by omega) (by omega)]; omega
  have q6 : IntKind.i64.wrap (5 + ((4 * n : Nat) : Int)) = ((5 + 4 * n : Nat) : Int) := by rw [wrap_i64 (by omega) (by omega)]; omega
  have q7 : IntKind.i64.wrap (((1 + 4 * n : Nat) : Int) + ((4 * k : Nat) : Int)) = ((1 + 4 * n + 4 * k : Nat) : Int) := by rw [wrap_i64 (by omega) (by omega)]; omega
  have q8 : IntKind.i64.wrap (((5 + 4 * n : Nat) : Int) + ((4 * k : Nat) : Int)) = ((5 + 4 * n + 4 * k : Nat) : Int) := by rw [wrap_i64 (by omega) (by omega)]; omega
  have n1 := num_signed mx
  have n2 := num_signed my
  have hs1 : ws.take (k + 1) = ws.take k ++ [x] := by rw [List.take_add_one, hx]; rfl
  have hs2 : vs.take (k + 1) = vs.take k ++ [y] := by rw [List.take_add_one, hy]; rfl
  have hwk := wrap_succ (n := k) (by omega)
  have c1 := fun hp => numOf_ hp (lowL x 4) (okB_low x 4) (by rw [lowL_len]; omega)
  have c2 := fun hp => numOf_ hp (lowL y 4) (okB_low y 4) (by rw [lowL_len]; omega)
  have d1 : (S.drop (1 + 4 * k)).take (5 + 4 * k - (1 + 4 * k)) = lowL x 4 := by rw [show 5 + 4 * k - (1 + 4 * k) = 4 by omega]; exact e1
  have d2 : (S.drop (1 + 4 * n + 4 * k)).take (5 + 4 * n + 4 * k - (1 + 4 * n + 4 * k)) = lowL y 4 := by rw [show 5 + 4 * n + 4 * k - (1 + 4 * n + 4 * k) = 4 by omega]; exact e2
  clear hx hy mx my e1 e2 hSw hSv hSr hSm hS0 hS9
  have sa := (hM.sl (.there .here)).cells
  have sb := (hM.sl .here).cells
  refine goM ?_
  refine d_step (s_strCut (1 + 4 * k) (5 + 4 * k) eLk eLk eLk (bound_at _ rfl (by omega)) (bound_at _ rfl (by rw [hSl]; omega))) ?_
  rw [d1]
  refine goM ?_
  refine d_call0G (c1 _) ?_
  refine goM ?_
  refine d_sliceM intC [x] [.int .i64 x] T27 rfl T3 rfl (Cells.one (sz := 1) rfl rfl) (by decide) fun e1 H2 hM => ?_
  refine goM ?_
  refine d_appM (hM.sl .here) (xs := ws.take k) (hh := .there (.there .here)) (hb := by rw [List.length_take]; simp only [List.length_cons, List.length_nil]; omega) fun a' H3 hM => ?_
  have sa' := (hM.sl (.there (.there .here))).cells
  rw [← hs1] at hM
  refine goM ?_
  refine d_putM T27 fun H4 hM => ?_
  refine goM ?_
  refine d_step (s_strCut (1 + 4 * n + 4 * k) (5 + 4 * n + 4 * k) eLk eLk eLk (bound_at _ rfl (by omega)) (bound_at _ rfl (by rw [hSl]; omega))) ?_
  rw [d2]
  refine goM ?_
  refine d_call0G (c2 _) ?_
  refine goM ?_
  refine d_sliceM intC [y] [.int .i64 y] T27 rfl T3 rfl (Cells.one (sz := 1) rfl rfl) (by decide) fun e2 H5 hM => ?_
  refine goM ?_
  refine d_appM (hM.sl .here) (xs := vs.take k) (hh := .there (.there .here)) (hb := by rw [List.length_take]; simp only [List.length_cons, List.length_nil]; omega) fun b' H6 hM => ?_
  have sb' := (hM.sl (.there (.there .here))).cells
  rw [← hs2] at hM
  refine goM ?_
  refine d_putM T27 fun H7 hM => ?_
  refine goM ?_
  exact ⟨n - (k + 1), by omega, k + 1, a', b', hk', rfl, hM.subG, by simp [put_app, put_none, *]⟩
 ·have hk' : k = n := by have : ¬ k < n := by simpa using hb
                         omega
  subst hk'
  clear hb
  rw [List.take_of_length_le (by omega), List.take_of_length_le (by omega)] at hM
  have q1 : IntKind.i64.wrap (1 + 8 * (k : Int)) = ((1 + 8 * k : Nat) : Int) := by rw [wrap_i64 (by omega) (by omega)]; omega
  have q2 : IntKind.i64.wrap (((1 + 8 * k : Nat) : Int) + 4) = ((5 + 8 * k : Nat) : Int) := by rw [wrap_i64 (by omega) (by omega)]; omega
  have q3 : IntKind.i64.wrap (((1 + 8 * k : Nat) : Int) + 8) = ((9 + 8 * k : Nat) : Int) := by rw [wrap_i64 (by omega) (by omega)]; omega
  have wt : IntKind.i64.wrap t = t := wrap_i64 (by omega) (by omega)
  have d1 : (S.drop (1 + 8 * k)).take (5 + 8 * k - (1 + 8 * k)) = lowL r 4 := by rw [show 5 + 8 * k - (1 + 8 * k) = 4 by omega]; exact hSr
  have d2 : (S.drop (5 + 8 * k)).take (9 + 8 * k - (5 + 8 * k)) = lowL m 4 := by rw [show 9 + 8 * k - (5 + 8 * k) = 4 by omega]; exact hSm
  have c1 := fun hp => numOf_ hp (lowL r 4) (okB_low r 4) (by rw [lowL_len]; omega)
  have c2 := fun hp => numOf_ hp (lowL m 4) (okB_low m 4) (by rw [lowL_len]; omega)
  rw [num_plain (by omega) (by omega)] at c1 c2
  have sa := (hM.sl (.there .here)).cells
  have sb := (hM.sl .here).cells
  have c3 : ∀ hp, Sl 1 intC hp a ws → Sl 1 intC hp b vs → Call Tryz.prog 90 [.agg (chkC a b r m t)] hp (.tup [.str (strOf S), .int .i64 0]) hp := fun hp ha hb => by
   rw [← hS]; exact refPut_good hp a b ws vs r m t ha hb hm
  clear hSw hSv hSr hSm hS0 hhm hm hvw hvv
  refine goM ?_
  refine d_step (s_strCut (1 + 8 * k) (5 + 8 * k) eLk eLk eLk (bound_at _ rfl (by omega)) (bound_at _ rfl (by rw [hSl]; omega))) ?_
  rw [d1]
  refine goM ?_
  refine d_call0G (c1 _) ?_
  refine goM ?_
  refine d_step (s_strCut (5 + 8 * k) (9 + 8 * k) eLk eLk eLk (bound_at _ rfl (by omega)) (bound_at _ rfl (by rw [hSl]; omega))) ?_
  rw [d2]
  refine goM ?_
  refine d_call0G (c2 _) ?_
  refine goM ?_
  refine d_putM T43 fun H2 hM => ?_
  repeat (first | refine l_step (s_strIdx (9 + 8 * k) eLk eLk rfl hok hS9) ?_ | (refine l_pl ?_; refine l_goM ?_) | (refine d_pl ?_; refine d_goM ?_) | (refine l_gd ?_; first | refine l_onG ?_ | refine l_offG ?_ | refine l_offU ?_) | (refine d_gd ?_; first | refine d_onG ?_ | refine d_offG ?_ | refine d_offU ?_) | (refine cond_pl ?_; first | refine cond_yes ?_ | refine cond_no ?_) | refine wq_seq ?_ | refine wq_line ?_ | refine wq_draw (by decide +kernel) ?_ | refine wq_block ?_ | refine l_nil ?_ | refine d_nil ?_ | refine wq_skip ?_ | refine wq_ret ?_ | refine wq_exit ?_ | refine th_normal ?_ | refine th_ret ?_ | refine th_exit ?_ | refine bk_normal ?_ | refine bk_ret ?_ | refine bk_exit ?_ | refine bk_other rfl ?_)
  refine l_putM T3 fun H3 hM => ?_
  refine goM ?_
  refine l_callG (c3 _ (hM.slG) (hM.slG)) ?_
  repeat (first | (refine l_gd ?_; refine l_onG ?_; refine l_step (s_bin eLk eLk hsame) ?_) | (refine l_pl ?_; refine l_goM ?_) | (refine d_pl ?_; refine d_goM ?_) | (refine l_gd ?_; first | refine l_onG ?_ | refine l_offG ?_ | refine l_offU ?_) | (refine d_gd ?_; first | refine d_onG ?_ | refine d_offG ?_ | refine d_offU ?_) | (refine cond_pl ?_; first | refine cond_yes ?_ | refine cond_no ?_) | refine wq_seq ?_ | refine wq_line ?_ | refine wq_draw (by decide +kernel) ?_ | refine wq_block ?_ | refine l_nil ?_ | refine d_nil ?_ | refine wq_skip ?_ | refine wq_ret ?_ | refine wq_exit ?_ | refine th_normal ?_ | refine th_ret ?_ | refine th_exit ?_ | refine bk_normal ?_ | refine bk_ret ?_ | refine bk_exit ?_ | refine bk_other rfl ?_)
  refine l_putM T45 fun H4 hM => ?_
  refine goM ?_
  exact end_2 (by first | exact .inl rfl | exact .inr rfl) ⟨a, b, rfl, hM.subG⟩
theorem wq_meetU {P : Program} {T : Tab} {c : Code} {n : Rho → Heap → Prop} {Q : Exit → Rho → Heap → Prop} {ρ : Rho} {h : Heap} (I : Rho → Heap → Prop) (h1 : wq P T c (Th I fun _ _ _ => False) ρ h) (h2 : ∀ ρ h, I ρ h → n ρ h) : wq P T c (Th n Q) ρ h :=
 wq_mono c (fun x ρ h hx => by
  cases x with
  | normal => simp only [Th] at hx; exact th_normal (h2 ρ h hx)
  | _ => simp only [Th] at hx) h1
theorem getK_ (H : Heap) {c : Cfg} {k : Chk} (hk : kFits c k = true) : ∃ w H', Call Tryz.prog 46 [.str (textK k)] H w H' ∧ ∃ a b, w = .tup [.agg (kC a b k), .int .i64 0] ∧ Mem H H' [.own 1 intC b k.vs, .own 1 intC a k.ws] := by
 unfold kFits memFits at hk
 rw [Bool.and_eq_true] at hk
 exact refGet_good H k.ws k.vs k.r k.m k.t hk.1
theorem law_topStore {D : Type} (K : Heap) (vs : List V) (ds : List (DataW D)) (ro : Ro K) (h : RdAll T K [26, 27, 3] vs ds) : ∃ K', Call Tryz.prog 13 vs K (.bool true) K' := by
 obtain ⟨v1, vs, d1, ds, rfl, rfl, hv1, h⟩ := rdAll_cons h
 obtain ⟨v2, vs, d2, ds, rfl, rfl, hv2, h⟩ := rdAll_cons h
 obtain ⟨v3, vs, d3, ds, rfl, rfl, hv3, h⟩ := rdAll_cons h
 obtain ⟨rfl, rfl⟩ := rdAll_nil h
 obtain ⟨c, rv, rfl, hr, cf⟩ := rd_config hv1
 obtain ⟨ps, hps, hpl⟩ := rd_ints hv2
 obtain ⟨sw, rfl, _⟩ := hv3.int T3 rfl
 clear hv1 hv2 hv3 h
 replace hpl : ps.length * 8 ≤ 140737488351232 := Nat.le_trans hpl (by decide)
 have l1 := cf.rows
 have l2 := cf.row
 have s3 : rv.cells = [rv] ∧ rv.isTup = false := by obtain ⟨_, h, _⟩ := hr; exact h.cells
 have hlen := hps.len T27 rfl
 obtain ⟨n, hn⟩ : ∃ n, ps.length = n := ⟨_, rfl⟩
 rw [hn] at hlen hpl
 refine ⟨K, ?_⟩
 refine call_pure fit mixed Tryz.func13 rfl rfl rfl (by kernel_rfl) rfl fun hM => ?_
 refine wq_seq (wq_line ?_)
 refine l_boxM T26 fun b3 H1 hM => ?_
 refine goM ?_
 refine l_callG (awakeT_ _) ?_
 cases hc : cfgMay c with
 | false =>
  have hne := newR_not hc
  refine goM ?_
  obtain ⟨_, H2, c1, q0, rfl, k0, m1⟩ := newQ_ hne H1 rv (hr.mono hM.pre) cf
  refine l_callG c1 ?_
  replace hM := hM.call1 m1
  clear c1 m1 hne
  refine goM ?_
  refine l_newM (cs := zeroSt) T33 rfl fun b7 H3 hM => ?_
  refine l_putM T33 fun H4 hM => ?_
  have c1 := refConfMay_ H4 c rv (hr.mono hM.pre) (by omega) (fun r hr => by have := l2 r hr; omega)
  rw [hc] at c1
  clear hc
  refine goM ?_
  refine l_callG c1 ?_
  refine goM ?_
  exact end_1 (by first | exact .inl rfl | exact .inr rfl) ⟨rfl, hM.pre⟩
 | true =>
  have hne := newR_may hc
  have hR := runSt_new hc
  obtain ⟨⟨hm2, hm8⟩, _⟩ := cfgMay_split hc
  obtain ⟨m, hcm⟩ : ∃ m : Nat, c.m = m := ⟨c.m.toNat, by omega⟩
  have hm8' : m ≤ 8 := by omega
  replace hcm : Held (c.m = m) := hcm
  clear hm2 hm8 l1 l2
  refine goM ?_
  obtain ⟨_, H2, c1, q0, rfl, k0, m1⟩ := newQ_ hne H1 rv (hr.mono hM.pre) cf
  refine l_callG c1 ?_
  replace hM := hM.call1 m1
  clear c1 m1 hne hc
  refine goM ?_
  refine l_newM (cs := zeroSt) T33 rfl fun b7 H3 hM => ?_
  refine l_putM T33 fun H4 hM => ?_
  have hM0 : Mem K H4 [.box b7 (q0.c (newS c)), q0.own (newS c), .box b3 (cfgC c rv)] := hM.subG
  refine goM ?_
  refine wq_meet (fun ρ h => ∃ (s : St) (q : SV), RunSt c s ∧ q.Ok s ∧ Mem K h [.box b7 (q.c s), q.own s, .box b3 (cfgC c rv)] ∧ ρ 7 = .ptr b7 0) ?_ ?_
  ·refine wq_loop (fun cc ρ h => ∃ (k : Nat) (s : St) (q : SV), k ≤ n ∧ cc = n - k ∧ RunSt c s ∧ q.Ok s ∧ Mem K h [.box b7 (q.c s), q.own s, .box b3 (cfgC c rv)] ∧ ρ 1 = v2 ∧ ρ 2 = .int .i64 sw ∧ ρ 3 = .ptr b3 0 ∧ ρ 7 = .ptr b7 0 ∧ ρ 9 = .int .i64 (k : Int)) ⟨0, newS c, q0, Nat.zero_le _, rfl, hR, k0, hM0, by simp [put_app, put_none, rho0_app, *]⟩ ?_
   repeat clear hM
   clear hM0 hR k0
   rintro _ ρ h ⟨k, s, q, hk, rfl, hrs, hq, hM, g1, g2, g3, g7, g9⟩
   have sf := run_fit cf hrs
   by_cases hlt : k < n ∧ k < 40
   ·have dk1 : decide ((k : Int) < (n : Int)) = true := decide_eq_true (by omega)
    have dk2 : decide ((k : Int) < 40) = true := decide_eq_true (by omega)
    obtain ⟨x, hx⟩ : ∃ x, ps[k]? = some x := ⟨ps[k]'(by omega), by simp⟩
    obtain ⟨bo, oo, _, ji, rfl, _, jlo, _⟩ := (hps.mono hM.pre).get T27 rfl T3 rfl hx
    have jl := loadV_one T3 rfl jlo
    have hw := wrap_succ (n := k) (by omega)
    have hkn : k < n := hlt.1
    clear jlo hx hlt
    rcases doR_cases s x with ⟨p, o, rfl, pk, hd⟩ | ⟨e, hne, hd⟩
    ·have hrs2 := runSt_do hrs pk
     clear pk
     generalize doS s p = s2 at *
     have sf2 := run_fit cf hrs2
     refine goM ?_
     obtain ⟨_, H6, c1, q2, rfl, k2, m1⟩ := doP_ hd h (hq.at_ hM) sf
     refine d_callG c1 (.inl m1.pre) ?_
     replace hM := hM.call1 m1
     clear c1 m1 hd jl ji
     refine goM ?_
     refine d_newM (cs := zeroSt) T33 rfl fun b10 H7 hM => ?_
     refine d_putM T33 fun H8 hM => ?_
     refine goM ?_
     refine l_callG (num_ _ _) ?_
     obtain ⟨y, hy, hy0, hy1⟩ := and_mask (k : Int) 31 (by decide) (by decide)
     replace hy : IntKind.i64.wrap ((BitVec.ofInt IntKind.i64.bits (k : Int) &&& BitVec.ofInt IntKind.i64.bits 31).toNat : Int) = y := hy
     have hyn : (y < 0) = False := eq_false (by omega)
     clear hy0 hy1
     refine goM ?_
     refine wq_meetU (fun ρ h => ∃ (a : St) (qa : SV), RunSt c a ∧ qa.Ok a ∧ Mem K h [.box b10 (qa.c a), qa.own a, .box b7 (q.c s), .box b3 (cfgC c rv)] ∧ ρ 1 = v2 ∧ ρ 2 = .int .i64 sw ∧ ρ 3 = .ptr b3 0 ∧ ρ 7 = .ptr b7 0 ∧ ρ 9 = .int .i64 (k : Int) ∧ ρ 10 = .ptr b10 0) ?_ ?_
     ·refine cond_go (fun hb => ?_) (fun hb => ?_)
      ·have hsw := sweepR_may (of_stOk hrs2.ok)
       have hrs3 := runSt_swept hrs2
       have hfew := swept_few hrs2.ok
       have hml3 := run_len hrs3
       have hml2 := run_len hrs2
       generalize sweptS s2 = s4 at *
       refine goM ?_
       obtain ⟨_, H9, c1, q4, rfl, k4, m1⟩ := sweepQ_ hsw H8 (k2.at_ hM) sf2
       refine l_callG c1 ?_
       replace hM := hM.call1 m1
       clear c1 m1 hsw hb
       refine goM ?_
       refine l_newM (cs := zeroSt) T33 rfl fun b12 H10 hM => ?_
       refine l_putM T33 fun H11 hM => ?_
       have hat := k4.at_ hM
       have e1 := hat.ms.len T29 rfl
       rw [hat.len, hml3] at e1
       have e2 := hat.st.len T31 rfl
       have hcc : (c.m != c.m) = false := by simp
       have hgt : decide ((s4.st.length : Int) > c.m) = false := decide_eq_false (by omega)
       clear hat hml2 hml3 hfew
       refine goM ?_
       refine l_callG (num_ _ _) ?_
       refine goM ?_
       refine l_putM T33 (b := b10) (cs := q2.c s2) fun H12 hM => ?_
       refine goM ?_
       exact ⟨s4, q4, hrs3, k4, ((((hM.front (r := .box b3 (cfgC c rv)) (by (repeat (first | exact Take.here | apply Take.there)))).front (r := .box b7 (q.c s)) (by (repeat (first | exact Take.here | apply Take.there)))).front (r := q4.own s4) (by (repeat (first | exact Take.here | apply Take.there)))).front (r := .box b10 (q4.c s4)) (by (repeat (first | exact Take.here | apply Take.there)))).sub (by (repeat (first | exact List.Sublist.slnil | exact List.Sublist.refl _ | refine List.Sublist.cons_cons _ ?_ | refine List.Sublist.cons _ ?_))), by simp [put_app, put_none, *]⟩
      ·clear hb
       refine goM ?_
       exact ⟨s2, q2, hrs2, k2, ((((hM.front (r := .box b3 (cfgC c rv)) (by (repeat (first | exact Take.here | apply Take.there)))).front (r := .box b7 (q.c s)) (by (repeat (first | exact Take.here | apply Take.there)))).front (r := q2.own s2) (by (repeat (first | exact Take.here | apply Take.there)))).front (r := .box b10 (q2.c s2)) (by (repeat (first | exact Take.here | apply Take.there)))).sub (by (repeat (first | exact List.Sublist.slnil | exact List.Sublist.refl _ | refine List.Sublist.cons_cons _ ?_ | refine List.Sublist.cons _ ?_))), by simp [put_app, put_none, *]⟩
     ·repeat clear hM
      clear g1 g2 g3 g7 g9 hy hyn k2 sf2 hrs2
      rintro ρ h ⟨a, qa, hra, ka, hM, g1, g2, g3, g7, g9, g10⟩
      have hml := run_len hra
      have af := run_fit cf hra
      have hat := ka.at_ hM
      have e1 := hat.ms.len T29 rfl
      rw [hat.len, hml] at e1
      have hcc : (c.m != c.m) = false := by simp
      have hstl := hra.ok.st.len
      have hhead := hra.ok.head
      have hfits := hra.ok.fits
      have hac := hra.c
      have hml' : a.ms.length = m := by have : c.m = (m : Int) := hcm; omega
      clear hat hml hac
      refine goM ?_
      refine wq_meet (fun ρ h => Mem K h [.box b10 (qa.c a), qa.own a, .box b7 (q.c s), .box b3 (cfgC c rv)] ∧ ρ 1 = v2 ∧ ρ 2 = .int .i64 sw ∧ ρ 3 = .ptr b3 0 ∧ ρ 7 = .ptr b7 0 ∧ ρ 9 = .int .i64 (k : Int) ∧ ρ 10 = .ptr b10 0) ?_ ?_
      ·refine wq_loop (fun cc ρ h => ∃ (j : Nat), j ≤ m ∧ cc = m - j ∧ Mem K h [.box b10 (qa.c a), qa.own a, .box b7 (q.c s), .box b3 (cfgC c rv)] ∧ ρ 1 = v2 ∧ ρ 2 = .int .i64 sw ∧ ρ 3 = .ptr b3 0 ∧ ρ 7 = .ptr b7 0 ∧ ρ 9 = .int .i64 (k : Int) ∧ ρ 10 = .ptr b10 0 ∧ ρ 14 = .int .i64 (j : Int)) ⟨0, Nat.zero_le _, rfl, hM, by simp [put_app, put_none, *]⟩ ?_
       repeat clear hM
       clear g1 g2 g3 g7 g9 g10
       rintro _ ρ h ⟨j, hj, rfl, hM, g1, g2, g3, g7, g9, g10, g14⟩
       by_cases hj' : j < m
       ·have dj : decide ((j : Int) < c.m) = true := decide_eq_true (by have : c.m = (m : Int) := hcm; omega)
        have hwj := wrap_succ (n := j) (by omega)
        obtain ⟨mj, hmj⟩ : ∃ mj, a.ms[j]? = some mj := ⟨a.ms[j]'(by omega), by simp⟩
        have hat := ka.at_ hM
        obtain ⟨z, hz, hzv⟩ := val_at hat.val hmj
        have hzk : z.k = mj.1 := congrArg Prod.fst hzv
        have hzh : z.h = mj.2 := congrArg Prod.snd hzv
        have hgs := hhead mj (List.mem_of_getElem? hmj)
        have hkf := hfits mj (List.mem_of_getElem? hmj)
        obtain ⟨bz, oz, hi, _⟩ := mr_at hat.ms hz
        obtain ⟨_, _, _, lo5⟩ := mr_in hat.ms hi hz
        have c2 := refGet15_ h qa.sv a.st z.h hat.st (by omega)
        rw [hzh, hgs] at c2
        rw [hzh] at lo5
        obtain ⟨_, H7, c3, u, w, rfl, m2⟩ := getK_ h hkf
        have s4 := (m2.sl .here).cells
        have s5 := (m2.sl (.there .here)).cells
        clear hat hgs hmj
        refine goM ?_
        refine d_call0G c2 ?_
        refine goM ?_
        refine l_callG c3 ?_
        replace hM := hM.call2 m2
        clear c2 c3 m2
        refine goM ?_
        refine l_newM (cs := zeroChk) T45 rfl fun b17 H8 hM => ?_
        refine l_putM T45 fun H9 hM => ?_
        have hat := ka.at_ hM
        obtain ⟨lo1, _⟩ := mr_in hat.ms hi hz
        have c1 := sameK_ H9 u w z.w z.v mj.1 z.k ⟨hM.sl (v := u) (xs := mj.1.ws) (by (repeat (first | exact Has.here | apply Has.there))), hM.sl (v := w) (xs := mj.1.vs) (by (repeat (first | exact Has.here | apply Has.there)))⟩ (hat.ks z (List.mem_of_getElem? hz)) (kFits_fit hkf)
        rw [hzk, kEq_self] at c1
        rw [hzk] at lo1
        clear hat hz hzv hzk hzh lo5 hkf
        refine goM ?_
        refine d_call0G c1 ?_
        refine goM ?_
        exact ⟨m - (j + 1), by omega, j + 1, hj', rfl, hM.subG, by simp [put_app, put_none, *]⟩
       ·have dj : decide ((j : Int) < c.m) = false := decide_eq_false (by have : c.m = (m : Int) := hcm; omega)
        refine goM ?_
        exact ⟨hM, by simp [put_app, put_none, *]⟩
      ·repeat clear hM
       clear g1 g2 g3 g7 g9 g10
       rintro ρ h ⟨hM, g1, g2, g3, g7, g9, g10⟩
       refine goM ?_
       refine l_putM T33 (b := b7) (cs := q.c s) fun H12 hM => ?_
       refine goM ?_
       exact ⟨n - (k + 1), by omega, k + 1, a, qa, by omega, rfl, hra, ka, ((hM.front (r := qa.own a) (by (repeat (first | exact Take.here | apply Take.there)))).front (r := .box b7 (qa.c a)) (by (repeat (first | exact Take.here | apply Take.there)))).sub (by (repeat (first | exact List.Sublist.slnil | exact List.Sublist.refl _ | refine List.Sublist.cons_cons _ ?_ | refine List.Sublist.cons _ ?_))), by simp [put_app, put_none, *]⟩
    ·have hee : (e != 0) = true := by simpa using hne
     clear hne
     refine goM ?_
     obtain ⟨_, H6, c1, q2, rfl, k2, m1⟩ := doP_ hd h (hq.at_ hM) sf
     refine d_callG c1 (.inl m1.pre) ?_
     replace hM := hM.call1 m1
     clear c1 m1 hd
     refine goM ?_
     refine d_newM (cs := zeroSt) T33 rfl fun b10 H7 hM => ?_
     refine d_putM T33 fun H8 hM => ?_
     refine goM ?_
     refine l_callG (num_ _ _) ?_
     refine goM ?_
     exact ⟨n - (k + 1), by omega, k + 1, s, q, by omega, rfl, hrs, hq, hM.subG, by simp [put_app, put_none, *]⟩
   ·by_cases hk1 : k < n
    ·have dk1 : decide ((k : Int) < (n : Int)) = true := decide_eq_true (by omega)
     have dk2 : decide ((k : Int) < 40) = false := decide_eq_false (by omega)
     clear hlt hk1
     refine goM ?_
     exact ⟨s, q, hrs, hq, hM, by simp [put_app, put_none, *]⟩
    ·have dk1 : decide ((k : Int) < (n : Int)) = false := decide_eq_false (by omega)
     clear hlt hk1
     refine goM ?_
     exact ⟨s, q, hrs, hq, hM, by simp [put_app, put_none, *]⟩
  ·repeat clear hM
   clear hM0 hR k0
   rintro ρ h ⟨s, q, hrs, hq, hM, g7⟩
   have sf := run_fit cf hrs
   have hsw := sweepR_may (of_stOk hrs.ok)
   have hheld : ∀ e ∈ (sweptS s).st, ((sweptS s).ms.any fun m => decide (m.2 = e.id)) = true := fun e he => by
    obtain ⟨m', h1, h2⟩ := swept_held hrs.ok he
    rw [List.any_eq_true]
    exact ⟨m', h1, by simpa using h2⟩
   have hrb := runSt_swept hrs
   generalize sweptS s = b at *
   have hbl := run_len hrb
   have hbst := hrb.ok.st.len
   refine goM ?_
   obtain ⟨_, H5, c1, qb, rfl, kb, m1⟩ := sweepQ_ hsw h (hq.at_ hM) sf
   refine l_callG c1 ?_
   replace hM := hM.call1 m1
   clear c1 m1 hsw hrs hrb
   refine goM ?_
   refine l_newM (cs := zeroSt) T33 rfl fun b19 H6 hM => ?_
   refine l_putM T33 fun H7 hM => ?_
   refine goM ?_
   refine l_callG (num_ _ _) ?_
   have hM1 : Mem K H7 [.box b19 (qb.c b), qb.own b] := hM.subG
   obtain ⟨N, hN⟩ : ∃ N, b.st.length = N := ⟨_, rfl⟩
   obtain ⟨M, hMl⟩ : ∃ M, b.ms.length = M := ⟨_, rfl⟩
   have hM8 : M ≤ 8 := by have : c.m = (m : Int) := hcm; omega
   rw [hN] at hbst
   clear hbl
   refine goM ?_
   refine wq_loop (fun cc ρ h => ∃ (i : Nat), i ≤ N ∧ cc = N - i ∧ Mem K h [.box b19 (qb.c b), qb.own b] ∧ ρ 19 = .ptr b19 0 ∧ ρ 21 = .int .i64 (i : Int)) ⟨0, Nat.zero_le _, rfl, hM1, by simp [put_app, put_none, *]⟩ ?_
   repeat clear hM
   clear hM1 g7
   rintro _ ρ h ⟨i, hi, rfl, hM, g19, g21⟩
   have hat := kb.at_ hM
   have e1 := hat.st.len T31 rfl
   rw [hN] at e1
   by_cases hi' : i < N
   ·have di : decide ((i : Int) < (N : Int)) = true := decide_eq_true (by omega)
    have hwi := wrap_succ (n := i) (by omega)
    obtain ⟨e, he⟩ : ∃ e, b.st[i]? = some e := ⟨b.st[i]'(by omega), by simp⟩
    have hany := hheld e (List.mem_of_getElem? he)
    clear hat
    refine goM ?_
    refine wq_meet (fun ρ h => Mem K h [.box b19 (qb.c b), qb.own b] ∧ ρ 19 = .ptr b19 0 ∧ ρ 21 = .int .i64 (i : Int) ∧ ρ 22 = .bool true) ?_ ?_
    ·refine wq_loop (fun cc ρ h => ∃ (j : Nat), j ≤ M ∧ cc = M - j ∧ Mem K h [.box b19 (qb.c b), qb.own b] ∧ ρ 19 = .ptr b19 0 ∧ ρ 21 = .int .i64 (i : Int) ∧ ρ 22 = .bool ((b.ms.take j).any fun m => decide (m.2 = e.id)) ∧ ρ 23 = .int .i64 (j : Int)) ⟨0, Nat.zero_le _, rfl, hM, by simp [put_app, put_none, *]⟩ ?_
     repeat clear hM
     clear g19 g21 e1
     rintro _ ρ h ⟨j, hj, rfl, hM, g19, g21, g22, g23⟩
     have hat := kb.at_ hM
     have e2 := hat.ms.len T29 rfl
     rw [hat.len, hMl] at e2
     by_cases hj' : j < M
     ·have dj : decide ((j : Int) < (M : Int)) = true := decide_eq_true (by omega)
      have hwj := wrap_succ (n := j) (by omega)
      obtain ⟨mj, hmj⟩ : ∃ mj, b.ms[j]? = some mj := ⟨b.ms[j]'(by omega), by simp⟩
      obtain ⟨z, hz, hzv⟩ := val_at hat.val hmj
      have hzh : z.h = mj.2 := congrArg Prod.snd hzv
      obtain ⟨bz, oz, hiz, _⟩ := mr_at hat.ms hz
      obtain ⟨_, _, _, lo5⟩ := mr_in hat.ms hiz hz
      obtain ⟨be, oe, hie, _, loe, _⟩ := ent_at hat.st he
      rw [hzh] at lo5
      have hsn : ((b.ms.take (j + 1)).any fun m => decide (m.2 = e.id)) = (((b.ms.take j).any fun m => decide (m.2 = e.id)) || decide (mj.2 = e.id)) := by
       rw [List.take_add_one, hmj, List.any_append]; simp
      have hd : (mj.2 == e.id) = decide (mj.2 = e.id) := by by_cases h : mj.2 = e.id <;> simp [h]
      clear hat hz hzv hzh hmj hany
      generalize ((b.ms.take j).any fun m => decide (m.2 = e.id)) = y at *
      cases y with
      | true =>
       refine goM ?_
       exact ⟨M - (j + 1), by omega, j + 1, hj', rfl, hM, by simp [put_app, put_none, *]⟩
      | false =>
       refine goM ?_
       exact ⟨M - (j + 1), by omega, j + 1, hj', rfl, hM, by simp [put_app, put_none, *]⟩
     ·have dj : decide ((j : Int) < (M : Int)) = false := decide_eq_false (by omega)
      rw [List.take_of_length_le (by omega), hany] at g22
      clear hat hany
      refine goM ?_
      exact ⟨hM, by simp [put_app, put_none, *]⟩
    ·repeat clear hM
     clear g19 g21 e1
     rintro ρ h ⟨hM, g19, g21, g22⟩
     refine goM ?_
     exact ⟨N - (i + 1), by omega, i + 1, hi', rfl, hM, by simp [put_app, put_none, *]⟩
   ·have di : decide ((i : Int) < (N : Int)) = false := decide_eq_false (by omega)
    clear hat
    refine goM ?_
    exact end_1 (by first | exact .inl rfl | exact .inr rfl) ⟨rfl, hM.pre⟩
end Go.Proofs.YtaofdhgkgklppaaGreat.VM
