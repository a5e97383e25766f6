/- Joined texts: Tab, NetA, NetB, RankB, RankC, IntA, RankD, RowA, RowB, RankE, RankF, RankG. -/
import Derived.Test.YtiekbfjmoemdgaaJR3
import Derived.Test.YtiekbfjmoemdgaaRows
import Derived.KernelRfl
/- The table of the types of this seat, printed by mktab.py. -/
namespace Go.Proofs.Ytiekbfjmoemdgaa.VM
open Go

def tabL : List (Option TI) := [
  none,
  none,
  some { k := .int .i64, size := 1, bytes := 8, zero := [.int .i64 0] },
  some { k := .int .i64, size := 1, bytes := 8, zero := [.int .i64 0] },
  some { k := .bool, size := 1, bytes := 1, zero := [.bool false] },
  some { k := .int .u8, size := 1, bytes := 1, zero := [.int .u8 0] },
  some { k := .int .u8, size := 1, bytes := 1, zero := [.int .u8 0] },
  some { k := .strct [(2, 0), (3, 1), (4, 2), (6, 3)], size := 4, bytes := 24, zero := [.int .i64 0, .int .i64 0, .bool false, .int .u8 0] },
  some { k := .strct [(2, 0), (3, 1), (4, 2), (6, 3)], size := 4, bytes := 24, zero := [.int .i64 0, .int .i64 0, .bool false, .int .u8 0] },
  some { k := .str, size := 1, bytes := 16, zero := [.str ByteArray.empty] },
  some { k := .str, size := 1, bytes := 16, zero := [.str ByteArray.empty] },
  some { k := .str, size := 1, bytes := 16, zero := [.str ByteArray.empty] },
  some { k := .int .u64, size := 1, bytes := 8, zero := [.int .u64 0] },
  some { k := .strct [(9, 0), (12, 1)], size := 2, bytes := 24, zero := [.str ByteArray.empty, .int .u64 0] },
  some { k := .strct [(9, 0), (12, 1)], size := 2, bytes := 24, zero := [.str ByteArray.empty, .int .u64 0] },
  some { k := .ptr, size := 1, bytes := 8, zero := [.nilp] },
  some { k := .ptr, size := 1, bytes := 8, zero := [.nilp] },
  some { k := .ptr, size := 1, bytes := 8, zero := [.nilp] },
  some { k := .strct [(17, 0)], size := 1, bytes := 8, zero := [.nilp] },
  some { k := .strct [(17, 0)], size := 1, bytes := 8, zero := [.nilp] },
  none,
  some { k := .int .i32, size := 1, bytes := 4, zero := [.int .i32 0] },
  some { k := .slice 3, size := 1, bytes := 24, zero := [.nils] },
  none,
  some { k := .int .i64, size := 1, bytes := 8, zero := [.int .i64 0] },
  none,
  none,
  none,
  none,
  none,
  none,
  none,
  none,
  none,
  some { k := .slice 22, size := 1, bytes := 24, zero := [.nils] },
  none,
  some { k := .slice 4, size := 1, bytes := 24, zero := [.nils] },
  some { k := .int .u64, size := 1, bytes := 8, zero := [.int .u64 0] },
  none,
  none,
  none,
  none,
  none,
  none,
  some { k := .arr 8 3, size := 8, bytes := 64, zero := List.replicate 8 (.int .i64 0) },
  none,
  none,
  none,
  none,
  none,
  none,
  none,
  none,
  none,
  none,
  none,
  none,
  some { k := .strct [(17, 0), (17, 1), (17, 2), (9, 3)], size := 4, bytes := 40, zero := [.nilp, .nilp, .nilp, .str ByteArray.empty] },
  some { k := .strct [(17, 0), (17, 1), (17, 2), (9, 3)], size := 4, bytes := 40, zero := [.nilp, .nilp, .nilp, .str ByteArray.empty] },
  some { k := .arr 0 16, size := 0, bytes := 0, zero := [] },
  some { k := .strct [(59, 0)], size := 0, bytes := 0, zero := [] },
  some { k := .strct [(59, 0)], size := 0, bytes := 0, zero := [] },
  none,
  some { k := .int .u32, size := 1, bytes := 4, zero := [.int .u32 0] },
  some { k := .int .u8, size := 1, bytes := 1, zero := [.int .u8 0] },
  some { k := .int .u8, size := 1, bytes := 1, zero := [.int .u8 0] },
  none,
  some { k := .ptr, size := 1, bytes := 8, zero := [.nilp] },
  some { k := .int .i32, size := 1, bytes := 4, zero := [.int .i32 0] },
  some { k := .int .i32, size := 1, bytes := 4, zero := [.int .i32 0] },
  none,
  none,
  none
]
def T : Tab := fun t => (tabL[t]?).join
set_option maxRecDepth 100000 in
theorem fit : Fits Try.prog T := fits_of rfl (by kernel_rfl)
theorem mixed : Try.prog.follows .mixedOrders = true := by kernel_rfl
theorem laidOut : laidOutB Try.prog = true := by kernel_rfl
theorem T2 : T 2 = some { k := .int .i64, size := 1, bytes := 8, zero := [.int .i64 0] } := rfl
theorem T3 : T 3 = some { k := .int .i64, size := 1, bytes := 8, zero := [.int .i64 0] } := rfl
theorem T4 : T 4 = some { k := .bool, size := 1, bytes := 1, zero := [.bool false] } := rfl
theorem T5 : T 5 = some { k := .int .u8, size := 1, bytes := 1, zero := [.int .u8 0] } := rfl
theorem T6 : T 6 = some { k := .int .u8, size := 1, bytes := 1, zero := [.int .u8 0] } := rfl
theorem T7 : T 7 = some { k := .strct [(2, 0), (3, 1), (4, 2), (6, 3)], size := 4, bytes := 24, zero := [.int .i64 0, .int .i64 0, .bool false, .int .u8 0] } := rfl
theorem T8 : T 8 = some { k := .strct [(2, 0), (3, 1), (4, 2), (6, 3)], size := 4, bytes := 24, zero := [.int .i64 0, .int .i64 0, .bool false, .int .u8 0] } := rfl
theorem T9 : T 9 = some { k := .str, size := 1, bytes := 16, zero := [.str ByteArray.empty] } := rfl
theorem T10 : T 10 = some { k := .str, size := 1, bytes := 16, zero := [.str ByteArray.empty] } := rfl
theorem T11 : T 11 = some { k := .str, size := 1, bytes := 16, zero := [.str ByteArray.empty] } := rfl
theorem T12 : T 12 = some { k := .int .u64, size := 1, bytes := 8, zero := [.int .u64 0] } := rfl
theorem T13 : T 13 = some { k := .strct [(9, 0), (12, 1)], size := 2, bytes := 24, zero := [.str ByteArray.empty, .int .u64 0] } := rfl
theorem T14 : T 14 = some { k := .strct [(9, 0), (12, 1)], size := 2, bytes := 24, zero := [.str ByteArray.empty, .int .u64 0] } := rfl
theorem T15 : T 15 = some { k := .ptr, size := 1, bytes := 8, zero := [.nilp] } := rfl
theorem T16 : T 16 = some { k := .ptr, size := 1, bytes := 8, zero := [.nilp] } := rfl
theorem T17 : T 17 = some { k := .ptr, size := 1, bytes := 8, zero := [.nilp] } := rfl
theorem T18 : T 18 = some { k := .strct [(17, 0)], size := 1, bytes := 8, zero := [.nilp] } := rfl
theorem T19 : T 19 = some { k := .strct [(17, 0)], size := 1, bytes := 8, zero := [.nilp] } := rfl
theorem T21 : T 21 = some { k := .int .i32, size := 1, bytes := 4, zero := [.int .i32 0] } := rfl
theorem T22 : T 22 = some { k := .slice 3, size := 1, bytes := 24, zero := [.nils] } := rfl
theorem T24 : T 24 = some { k := .int .i64, size := 1, bytes := 8, zero := [.int .i64 0] } := rfl
theorem T34 : T 34 = some { k := .slice 22, size := 1, bytes := 24, zero := [.nils] } := rfl
theorem T36 : T 36 = some { k := .slice 4, size := 1, bytes := 24, zero := [.nils] } := rfl
theorem T37 : T 37 = some { k := .int .u64, size := 1, bytes := 8, zero := [.int .u64 0] } := rfl
theorem T44 : T 44 = some { k := .arr 8 3, size := 8, bytes := 64, zero := List.replicate 8 (.int .i64 0) } := rfl
theorem T57 : T 57 = some { k := .strct [(17, 0), (17, 1), (17, 2), (9, 3)], size := 4, bytes := 40, zero := [.nilp, .nilp, .nilp, .str ByteArray.empty] } := rfl
theorem T58 : T 58 = some { k := .strct [(17, 0), (17, 1), (17, 2), (9, 3)], size := 4, bytes := 40, zero := [.nilp, .nilp, .nilp, .str ByteArray.empty] } := rfl
theorem T59 : T 59 = some { k := .arr 0 16, size := 0, bytes := 0, zero := [] } := rfl
theorem T60 : T 60 = some { k := .strct [(59, 0)], size := 0, bytes := 0, zero := [] } := rfl
theorem T61 : T 61 = some { k := .strct [(59, 0)], size := 0, bytes := 0, zero := [] } := rfl
theorem T63 : T 63 = some { k := .int .u32, size := 1, bytes := 4, zero := [.int .u32 0] } := rfl
theorem T64 : T 64 = some { k := .int .u8, size := 1, bytes := 1, zero := [.int .u8 0] } := rfl
theorem T65 : T 65 = some { k := .int .u8, size := 1, bytes := 1, zero := [.int .u8 0] } := rfl
theorem T67 : T 67 = some { k := .ptr, size := 1, bytes := 8, zero := [.nilp] } := rfl
theorem T68 : T 68 = some { k := .int .i32, size := 1, bytes := 4, zero := [.int .i32 0] } := rfl
theorem T69 : T 69 = some { k := .int .i32, size := 1, bytes := 4, zero := [.int .i32 0] } := rfl
end Go.Proofs.Ytiekbfjmoemdgaa.VM

/- Layers 1, 2, 5: numbers, activation, shapes: the program's functions and the document's. -/
namespace Go.Proofs.Ytiekbfjmoemdgaa.VM
open Go
set_option linter.unusedVariables false
set_option linter.unusedSimpArgs false
attribute [local irreducible] wq wqL wqD wqE wqO Th Bk EndR
set_option maxHeartbeats 8000000

theorem fixMay_ (H : Heap) (x : Int) : Call Try.prog 32 [.int .i64 x] H (.bool (fixMay x)) H := by
  refine call_plain fit mixed Try.func32 rfl rfl rfl (by kernel_rfl) rfl ?_
  repeat' (first | (refine l_pl ?_; refine l_go ?_) | (refine d_pl ?_; refine d_go ?_) | (refine l_gd ?_; first | refine l_onG ?_ | refine l_offG ?_) | (refine d_gd ?_; first | refine d_onG ?_ | refine d_offG ?_) | refine wq_seq ?_ | refine wq_line ?_ | refine wq_draw (by decide +kernel) ?_ | refine wq_block ?_ | refine l_nil ?_ | refine d_nil ?_ | refine wq_skip ?_ | refine wq_ret ?_ | refine wq_exit ?_ | refine th_normal ?_ | refine th_ret ?_ | refine th_exit ?_ | refine bk_normal ?_ | refine bk_ret ?_ | refine bk_exit ?_ | refine bk_other rfl ?_ | first | refine l_partG (fun hb => ?_) (fun hb => ?_) | refine d_partG (fun hb => ?_) (fun hb => ?_))
  all_goals refine end_finG ?_; simp [put_app, put_none, *]
  all_goals simp_all [within]
  all_goals (first | done | omega)

theorem clip_min (x a b : Int) (h : a ≤ b) : (if (if x > a then x else a) < b then (if x > a then x else a) else b) = clip x a b := by
  unfold clip; split <;> split <;> (try split) <;> omega
theorem clip_max (x a b : Int) (h : a ≤ b) : (if (if x < b then x else b) > a then (if x < b then x else b) else a) = clip x a b := by
  unfold clip; split <;> split <;> (try split) <;> omega

theorem upTo1_ (H : Heap) (x a b : Int) : Call Try.prog 41 [.int .i64 x, .int .i64 a, .int .i64 b] H (.bool (within x a b)) H := by
  refine call_plain fit mixed Try.func41 rfl rfl rfl (by kernel_rfl) rfl ?_
  repeat' (first | (refine l_pl ?_; refine l_go ?_) | (refine d_pl ?_; refine d_go ?_) | (refine l_gd ?_; first | refine l_onG ?_ | refine l_offG ?_) | (refine d_gd ?_; first | refine d_onG ?_ | refine d_offG ?_) | refine wq_seq ?_ | refine wq_line ?_ | refine wq_draw (by decide +kernel) ?_ | refine wq_block ?_ | refine l_nil ?_ | refine d_nil ?_ | refine wq_skip ?_ | refine wq_ret ?_ | refine wq_exit ?_ | refine th_normal ?_ | refine th_ret ?_ | refine th_exit ?_ | refine bk_normal ?_ | refine bk_ret ?_ | refine bk_exit ?_ | refine bk_other rfl ?_ | first | refine l_partG (fun hb => ?_) (fun hb => ?_) | refine d_partG (fun hb => ?_) (fun hb => ?_))
  all_goals refine end_finG ?_; simp [put_app, put_none, *]
  all_goals simp_all [within]
  all_goals (first | done | omega)

theorem refFixMay_ (H : Heap) (x : Int) : Call Try.prog 36 [.int .i64 x] H (.bool (fixMay x)) H := by
  refine call_plain fit mixed Try.func36 rfl rfl rfl (by kernel_rfl) rfl ?_
  refine goW ?_
  refine l_callG (upTo1_ _ _ _ _) ?_
  refine goW ?_
  refine end_finG ?_; simp [put_app, put_none, *]

end Go.Proofs.Ytiekbfjmoemdgaa.VM

/- Layer 4: rows of numbers. -/
namespace Go.Proofs.Ytiekbfjmoemdgaa.VM
open Go
set_option linter.unusedVariables false
set_option linter.unusedSimpArgs false
attribute [local irreducible] wq wqL wqD wqE wqO Th Bk EndR
set_option maxHeartbeats 8000000

theorem first_bad {α : Type} (p : α → Bool) (xs : List α) : ∃ k, k ≤ xs.length ∧ (∀ (j : Nat) x, j < k → xs[j]? = some x → p x = true) ∧ ((k = xs.length ∧ xs.all p = true) ∨ (xs.all p = false ∧ ∃ x, xs[k]? = some x ∧ p x = false)) := by
  induction xs with
  | nil => exact ⟨0, by simp, by simp, .inl ⟨rfl, rfl⟩⟩
  | cons a xs ih =>
    cases ha : p a with
    | false => exact ⟨0, by simp, by simp, .inr ⟨by simp [ha], a, by simp, ha⟩⟩
    | true =>
      obtain ⟨k, h1, h2, h3⟩ := ih
      refine ⟨k + 1, by simpa using h1, fun j x hj hx => ?_, ?_⟩
      · cases j with
        | zero => simp at hx; subst hx; exact ha
        | succ j => exact h2 j x (by omega) (by simpa using hx)
      · rcases h3 with ⟨h3, h4⟩ | ⟨h3, x, h4, h5⟩
        · exact .inl ⟨by simp [h3], by simpa [ha] using h4⟩
        · exact .inr ⟨by simpa [ha] using h3, x, by simpa using h4, h5⟩

theorem vecOdd_ (H : Heap) (x : Int) : Call Try.prog 31 [.int .i64 x] H (.bool (!fixMay x)) H := by
  refine call_plain fit mixed Try.func31 rfl rfl rfl (by kernel_rfl) rfl ?_
  refine goW ?_
  refine l_callG (fixMay_ _ _) ?_
  refine goW ?_
  refine end_finG ?_; simp [put_app, put_none, *]

theorem indexOdd_ (H : Heap) (v : V) (xs : List Int) (hx : Sl 1 intC H v xs) (hl : xs.length ≤ 2 ^ 47) : ∃ r : Int, decide (r ≥ 0) = !(xs.all fun x => fixMay x) ∧ Call Try.prog 38 [v, .fn 31 []] H (.int .i64 r) H := by
  obtain ⟨k0, hk0, hgood, hend⟩ := first_bad (fun x => fixMay x) xs
  obtain ⟨r, hr⟩ : ∃ r : Int, r = if k0 = xs.length then -1 else (k0 : Int) := ⟨_, rfl⟩
  refine ⟨r, ?_, ?_⟩
  · rcases hend with ⟨h1, h2⟩ | ⟨h2, x, h3, _⟩
    · rw [hr, if_pos h1, h2]; rfl
    · have : k0 < xs.length := (List.getElem?_eq_some_iff.1 h3).1
      rw [hr, if_neg (by omega), h2]
      simp
  refine call_plain fit mixed Try.func38 rfl rfl rfl (by kernel_rfl) rfl ?_
  have hlen := hx.len T22 rfl
  refine goW ?_
  refine wq_loop (fun c ρ h => ∃ k, k ≤ k0 ∧ c = xs.length - k ∧ h = H ∧ ρ 0 = v ∧ ρ 1 = .fn 31 [] ∧ ρ 7 = .int .i64 xs.length ∧ ρ 8 = .int .i64 (k : Nat)) ⟨0, Nat.zero_le _, rfl, rfl, rfl, rfl, rfl, rfl⟩ ?_
  rintro _ ρ h ⟨k, hk, rfl, rfl, h0, h1, h7, h8⟩
  refine goW ?_
  refine cond_go (fun hb => ?_) (fun hb => ?_)
  · have hk' : k < xs.length := by simpa using hb
    clear hb
    obtain ⟨x, hxk⟩ : ∃ x, xs[k]? = some x := ⟨xs[k], by simp [hk']⟩
    obtain ⟨b, o, cs, hi, rfl, _, hlo, _⟩ := hx.get T22 rfl T3 rfl hxk
    have ho := loadV_one T3 rfl hlo
    have hw := wrap_succ (n := k) (by omega)
    have hodd := vecOdd_ h x
    by_cases hkk : k < k0
    · have hg : fixMay x = true := hgood k x hkk hxk
      rw [hg] at hodd
      clear hend hg
      refine goW ?_
      refine l_callG hodd ?_
      refine goW ?_
      refine cond_go (fun hb => ?_) (fun hb => ?_)
      · cases hb
      · refine goW ?_
        refine ⟨xs.length - (k + 1), by omega, k + 1, hkk, rfl, rfl, ?_⟩
        simp [put_app, put_none, *]
    · have hkk' : k = k0 := by omega
      rcases hend with ⟨h2, _⟩ | ⟨_, y, h3, h4⟩
      · omega
      · rw [← hkk', hxk] at h3
        obtain rfl := Option.some.inj h3
        have hg : fixMay x = false := h4
        rw [hg] at hodd
        rw [if_neg (by omega), ← hkk'] at hr
        subst hr
        clear hgood h3 h4 hg hkk hkk' hk hk0
        refine goW ?_
        refine l_callG hodd ?_
        refine goW ?_
        refine cond_go (fun hb => ?_) (fun hb => ?_)
        · refine goW ?_
          refine end_ret (by simp only [resRf, resRs, resR]; first | done | rfl) ⟨?_, by first | exact List.prefix_refl _ | exact List.prefix_append _ _ | assumption | (refine List.IsPrefix.trans (by assumption) (List.prefix_append _ _)) | (simp only [List.append_assoc, List.cons_append, List.nil_append, List.set_cons_zero, List.set_cons_succ]; exact ⟨_, by simp only [List.append_assoc, List.cons_append, List.nil_append]; rfl⟩)⟩
          simp [put_app, put_none]
        · cases hb
  · have hk' : k = xs.length := by have : ¬ k < xs.length := by simpa using hb
                                   omega
    rw [if_pos (by omega)] at hr
    clear hb hgood hend
    refine goW ?_
    refine end_ret (by simp only [resRf, resRs, resR]; first | done | rfl) ⟨?_, by first | exact List.prefix_refl _ | exact List.prefix_append _ _ | assumption | (refine List.IsPrefix.trans (by assumption) (List.prefix_append _ _)) | (simp only [List.append_assoc, List.cons_append, List.nil_append, List.set_cons_zero, List.set_cons_succ]; exact ⟨_, by simp only [List.append_assoc, List.cons_append, List.nil_append]; rfl⟩)⟩
    rw [hr]
    simp [put_app, put_none]

theorem vecMay_ (H : Heap) (v : V) (xs : List Int) (hx : Sl 1 intC H v xs) (hl : xs.length ≤ 2 ^ 47) : Call Try.prog 24 [v] H (.bool (vecMay xs)) H := by
  refine call_plain fit mixed Try.func24 rfl rfl rfl (by kernel_rfl) rfl ?_
  have hlen := hx.len T22 rfl
  obtain ⟨r, hr, hidx⟩ := indexOdd_ H v xs hx hl
  have hcon : Call Try.prog 33 [v, .fn 31 []] H (.bool (!(xs.all fun x => fixMay x))) H := by
    refine call_plain fit mixed Try.func33 rfl rfl rfl (by kernel_rfl) rfl ?_
    refine goW ?_
    refine l_callG hidx ?_
    refine goW ?_
    refine end_finG ?_; simp [put_app, put_none, *]
  clear hr hidx
  refine goW ?_
  first | refine l_partG (fun hb => ?_) (fun hb => ?_) | refine d_partG (fun hb => ?_) (fun hb => ?_)
  · refine goW ?_
    refine l_callG hcon ?_
    refine goW ?_
    refine end_ret (by simp only [resRf, resRs, resR]; first | done | rfl) ⟨?_, by first | exact List.prefix_refl _ | exact List.prefix_append _ _ | assumption | (refine List.IsPrefix.trans (by assumption) (List.prefix_append _ _)) | (simp only [List.append_assoc, List.cons_append, List.nil_append, List.set_cons_zero, List.set_cons_succ]; exact ⟨_, by simp only [List.append_assoc, List.cons_append, List.nil_append]; rfl⟩)⟩
    have hb' : xs.length ≤ 16 := by have := of_decide_eq_true hb; omega
    simp [put_app, put_none, vecMay, hb']
  · refine goW ?_
    refine end_ret (by simp only [resRf, resRs, resR]; first | done | rfl) ⟨?_, by first | exact List.prefix_refl _ | exact List.prefix_append _ _ | assumption | (refine List.IsPrefix.trans (by assumption) (List.prefix_append _ _)) | (simp only [List.append_assoc, List.cons_append, List.nil_append, List.set_cons_zero, List.set_cons_succ]; exact ⟨_, by simp only [List.append_assoc, List.cons_append, List.nil_append]; rfl⟩)⟩
    have hb' : ¬ xs.length ≤ 16 := by have := of_decide_eq_false hb; omega
    simp [put_app, put_none, vecMay, hb']

theorem dotFrom_succ : ∀ {xs ys : List Int} {s : Int} {k : Nat} {x y : Int}, xs[k]? = some x → ys[k]? = some y → dotFrom s (xs.take (k + 1)) (ys.take (k + 1)) = plus (dotFrom s (xs.take k) (ys.take k)) (times x y)
  | [], _, _, _, _, _, h, _ => by simp at h
  | _ :: _, [], _, _, _, _, _, h => by simp at h
  | a :: xs, b :: ys, s, 0, x, y, h, g => by
    simp at h g
    subst h; subst g
    simp [dotFrom]
  | a :: xs, b :: ys, s, k + 1, x, y, h, g => by
    simp only [List.take_succ_cons, dotFrom]
    exact dotFrom_succ (by simpa using h) (by simpa using g)
theorem dotFrom_take : ∀ {xs ys : List Int} {s : Int}, dotFrom s xs (ys.take xs.length) = dotFrom s xs ys
  | [], _, _ => by simp [dotFrom]
  | _ :: _, [], _ => by simp [dotFrom]
  | a :: xs, b :: ys, s => by
    simp only [List.length_cons, List.take_succ_cons, dotFrom]
    exact dotFrom_take

theorem refVecMay_ (H : Heap) (v : V) (xs : List Int) (hx : Sl 1 intC H v xs) (hl : xs.length ≤ 2 ^ 47) : Call Try.prog 29 [v] H (.bool (vecMay xs)) H := by
  refine call_plain fit mixed Try.func29 rfl rfl rfl (by kernel_rfl) rfl ?_
  have hlen := hx.len T22 rfl
  refine goW ?_
  refine wq_loop (fun c ρ h => ∃ k, k ≤ xs.length ∧ c = xs.length - k ∧ h = H ∧ (∀ (j : Nat) x, j < k → xs[j]? = some x → fixMay x = true) ∧ ρ 0 = v ∧ ρ 3 = .int .i64 (k : Nat)) ⟨0, Nat.zero_le _, rfl, rfl, by intro j x hj; omega, rfl, rfl⟩ ?_
  rintro _ ρ h ⟨k, hk, rfl, rfl, hall, h0, h3⟩
  refine goW ?_
  refine cond_go (fun hb => ?_) (fun hb => ?_)
  · have hk' : k < xs.length := by simpa using hb
    clear hb
    obtain ⟨x, hxk⟩ : ∃ x, xs[k]? = some x := ⟨xs[k], by simp [hk']⟩
    obtain ⟨b, o, cs, hi, rfl, _, hlo, _⟩ := hx.get T22 rfl T3 rfl hxk
    have ho := loadV_one T3 rfl hlo
    have hw := wrap_succ (n := k) (by omega)
    have c1 := refFixMay_ h x
    obtain ⟨r, hr⟩ : ∃ r, fixMay x = r := ⟨_, rfl⟩
    rw [hr] at c1
    cases r
    · clear hall
      refine goW ?_
      refine l_callG c1 ?_
      refine goW ?_
      refine cond_go (fun hb => ?_) (fun hb => ?_)
      · refine goW ?_
        refine end_ret (by simp only [resRf, resRs, resR]; first | done | rfl) ⟨?_, by first | exact List.prefix_refl _ | exact List.prefix_append _ _ | assumption | (refine List.IsPrefix.trans (by assumption) (List.prefix_append _ _)) | (simp only [List.append_assoc, List.cons_append, List.nil_append, List.set_cons_zero, List.set_cons_succ]; exact ⟨_, by simp only [List.append_assoc, List.cons_append, List.nil_append]; rfl⟩)⟩
        have : vecMay xs = false := by
          unfold vecMay
          rw [Bool.and_eq_false_iff]
          right
          rw [List.all_eq_false]
          exact ⟨x, List.mem_iff_getElem?.2 ⟨k, hxk⟩, by simp [hr]⟩
        rw [this]
        simp [put_app, put_none]
      · cases hb
    · have hall' := hall
      clear hall
      refine goW ?_
      refine l_callG c1 ?_
      refine goW ?_
      refine cond_go (fun hb => ?_) (fun hb => ?_)
      · cases hb
      · refine goW ?_
        refine ⟨xs.length - (k + 1), by omega, k + 1, hk', rfl, rfl, fun j y hj hy => ?_, ?_⟩
        · by_cases hjk : j = k
          · subst hjk; rw [hxk] at hy; cases hy; exact hr
          · exact hall' j y (by omega) hy
        · simp [put_app, put_none, *]
  · have hk' : k = xs.length := by have : ¬ k < xs.length := by simpa using hb
                                   omega
    subst hk'
    have ha : xs.all (fun x => fixMay x) = true := List.all_eq_true.2 fun x hx => by
      obtain ⟨j, hj⟩ := List.mem_iff_getElem?.1 hx
      exact hall j x (List.getElem?_eq_some_iff.1 hj).1 hj
    clear hall hb
    refine goW ?_
    refine end_ret (by simp only [resRf, resRs, resR]; first | done | rfl) ⟨?_, by first | exact List.prefix_refl _ | exact List.prefix_append _ _ | assumption | (refine List.IsPrefix.trans (by assumption) (List.prefix_append _ _)) | (simp only [List.append_assoc, List.cons_append, List.nil_append, List.set_cons_zero, List.set_cons_succ]; exact ⟨_, by simp only [List.append_assoc, List.cons_append, List.nil_append]; rfl⟩)⟩
    have hc : decide ((xs.length : Int) ≤ 16) = decide (xs.length ≤ 16) := by apply Bool.eq_iff_iff.2; simp; omega
    simp only [put_app, put_none, vecMay, ha, Bool.and_true, ← hc]
    rfl

end Go.Proofs.Ytiekbfjmoemdgaa.VM

/- Layer 12: the program's Of: the library's stable sort of a few. -/
namespace Go.Proofs.Ytiekbfjmoemdgaa.VM
open Go
set_option linter.unusedVariables false
set_option linter.unusedSimpArgs false
attribute [local irreducible] wq wqL wqD wqE wqO Th Bk EndR
set_option maxHeartbeats 8000000

def natC (cs : List V) (k : Nat) : Prop := cs = [.int .i64 (k : Int)]
def scoreAt (ss : List Int) (k : Nat) : Int := ss.getD k 0
def cmpI (a b : Int) : Int := if a < b then -1 else if a > b then 1 else 0
theorem cmpI_neg (a b : Int) : decide (cmpI a b < 0) = decide (a < b) := by
  unfold cmpI
  split
  · rename_i h; simp [h]
  · rename_i h
    split <;> simp [h]

theorem getDI {xs : List Int} {k : Nat} (h : k < xs.length) : xs[k]? = some (xs.getD k 0) := by simp [List.getD_eq_getElem?_getD, h]
theorem isNaN_ (H : Heap) (x : Int) : Call Try.prog 35 [.int .i64 x] H (.bool false) H := by
  refine call_pure fit mixed Try.func35 rfl rfl rfl (by kernel_rfl) rfl fun hM => ?_
  refine goM ?_
  exact end_1 (by first | exact .inl rfl | exact .inr rfl) ⟨rfl, hM.pre⟩
theorem compare_ (H : Heap) (a b : Int) : Call Try.prog 27 [.int .i64 a, .int .i64 b] H (.int .i64 (cmpI a b)) H := by
  refine call_pure fit mixed Try.func27 rfl rfl rfl (by kernel_rfl) rfl fun hM => ?_
  have c1 := isNaN_ H a
  have c2 := isNaN_ H b
  refine goM ?_
  refine l_callG c1 ?_
  refine goM ?_
  refine l_callG c2 ?_
  unfold cmpI
  by_cases h1 : a < b
  · have d1 : decide (a < b) = true := decide_eq_true h1
    rw [if_pos h1]
    clear h1
    refine goM ?_
    exact end_1 (by first | exact .inl rfl | exact .inr rfl) ⟨rfl, hM.pre⟩
  · have d1 : decide (a < b) = false := decide_eq_false h1
    rw [if_neg h1]
    clear h1
    by_cases h2 : a > b
    · have d2 : decide (a > b) = true := decide_eq_true h2
      rw [if_pos h2]
      clear h2
      refine goM ?_
      exact end_1 (by first | exact .inl rfl | exact .inr rfl) ⟨rfl, hM.pre⟩
    · have d2 : decide (a > b) = false := decide_eq_false h2
      rw [if_neg h2]
      clear h2
      refine goM ?_
      exact end_1 (by first | exact .inl rfl | exact .inr rfl) ⟨rfl, hM.pre⟩

theorem rankCmp_ (H : Heap) (b : Nat) (sv : V) (ss : List Int) (a c : Nat) (hb : H[b]? = some (.row [sv] true)) (hs : Sl 1 intC H sv ss) (ha : a < ss.length) (hc : c < ss.length) :
    Call Try.prog 26 [.int .i64 (a : Int), .int .i64 (c : Int), .ptr b 0] H (.int .i64 (cmpI (scoreAt ss a) (scoreAt ss c))) H := by
  refine call_pure fit mixed Try.func26 rfl rfl rfl (by kernel_rfl) rfl fun hM => ?_
  have l0 : loadV T 22 H b 0 = some sv := ld_cell T22 rfl hb rfl
  obtain ⟨b1, o1, _, hi1, rfl, _, hlo1, _⟩ := hs.get T22 rfl T3 rfl (getDI (xs := ss) (k := a) ha)
  have ho1 := loadV_one T3 rfl hlo1
  obtain ⟨b2, o2, _, hi2, rfl, _, hlo2, _⟩ := hs.get T22 rfl T3 rfl (getDI (xs := ss) (k := c) hc)
  have ho2 := loadV_one T3 rfl hlo2
  have c1 := compare_ H (scoreAt ss a) (scoreAt ss c)
  unfold scoreAt at c1 ⊢
  refine goM ?_
  refine d_call0G c1 ?_
  refine goM ?_
  exact end_1 (by first | exact .inl rfl | exact .inr rfl) ⟨rfl, hM.pre⟩

theorem range'_cons (i n : Nat) (h : i < n) : List.range' i (n - i) = i :: List.range' (i + 1) (n - (i + 1)) := by
  obtain ⟨m, rfl⟩ : ∃ m, n = i + 1 + m := ⟨n - (i + 1), by omega⟩
  rw [show i + 1 + m - i = m + 1 by omega, show i + 1 + m - (i + 1) = m by omega]
  rfl

theorem insSort_ (B H : Heap) (L0 : List Res) (b n : Nat) (v sv : V) (ss : List Int) (hn : ss.length = n) (h8 : n ≤ 20) (h1 : 1 ≤ n) (hs : Sl 1 intC B sv ss) (hM : Mem B H (.own 1 natC v (List.range n) :: .box b [sv] :: L0)) :
    ∃ w H', Call Try.prog 39 [v, .int .i64 0, .int .i64 (n : Int), .fn 26 [.ptr b 0]] H w H' ∧ w = .tup [] ∧ Mem B H' (.own 1 natC v (rankN (scoreAt ss) n) :: .box b [sv] :: L0) := by
  refine call_turn fit mixed hM Try.func39 rfl rfl rfl (by kernel_rfl) fun _ => ?_
  refine goM ?_
  refine wq_loop (fun m ρ hp => ∃ i : Nat, 1 ≤ i ∧ i ≤ n ∧ m = n - i ∧ Mem B hp (.own 1 natC v (rankN (scoreAt ss) i ++ List.range' i (n - i)) :: .box b [sv] :: L0) ∧ ρ 0 = v ∧ ρ 1 = .int .i64 0 ∧ ρ 2 = .int .i64 (n : Nat) ∧ ρ 3 = .fn 26 [.ptr b 0] ∧ ρ 8 = .int .i64 (i : Nat)) ⟨1, Nat.le_refl _, h1, rfl, ?_, rfl, rfl, rfl, rfl, rfl⟩ ?_
  · have e : rankN (scoreAt ss) 1 ++ List.range' 1 (n - 1) = List.range n := by
      rw [List.range_eq_range']
      have := range'_cons 0 n h1
      rw [Nat.sub_zero] at this
      rw [this]; rfl
    rw [e]; exact hM
  clear hM
  rintro _ ρ hp ⟨i, hi1, hi, rfl, hM, h0, h1', h2, h3, h8'⟩
  refine goM ?_
  refine cond_go (fun hb => ?_) (fun hb => ?_)
  · have hi' : i < n := by simpa using hb
    clear hb
    have hrl := rankN_len (scoreAt ss) i
    have hrm := rankN_mem (scoreAt ss) i
    have hwi := wrap_succ (n := i) (by omega)
    have hnext : rankN (scoreAt ss) (i + 1) = insR (scoreAt ss) i (rankN (scoreAt ss) i) := rfl
    rw [range'_cons i n hi'] at hM
    obtain ⟨rest, hrest⟩ : ∃ r, List.range' (i + 1) (n - (i + 1)) = r := ⟨_, rfl⟩
    rw [hrest, ← mid_end, hrl] at hM
    rw [insR, hrl] at hnext
    generalize rankN (scoreAt ss) i = row at *
    refine goM ?_
    refine wq_loop (fun m ρ hp => ∃ k : Nat, k ≤ i ∧ m = k ∧ insPos (scoreAt ss) i row i = insPos (scoreAt ss) i row k ∧ Mem B hp (.own 1 natC v (mid row k i rest) :: .box b [sv] :: L0) ∧ ρ 0 = v ∧ ρ 1 = .int .i64 0 ∧ ρ 2 = .int .i64 (n : Nat) ∧ ρ 3 = .fn 26 [.ptr b 0] ∧ ρ 8 = .int .i64 (i : Nat) ∧ ρ 9 = .int .i64 (k : Nat)) ⟨i, Nat.le_refl _, rfl, rfl, hM, h0, h1', h2, h3, h8', rfl⟩ ?_
    clear hM h0 h1' h2 h3 h8'
    clear ρ hp
    rintro k ρ hp ⟨_, hk, rfl, hpos, hM, h0, h1', h2, h3, h8', h9⟩
    -- what comes behind the inner loop
    have leave : (k = 0 ∨ ¬ scoreAt ss (row.getD (k - 1) 0) > scoreAt ss i) → Mem B hp (.own 1 natC v (rankN (scoreAt ss) (i + 1) ++ rest) :: .box b [sv] :: L0) := fun h => by
      have e : insPos (scoreAt ss) i row i = k := by rw [hpos, insPos_stop h]
      rw [hnext, e, ← mid_rest]; exact hM
    cases k with
    | zero =>
      have hM2 := leave (.inl rfl)
      clear leave hM
      have hd : decide (((0 : Nat) : Int) > 0) = false := rfl
      refine goM ?_
      rw [← hrest] at hM2
      exact ⟨n - (i + 1), by omega, i + 1, by omega, hi', rfl, hM2, by simp [put_app, put_none, *]⟩
    | succ k =>
      have hd : decide (((k + 1 : Nat) : Int) > 0) = true := decide_eq_true (by omega)
      have hw1 : IntKind.i64.wrap (((k + 1 : Nat) : Int) - 1) = (k : Int) := by rw [wrap_i64 (by omega) (by omega)]; omega
      have hki : k < row.length := by omega
      obtain ⟨y, hy⟩ : ∃ y, row.getD k 0 = y := ⟨_, rfl⟩
      have hyn : y < n := by
        have : y ∈ row := by rw [← hy, List.getD_eq_getElem?_getD, List.getElem?_eq_getElem hki]; exact List.getElem_mem _
        have := (hrm y).1 this; omega
      have g1 := mid_at i rest (by omega : k + 1 ≤ row.length)
      have g2 := mid_low i rest (Nat.lt_succ_self k) (by omega : k + 1 ≤ row.length)
      rw [hy] at g2
      have hsl := hM.sl .here
      obtain ⟨b1, o1, _, hi1', rfl, _, hlo1, _⟩ := hsl.get T22 rfl T3 rfl g1
      have ho1 := loadV_one T3 rfl hlo1
      obtain ⟨b2, o2, _, hi2', rfl, _, hlo2, _⟩ := hsl.get T22 rfl T3 rfl g2
      have ho2 := loadV_one T3 rfl hlo2
      have c1 := rankCmp_ hp b sv ss i y (hM.row (.there .here)) (hs.mono hM.pre) (by omega) (by omega)
      have hcn := cmpI_neg (scoreAt ss i) (scoreAt ss y)
      have hleave2 : decide (scoreAt ss i < scoreAt ss y) = false → Mem B hp (.own 1 natC v (rankN (scoreAt ss) (i + 1) ++ rest) :: .box b [sv] :: L0) := fun h => leave (.inr (by
        rw [Nat.add_sub_cancel, hy]; simpa using h))
      have hpos2 : decide (scoreAt ss i < scoreAt ss y) = true → insPos (scoreAt ss) i row (k + 1) = insPos (scoreAt ss) i row k := fun h => insPos_succ (by rw [hy]; simpa using h)
      have hlen1 : (mid row (k + 1) i rest).length = row.length + 1 + rest.length := mid_len _ _ (by omega)
      obtain ⟨b3, hi3, put1⟩ := hM.elem .here T22 rfl T3 rfl (k := k + 1) (by omega)
      obtain ⟨H1, st1, hM1⟩ := put1 (.int .i64 (y : Int)) y rfl rfl rfl
      obtain ⟨b4, hi4, put2⟩ := hM1.elem .here T22 rfl T3 rfl (k := k) (by simp only [List.length_set]; omega)
      obtain ⟨H2, st2, hM2⟩ := put2 (.int .i64 (i : Int)) i rfl rfl rfl
      rw [← hy, mid_swap i rest hki] at hM2
      rw [hi1'] at hi3
      cases hi3
      rw [hi2'] at hi4
      cases hi4
      obtain ⟨t, ht⟩ : ∃ t, decide (scoreAt ss i < scoreAt ss y) = t := ⟨_, rfl⟩
      rw [ht] at hcn hleave2 hpos2
      clear leave put1 put2 hlo1 hlo2 hsl g1 g2 ht hM1 hlen1 hnext
      refine goM ?_
      refine d_call0G c1 ?_
      cases t with
      | false =>
        have hM3 := hleave2 rfl
        clear hleave2 hpos2 hM hM2
        refine goM ?_
        rw [← hrest] at hM3
        exact ⟨n - (i + 1), by omega, i + 1, by omega, hi', rfl, hM3, by simp [put_app, put_none, *]⟩
      | true =>
        have hpos3 := hpos2 rfl
        clear hleave2 hpos2 hM
        refine goM ?_
        refine d_stM st1 ?_
        refine goM ?_
        refine d_stM st2 ?_
        refine goM ?_
        exact ⟨k, by omega, k, by omega, rfl, by rw [hpos, hpos3], hM2, by simp [put_app, put_none, *]⟩
  · have hi' : i = n := by have : ¬ i < n := by simpa using hb
                           omega
    subst hi'
    clear hb
    rw [Nat.sub_self, show List.range' i 0 = [] from rfl, List.append_nil] at hM
    refine goM ?_
    exact end_normal (by simp only [resRf, resRs, resR]; first | done | rfl) ⟨rfl, hM⟩
end Go.Proofs.Ytiekbfjmoemdgaa.VM

/- Layer 12: the program's Of. -/
namespace Go.Proofs.Ytiekbfjmoemdgaa.VM
open Go
set_option linter.unusedVariables false
set_option linter.unusedSimpArgs false
attribute [local irreducible] wq wqL wqD wqE wqO Th Bk EndR
set_option maxHeartbeats 8000000

theorem stable_ (B H : Heap) (L0 : List Res) (b n : Nat) (v sv : V) (ss : List Int) (hn : ss.length = n) (h8 : n ≤ 8) (h1 : 1 ≤ n) (hs : Sl 1 intC B sv ss) (hM : Mem B H (.own 1 natC v (List.range n) :: .box b [sv] :: L0)) :
    ∃ w H', Call Try.prog 34 [v, .int .i64 (n : Int), .fn 26 [.ptr b 0]] H w H' ∧ w = .tup [] ∧ Mem B H' (.own 1 natC v (rankN (scoreAt ss) n) :: .box b [sv] :: L0) := by
  refine call_turn fit mixed hM Try.func34 rfl rfl rfl (by kernel_rfl) fun _ => ?_
  have d1 : decide ((20 : Int) ≤ (n : Int)) = false := decide_eq_false (by omega)
  have d2 : decide ((20 : Int) < (n : Int)) = false := decide_eq_false (by omega)
  obtain ⟨_, H1, c1, rfl, hM1⟩ := insSort_ B H L0 b n v sv ss hn (by omega) h1 hs hM
  clear hM
  refine goM ?_
  refine wq_loop (fun m ρ hp => hp = H ∧ ρ 0 = v ∧ ρ 1 = .int .i64 (n : Int) ∧ ρ 2 = .fn 26 [.ptr b 0] ∧ ρ 6 = .int .i64 20 ∧ ρ 7 = .int .i64 0 ∧ ρ 8 = .int .i64 20) (m := 0) ⟨rfl, rfl, rfl, rfl, rfl, rfl, rfl⟩ ?_
  rintro _ ρ hp ⟨rfl, e0, e1, e2, e6, e7, e8⟩
  refine goM ?_
  refine l_callG c1 ?_
  clear c1
  refine goM ?_
  refine wq_loop (fun m ρ hp => hp = H1 ∧ ρ 1 = .int .i64 (n : Int) ∧ ρ 6 = .int .i64 20) (m := 0) ⟨rfl, by simp [put_app, put_none, *], by simp [put_app, put_none, *]⟩ ?_
  clear e0 e1 e2 e6 e7 e8
  clear ρ
  rintro _ ρ hp2 ⟨rfl, e1, e6⟩
  refine goM ?_
  exact end_normal (by simp only [resRf, resRs, resR]; first | done | rfl) ⟨rfl, hM1⟩

theorem sortStable_ (B H : Heap) (L0 : List Res) (b n : Nat) (v sv : V) (ss : List Int) (hn : ss.length = n) (h8 : n ≤ 8) (h1 : 1 ≤ n) (hs : Sl 1 intC B sv ss) (hM : Mem B H (.own 1 natC v (List.range n) :: .box b [sv] :: L0)) :
    ∃ w H', Call Try.prog 25 [v, .fn 26 [.ptr b 0]] H w H' ∧ w = .tup [] ∧ Mem B H' (.own 1 natC v (rankN (scoreAt ss) n) :: .box b [sv] :: L0) := by
  refine call_turn fit mixed hM Try.func25 rfl rfl rfl (by kernel_rfl) fun _ => ?_
  have hlen := (hM.sl .here).len T22 rfl
  rw [List.length_range] at hlen
  obtain ⟨_, H1, c1, rfl, hM1⟩ := stable_ B H L0 b n v sv ss hn h8 h1 hs hM
  clear hM
  refine goM ?_
  refine l_callG c1 ?_
  refine goM ?_
  exact end_normal (by simp only [resRf, resRs, resR]; first | done | rfl) ⟨rfl, hM1⟩

def rankMay (ss : List Int) : Bool := (decide (1 ≤ ss.length) && decide (ss.length ≤ 8)) && vecMay ss
def rankE (ss : List Int) : Int := if rankMay ss then 0 else 1200
def rankL (ss : List Int) : List Nat := if rankMay ss then rankN (scoreAt ss) ss.length else []

theorem fill_step {k n : Nat} (hk : k < n) : (List.range k ++ List.replicate (n - k) 0).set k k = List.range (k + 1) ++ List.replicate (n - (k + 1)) 0 := by
  obtain ⟨m, rfl⟩ : ∃ m, n = k + 1 + m := ⟨n - (k + 1), by omega⟩
  rw [show k + 1 + m - k = m + 1 by omega, show k + 1 + m - (k + 1) = m by omega, List.replicate_succ]
  have := set_append_at (List.range k) 0 k (List.replicate m 0)
  rw [List.length_range] at this
  rw [this, List.range_succ, List.append_assoc]; rfl

theorem rankOf_ (H : Heap) (sv : V) (ss : List Int) (hs : Sl 1 intC H sv ss) (hl : ss.length ≤ 2 ^ 47) : ∃ w H', Call Try.prog 13 [sv] H w H' ∧ ∃ u, w = .tup [u, .int .i64 (rankE ss)] ∧ Mem H H' [.own 1 natC u (rankL ss)] := by
  have s0 := hs.cells
  have hlen := hs.len T22 rfl
  refine call_mem fit mixed Try.func13 rfl rfl rfl (by kernel_rfl) fun hM => ?_
  refine wq_seq (wq_line ?_)
  refine l_boxM T22 fun b1 H1 hM => ?_
  have c1 := vecMay_ H1 sv ss (hs.mono hM.pre) hl
  unfold rankE rankL rankMay
  obtain ⟨n, hn⟩ : ∃ n, ss.length = n := ⟨_, rfl⟩
  rw [hn] at hlen ⊢
  by_cases hz : n = 0
  · subst hz
    have d1 : ((((0 : Nat) : Int)) == 0) = true := rfl
    refine goM ?_
    exact end_2 (by first | exact .inl rfl | exact .inr rfl) ⟨.nils, rfl, (Mem.start H).grow hM.pre |>.nil 1 natC |>.front .here⟩
  have d1 : ((n : Int) == 0) = false := by simpa using hz
  by_cases h8 : n ≤ 8
  · have d2 : decide ((n : Int) > 8) = false := decide_eq_false (by omega)
    obtain ⟨vm, hvm⟩ : ∃ q, vecMay ss = q := ⟨_, rfl⟩
    rw [hvm] at c1 ⊢
    cases vm with
    | false =>
      have e1 : ((decide (1 ≤ n) && decide (n ≤ 8)) && false) = false := by simp
      simp only [e1]
      refine goM ?_
      refine l_callG c1 ?_
      refine goM ?_
      exact end_2 (by first | exact .inl rfl | exact .inr rfl) ⟨.nils, rfl, (Mem.start H).grow hM.pre |>.nil 1 natC |>.front .here⟩
    | true =>
      have e1 : ((decide (1 ≤ n) && decide (n ≤ 8)) && true) = true := by simp; omega
      simp only [e1, if_true]
      refine goM ?_
      refine l_callG c1 ?_
      clear e1 hvm c1 d1 d2
      refine goM ?_
      refine l_makeM 1 natC T22 rfl T3 (n := n) (z := 0) rfl rfl rfl rfl rfl ⟨by show (8 : Int) * _ ≤ _; omega, by omega⟩ fun v H2 hM => ?_
      have hvl := (hM.sl .here).len T22 rfl
      rw [List.length_replicate] at hvl
      refine goM ?_
      refine wq_loop (fun m ρ hp => ∃ k : Nat, k ≤ n ∧ m = n - k ∧ Mem H hp [.own 1 natC v (List.range k ++ List.replicate (n - k) 0), .box b1 [sv]] ∧ ρ 1 = .ptr b1 0 ∧ ρ 4 = v ∧ ρ 23 = .int .i64 (n : Int) ∧ ρ 24 = .int .i64 (k : Nat)) ⟨0, Nat.zero_le _, rfl, hM, rfl, rfl, rfl, rfl⟩ ?_
      clear hM
      rintro _ ρ hp ⟨k, hk, rfl, hM, h1, h4, h23, h24⟩
      refine goM ?_
      refine cond_go (fun hb => ?_) (fun hb => ?_)
      · have hk' : k < n := by simpa using hb
        clear hb
        obtain ⟨b3, hi3, put1⟩ := hM.elem .here T22 rfl T3 rfl (k := k) (by simp; omega)
        obtain ⟨H3, st1, hM1⟩ := put1 (.int .i64 (k : Int)) k rfl rfl rfl
        rw [fill_step hk'] at hM1
        have hw := wrap_succ (n := k) (by omega)
        clear put1 hM
        refine goM ?_
        refine l_stM st1 ?_
        refine goM ?_
        exact ⟨n - (k + 1), by omega, k + 1, hk', rfl, hM1, by simp [put_app, put_none, *]⟩
      · have hk' : k = n := by have : ¬ k < n := by simpa using hb
                               omega
        subst hk'
        clear hb
        rw [Nat.sub_self, List.replicate_zero, List.append_nil] at hM
        obtain ⟨_, H3, c2, rfl, hM1⟩ := sortStable_ H hp [] b1 k v sv ss hn h8 (by omega) hs hM
        clear hM
        refine goM ?_
        refine l_callG c2 ?_
        refine goM ?_
        exact end_2 (by first | exact .inl rfl | exact .inr rfl) ⟨v, rfl, hM1.subG⟩
  · have d2 : decide ((n : Int) > 8) = true := decide_eq_true (by omega)
    have e1 : ((decide (1 ≤ n) && decide (n ≤ 8)) && vecMay ss) = false := by simp [h8]
    simp only [e1]
    refine goM ?_
    exact end_2 (by first | exact .inl rfl | exact .inr rfl) ⟨.nils, rfl, (Mem.start H).grow hM.pre |>.nil 1 natC |>.front .here⟩
end Go.Proofs.Ytiekbfjmoemdgaa.VM

/- The statements' helpers: numbers that are copied, lent, compared, written over. -/
namespace Go.Proofs.Ytiekbfjmoemdgaa.VM
open Go
set_option linter.unusedVariables false
set_option linter.unusedSimpArgs false
attribute [local irreducible] wq wqL wqD wqE wqO Th Bk EndR
set_option maxHeartbeats 8000000

theorem num_ (H : Heap) (n : Int) : Call Try.prog 16 [.int .i64 n] H (.int .i64 n) H := by
  refine call_plain fit mixed Try.func16 rfl rfl rfl (by kernel_rfl) rfl ?_
  refine goW ?_
  refine end_finG ?_; simp [put_app, put_none, *]

theorem int_news {H : Heap} {w : V} {ys : List Int} (h : Sl 1 intC H w ys) : ∃ news, newsOf T (T 3).get! 22 w H = some (ys.length, news) ∧ Cells 1 intC news ys := h.news T22 rfl (ie := (T 3).get!) rfl

theorem and_mask (x : Int) (m : Nat) (hm : m < 2 ^ 62) (hmb : (BitVec.ofInt IntKind.i64.bits (m : Int)).toNat = m) : ∃ y : Int, IntKind.i64.wrap ((BitVec.ofInt IntKind.i64.bits x &&& BitVec.ofInt IntKind.i64.bits (m : Int)).toNat : Int) = y ∧ 0 ≤ y ∧ y ≤ m := by
  have h : (BitVec.ofInt IntKind.i64.bits x &&& BitVec.ofInt IntKind.i64.bits (m : Int)).toNat ≤ m := by
    rw [BitVec.toNat_and]
    exact Nat.le_trans Nat.and_le_right (by rw [hmb]; exact Nat.le_refl _)
  exact ⟨((BitVec.ofInt IntKind.i64.bits x &&& BitVec.ofInt IntKind.i64.bits (m : Int)).toNat : Int), wrap_nat (by omega), by omega, by omega⟩
theorem int_copy (H : Heap) (w : V) (ys : List Int) (h : Sl 1 intC H w ys) (hl : ys.length * 8 ≤ 2 ^ 47) :
    ∃ news v H', newsOf T (T 3).get! 22 w (H ++ [.row [] true]) = some (ys.length, news) ∧ appendV (T 3).get! (.slc H.length 0 0 0 true 1) ys.length news (H ++ [.row [] true]) = some (v, H') ∧ Mine 1 intC H H' v ys ∧ ∃ b, v.blk = some b ∧ H.length ≤ b := by
  obtain ⟨news, hn, hc⟩ := int_news (h.mono (List.prefix_append H [.row [] true]))
  obtain ⟨u, b, H', ha, ho, hf, hb⟩ := own_append (ie := (T 3).get!) (own_make (t := true) H Cells.nil) rfl hc ⟨by show (0 + ys.length) * 8 ≤ _; omega, by show 0 + ys.length ≤ _; omega⟩
  have hb' : H.length ≤ b := by simp at hb; omega
  refine ⟨news, u, H', hn, ha, ⟨hf.pre (List.prefix_append _ _) (Nat.le_refl _), .inr ⟨b, hb', ho⟩⟩, b, ?_, hb'⟩
  obtain ⟨cap, t, cs, rfl, _⟩ := ho
  rfl

theorem copyInts_ (H : Heap) (v : V) (es : List Int) (hes : Sl 1 intC H v es) (hl : es.length * 8 ≤ 2 ^ 47) : ∃ u H', Call Try.prog 23 [v] H u H' ∧ Mine 1 intC H H' u es ∧ ∃ b, u.blk = some b ∧ H.length ≤ b := by
  suffices h : ∃ u H', (Mine 1 intC H H' u es ∧ ∃ b, u.blk = some b ∧ H.length ≤ b) ∧ Call Try.prog 23 [v] H u H' by
    obtain ⟨u, H', h1, h2⟩ := h
    exact ⟨u, H', h2, h1⟩
  refine call_wq fit mixed Try.func23 rfl rfl rfl (by kernel_rfl) ?_
  obtain ⟨news, u, H', n1, a1, hm⟩ := int_copy H v es hes hl
  clear hes hl
  refine goW ?_
  refine l_appendG n1 a1 ?_
  refine goW ?_
  refine end_ret (by simp only [resRf, resRs, resR]; first | done | rfl) hm

theorem lendInts_ (H : Heap) (v : V) (es : List Int) (hes : Sl 1 intC H v es) (hl : (es.length + 2) * 8 ≤ 2 ^ 47) : ∃ u H', Call Try.prog 12 [v] H u H' ∧ H <+: H' ∧ Lent 1 intC H' u es [-7777, -8888] := by
  suffices h : ∃ u H', (H <+: H' ∧ Lent 1 intC H' u es [-7777, -8888]) ∧ Call Try.prog 12 [v] H u H' by
    obtain ⟨u, H', ⟨h1, h2⟩, h4⟩ := h
    exact ⟨u, H', h4, h1, h2⟩
  refine call_wq fit mixed Try.func12 rfl rfl rfl (by kernel_rfl) ?_
  have hlen := hes.len T22 rfl
  obtain ⟨u1, H1, hcall, hm1, b1, hb1, hb2⟩ := copyInts_ H v es hes (by omega)
  have hm : Cells 1 intC [.int .i64 (-7777), .int .i64 (-8888)] [-7777, -8888] := Cells.cons (cs := [_]) rfl rfl (Cells.one rfl rfl)
  obtain ⟨hp1, hm1⟩ := hm1
  rcases hm1 with ⟨rfl, _⟩ | ⟨b, hb, ho1⟩
  · cases hb1
  have ho1' := ho1.pre (List.prefix_append H1 [.row [.int .i64 (-7777), .int .i64 (-8888)] true])
  obtain ⟨u2, b2, H2, ha, ho2, hf, hb2⟩ := own_append (ie := (T 3).get!) ho1' rfl hm ⟨hl, by simp; omega⟩
  have hp2 : H <+: H2 := hf.pre (hp1.trans (List.prefix_append _ _)) hb
  obtain ⟨u, hu, hlent⟩ := ho2.lend
  clear hes hl
  refine goW ?_
  refine l_callG hcall ?_
  refine goW ?_
  refine l_appendG (news_row T22 rfl (by decide) rfl) ha ?_
  refine goW ?_
  refine end_ret (by simp only [resRf, resRs, resR]; first | done | rfl) ⟨hp2, hlent⟩

theorem take_step {α : Type} {xs ys : List α} {k : Nat} {x y : α} (h : xs.take k = ys.take k) (hx : xs[k]? = some x) (hy : ys[k]? = some y) (e : x = y) : xs.take (k + 1) = ys.take (k + 1) := by
  rw [List.take_add_one, List.take_add_one, h, hx, hy, e]

theorem sameInts_ (H : Heap) (u v : V) (xs ys : List Int) (hx : Sl 1 intC H u xs) (hy : Sl 1 intC H v ys) (lx : xs.length ≤ 2 ^ 47) : Call Try.prog 15 [u, v] H (.bool (decide (xs = ys))) H := by
  refine call_plain fit mixed Try.func15 rfl rfl rfl (by kernel_rfl) rfl ?_
  have hlx := hx.len T22 rfl
  have hly := hy.len T22 rfl
  refine goW ?_
  refine cond_go (fun hb => ?_) (fun hb => ?_)
  · refine goW ?_
    refine end_finG ?_; simp [put_app, put_none, *]
    intro e
    subst e
    simp at hb
  · have hl : xs.length = ys.length := by simp at hb; omega
    refine goW ?_
    refine wq_loop (fun c ρ h => ∃ k, k ≤ xs.length ∧ c = xs.length - k ∧ h = H ∧ xs.take k = ys.take k ∧ ρ 0 = u ∧ ρ 1 = v ∧ ρ 5 = .int .i64 (k : Nat)) ⟨0, Nat.zero_le _, rfl, rfl, by simp, rfl, rfl, rfl⟩ ?_
    rintro _ ρ h ⟨k, hk, rfl, rfl, hsame, h0, h1, h5⟩
    refine goW ?_
    refine cond_go (fun hb => ?_) (fun hb => ?_)
    · have hk' : k < xs.length := by simp at hb; omega
      obtain ⟨x, hxk⟩ : ∃ e, xs[k]? = some e := ⟨xs[k], by simp [hk']⟩
      obtain ⟨y, hyk⟩ : ∃ e, ys[k]? = some e := ⟨ys[k]'(by omega), by simp⟩
      obtain ⟨b, o, cs, hi, rfl, _, hlo, _⟩ := hx.get T22 rfl T3 rfl hxk
      obtain ⟨b2, o2, cs, hi2, rfl, _, hlo2, _⟩ := hy.get T22 rfl T3 rfl hyk
      have ho := loadV_one T3 rfl hlo
      have ho2 := loadV_one T3 rfl hlo2
      have hw := wrap_succ (n := k) (by omega)
      refine goW ?_
      refine cond_go (fun hc => ?_) (fun hc => ?_)
      all_goals simp at hc
      · refine goW ?_
        refine end_finG ?_; simp [put_app, put_none, *]
        intro e
        subst e
        rw [hxk] at hyk
        exact hc (Option.some.inj hyk)
      · refine goW ?_
        refine ⟨xs.length - (k + 1), by omega, k + 1, hk', rfl, rfl, take_step hsame hxk hyk hc, ?_⟩
        simp [put_app, put_none, *]
    · have hk' : k = xs.length := by simp at hb; omega
      subst hk'
      refine goW ?_
      refine end_finG ?_; simp [put_app, put_none, *]
      rw [List.take_of_length_le (Nat.le_refl _), List.take_of_length_le (by omega)] at hsame
      exact hsame

theorem keptInts_ (H : Heap) (u v : V) (xs ys : List Int) (hu : Lent 1 intC H u xs [-7777, -8888]) (hv : Sl 1 intC H v ys) (lx : xs.length ≤ 2 ^ 47) : Call Try.prog 18 [u, v] H (.bool (decide (xs = ys))) H := by
  refine call_plain fit mixed Try.func18 rfl rfl rfl (by kernel_rfl) rfl ?_
  have hlx := hu.sl.len T22 rfl
  have hly := hv.len T22 rfl
  have hw : IntKind.i64.wrap ((xs.length : Int) + 2) = (xs.length : Int) + 2 := wrap_i64 (by omega) (by omega)
  have hw1 : IntKind.i64.wrap ((xs.length : Int) + 1) = (xs.length : Int) + 1 := wrap_i64 (by omega) (by omega)
  obtain ⟨f, hf, hfs⟩ := hu.full (n := (xs.length : Int) + 2) (by simp)
  have hsame := sameInts_ H u v xs ys hu.sl hv lx
  obtain ⟨b1, o1, _, hi1, rfl, _, hl1, _⟩ := hfs.get T22 rfl T3 rfl (k := xs.length) (x := -7777) (by simp)
  obtain ⟨b2, o2, _, hi2, rfl, _, hl2, _⟩ := hfs.get T22 rfl T3 rfl (k := xs.length + 1) (x := -8888) (by simp)
  have ho1 := loadV_one T3 rfl hl1
  have ho2 := loadV_one T3 rfl hl2
  simp only [Int.natCast_add, Int.cast_ofNat_Int] at hi2
  clear hl1 hl2 hfs lx hu hv
  refine goW ?_
  refine l_callG hsame ?_
  refine goW ?_
  first | refine l_partG (fun hb => ?_) (fun hb => ?_) | refine d_partG (fun hb => ?_) (fun hb => ?_)
  · have he : xs = ys := of_decide_eq_true hb
    rw [← he] at hly
    clear he
    refine goW ?_
    refine end_finG ?_; simp [put_app, put_none, *]
  · refine goW ?_
    refine end_finG ?_; simp [put_app, put_none, *]

theorem spoilInts_ (B H : Heap) (v : V) (xs : List Int) (hm : Mine 1 intC B H v xs) (lx : xs.length ≤ 2 ^ 47) : ∃ H', Call Try.prog 17 [v] H (.tup []) H' ∧ B <+: H' := by
  suffices h : ∃ u H', (u = .tup [] ∧ B <+: H') ∧ Call Try.prog 17 [v] H u H' by
    obtain ⟨_, H', ⟨rfl, h1⟩, h2⟩ := h
    exact ⟨H', h2, h1⟩
  refine call_wq fit mixed Try.func17 rfl rfl rfl (by kernel_rfl) ?_
  obtain ⟨n, hn⟩ : ∃ n, xs.length = n := ⟨_, rfl⟩
  refine goW ?_
  refine wq_loop (fun c ρ hp => ∃ k ys, k ≤ n ∧ c = n - k ∧ ys.length = n ∧ Mine 1 intC B hp v ys ∧ ρ 0 = v ∧ ρ 2 = .int .i64 (k : Nat)) ⟨0, xs, Nat.zero_le _, rfl, hn, hm, rfl, rfl⟩ ?_
  rintro _ ρ hp ⟨k, ys, hk, rfl, hys, hm, h0, h2⟩
  have hlen := hm.sl.len T22 rfl
  rw [hys] at hlen
  refine goW ?_
  refine cond_go (fun hb => ?_) (fun hb => ?_)
  · have hk' : k < n := by simpa using hb
    clear hb
    obtain ⟨x, hxk⟩ : ∃ e, ys[k]? = some e := ⟨ys[k]'(by omega), by simp⟩
    obtain ⟨b, o, cs, hi, rfl, _, hlo, _⟩ := hm.sl.get T22 rfl T3 rfl hxk
    have ho := loadV_one T3 rfl hlo
    obtain ⟨b2, o2, h1, h2'⟩ := hm.store T22 rfl T3 rfl (k := k) (by omega)
    rw [hi] at h1
    cases h1
    obtain ⟨H', hst, hm2⟩ := h2' (.int .i64 (IntKind.i64.wrap (-9 - x))) _ rfl rfl rfl
    have hw := wrap_succ (n := k) (by omega)
    clear hxk hlo hm h2'
    refine goW ?_
    refine ⟨n - (k + 1), by omega, k + 1, _, hk', rfl, by simpa using hys, hm2, ?_⟩
    simp [put_app, put_none, *]
  · clear hb
    have hp' := hm.1
    refine goW ?_
    refine end_normal (by simp only [resRf, resRs, resR]; first | done | rfl) ⟨rfl, hp'⟩
end Go.Proofs.Ytiekbfjmoemdgaa.VM

/- Layer 12: the document's Rank. -/
namespace Go.Proofs.Ytiekbfjmoemdgaa.VM
open Go
set_option linter.unusedVariables false
set_option linter.unusedSimpArgs false
attribute [local irreducible] wq wqL wqD wqE wqO Th Bk EndR
set_option maxHeartbeats 8000000

theorem upTo_r (H : Heap) (x a b : Int) : Call Try.prog 28 [.int .i64 x, .int .i64 a, .int .i64 b] H (.bool (within x a b)) H := by
  refine call_pure fit mixed Try.func28 rfl rfl rfl (by kernel_rfl) rfl fun hM => ?_
  unfold within
  obtain ⟨q, hq⟩ : ∃ q, decide (x ≥ a) = q := ⟨_, rfl⟩
  rw [hq]
  cases q
  · refine goM ?_
    exact end_1 (by first | exact .inl rfl | exact .inr rfl) ⟨rfl, hM.pre⟩
  · refine goM ?_
    refine end_1 (by first | exact .inl rfl | exact .inr rfl) ⟨?_, hM.pre⟩
    simp

theorem refRank_ (H : Heap) (sv : V) (ss : List Int) (hs : Sl 1 intC H sv ss) (hl : ss.length ≤ 2 ^ 47) : ∃ w H', Call Try.prog 14 [sv] H w H' ∧ ∃ u, w = .tup [u, .int .i64 (rankE ss)] ∧ Mem H H' [.own 1 natC u (rankL ss)] := by
  have s0 := hs.cells
  have hlen := hs.len T22 rfl
  have c1 := refVecMay_ H sv ss hs hl
  refine call_mem fit mixed Try.func14 rfl rfl rfl (by kernel_rfl) fun hM => ?_
  unfold rankE rankL rankMay
  obtain ⟨n, hn⟩ : ∃ n, ss.length = n := ⟨_, rfl⟩
  have c0 := upTo_r H (n : Int) 1 8
  have hw8 : within (n : Int) 1 8 = (decide (1 ≤ n) && decide (n ≤ 8)) := by apply Bool.eq_iff_iff.2; simp [within]; omega
  rw [hw8] at c0
  rw [hn] at hlen hl ⊢
  obtain ⟨q1, hq1⟩ : ∃ q, (decide (1 ≤ n) && decide (n ≤ 8)) = q := ⟨_, rfl⟩
  rw [hq1] at c0 ⊢
  obtain ⟨q2, hq2⟩ : ∃ q, vecMay ss = q := ⟨_, rfl⟩
  rw [hq2] at c1 ⊢
  clear hw8
  refine goM ?_
  refine l_callG c0 ?_
  cases q1 with
  | false =>
    refine goM ?_
    exact end_2 (by first | exact .inl rfl | exact .inr rfl) ⟨.nils, rfl, hM.nil 1 natC⟩
  | true =>
    refine goM ?_
    refine l_callG c1 ?_
    cases q2 with
    | false =>
      refine goM ?_
      exact end_2 (by first | exact .inl rfl | exact .inr rfl) ⟨.nils, rfl, hM.nil 1 natC⟩
    | true =>
      have h18 : 1 ≤ n ∧ n ≤ 8 := by simpa using hq1
      simp only [Bool.true_and, if_true]
      clear c0 c1 hq1 hq2
      refine goM ?_
      refine wq_loop (fun m ρ hp => ∃ (i : Nat) (u : V), i ≤ n ∧ m = n - i ∧ Mem H hp [.own 1 natC u (rankN (scoreAt ss) i)] ∧ ρ 0 = sv ∧ ρ 4 = u ∧ ρ 5 = .int .i64 (i : Nat)) ⟨0, .nils, Nat.zero_le _, rfl, hM.nil 1 natC, rfl, rfl, rfl⟩ ?_
      clear hM
      rintro _ ρ hp ⟨i, u, hi, rfl, hM, h0, h4, h5⟩
      have hul := (hM.sl .here).len T22 rfl
      rw [rankN_len] at hul
      refine goM ?_
      refine cond_go (fun hb => ?_) (fun hb => ?_)
      · have hi' : i < n := by simpa using hb
        clear hb
        have hrl := rankN_len (scoreAt ss) i
        have hrm := rankN_mem (scoreAt ss) i
        have hwi := wrap_succ (n := i) (by omega)
        have hnext : rankN (scoreAt ss) (i + 1) = insR (scoreAt ss) i (rankN (scoreAt ss) i) := rfl
        rw [insR, hrl] at hnext
        refine goM ?_
        refine l_sliceM natC [i] [.int .i64 (i : Int)] T22 rfl T3 rfl (Cells.one (sz := 1) rfl rfl) (by decide) fun e1 H1 hM => ?_
        refine goM ?_
        refine l_appM (hM.sl .here) (xs := rankN (scoreAt ss) i) (hb := by rw [hrl]; simp only [List.length_cons, List.length_nil]; omega) fun u2 H2 hM => ?_
        replace hM : Mem H H2 [.own 1 natC u2 (rankN (scoreAt ss) i ++ [i])] := hM.subG
        rw [← mid_end, hrl] at hM
        generalize rankN (scoreAt ss) i = row at *
        have s2 := (hM.sl .here).cells
        clear hul
        refine goM ?_
        refine wq_loop (fun m ρ hp => ∃ k y : Nat, k ≤ i ∧ m = k ∧ insPos (scoreAt ss) i row i = insPos (scoreAt ss) i row k ∧ Mem H hp [.own 1 natC u2 (mid row k y [])] ∧ ρ 0 = sv ∧ ρ 4 = u2 ∧ ρ 5 = .int .i64 (i : Nat) ∧ ρ 6 = .int .i64 (k : Nat)) ⟨i, i, Nat.le_refl _, rfl, rfl, hM, by simp [put_app, put_none, *], by simp [put_app, put_none, *], by simp [put_app, put_none, *], by simp [put_app, put_none, *]⟩ ?_
        clear hM h0 h4 h5
        clear ρ
        rintro k ρ hp ⟨_, y, hk, rfl, hpos, hM, h0, h4, h5, h6⟩
        -- what comes behind the inner loop
        have leave : (k = 0 ∨ ¬ scoreAt ss (row.getD (k - 1) 0) > scoreAt ss i) → ∃ b o H3, idxV T 22 u2 (k : Int) = some (.ptr b o) ∧ storeV T 3 hp b o (.int .i64 (i : Int)) = some H3 ∧ Mem H H3 [.own 1 natC u2 (rankN (scoreAt ss) (i + 1))] := fun h => by
          have e : insPos (scoreAt ss) i row i = k := by rw [hpos, insPos_stop h]
          obtain ⟨b3, hi3, put1⟩ := hM.elem .here T22 rfl T3 rfl (k := k) (by rw [mid_len _ _ (by omega)]; omega)
          obtain ⟨H3, st1, hM1⟩ := put1 (.int .i64 (i : Int)) i rfl rfl rfl
          rw [mid_put _ _ _ (by omega), ← e, ← hnext] at hM1
          exact ⟨b3, _, H3, hi3, st1, hM1⟩
        cases k with
        | zero =>
          obtain ⟨b3, o3, H3, hi3, st1, hM2⟩ := leave (.inl rfl)
          clear leave hM
          have hd : decide (((0 : Nat) : Int) > 0) = false := rfl
          refine goM ?_
          refine l_stM st1 ?_
          refine goM ?_
          exact ⟨n - (i + 1), by omega, i + 1, u2, hi', rfl, hM2, by simp [put_app, put_none, *]⟩
        | succ k =>
          have hd : decide (((k + 1 : Nat) : Int) > 0) = true := decide_eq_true (by omega)
          have hw1 : IntKind.i64.wrap (((k + 1 : Nat) : Int) - 1) = (k : Int) := by rw [wrap_i64 (by omega) (by omega)]; omega
          have hki : k < row.length := by omega
          obtain ⟨x, hx⟩ : ∃ x, row.getD k 0 = x := ⟨_, rfl⟩
          have hxn : x < n := by
            have : x ∈ row := by rw [← hx, List.getD_eq_getElem?_getD, List.getElem?_eq_getElem hki]; exact List.getElem_mem _
            have := (hrm x).1 this; omega
          have g2 := mid_low y [] (Nat.lt_succ_self k) (by omega : k + 1 ≤ row.length)
          rw [hx] at g2
          obtain ⟨b2, o2, _, hi2', rfl, _, hlo2, _⟩ := (hM.sl .here).get T22 rfl T3 rfl g2
          have ho2 := loadV_one T3 rfl hlo2
          obtain ⟨b4, o4, _, hi4', rfl, _, hlo4, _⟩ := (hs.mono hM.pre).get T22 rfl T3 rfl (getDI (xs := ss) (k := x) (by omega))
          have ho4 := loadV_one T3 rfl hlo4
          obtain ⟨b5, o5, _, hi5', rfl, _, hlo5, _⟩ := (hs.mono hM.pre).get T22 rfl T3 rfl (getDI (xs := ss) (k := i) (by omega))
          have ho5 := loadV_one T3 rfl hlo5
          obtain ⟨b3, hi3, put1⟩ := hM.elem .here T22 rfl T3 rfl (k := k + 1) (by rw [mid_len _ _ (by omega)]; omega)
          obtain ⟨H1, st1, hM1⟩ := put1 (.int .i64 (x : Int)) x rfl rfl rfl
          rw [← hx, mid_move _ _ hki, hx] at hM1
          have hpos2 : decide (ss.getD x 0 > ss.getD i 0) = true → insPos (scoreAt ss) i row (k + 1) = insPos (scoreAt ss) i row k := fun h => insPos_succ (by rw [hx]; simpa [scoreAt] using h)
          have hleave2 : decide (ss.getD x 0 > ss.getD i 0) = false → _ := fun h => leave (.inr (by rw [Nat.add_sub_cancel, hx]; simpa [scoreAt] using h))
          obtain ⟨t, ht⟩ : ∃ t, decide (ss.getD x 0 > ss.getD i 0) = t := ⟨_, rfl⟩
          rw [ht] at hleave2 hpos2
          clear leave put1 hlo2 hlo4 hlo5 g2 hnext
          cases t with
          | false =>
            obtain ⟨b6, o6, H3, hi6, st6, hM2⟩ := hleave2 rfl
            rw [hi3] at hi6
            cases hi6
            clear hleave2 hpos2 hM hM1
            refine goM ?_
            refine l_stM st6 ?_
            refine goM ?_
            exact ⟨n - (i + 1), by omega, i + 1, u2, hi', rfl, hM2, by simp [put_app, put_none, *]⟩
          | true =>
            have hpos3 := hpos2 rfl
            clear hleave2 hpos2 hM
            refine goM ?_
            refine l_stM st1 ?_
            refine goM ?_
            exact ⟨k, by omega, k, x, by omega, rfl, by rw [hpos, hpos3], hM1, by simp [put_app, put_none, *]⟩
      · have hi' : i = n := by have : ¬ i < n := by simpa using hb
                               omega
        subst hi'
        clear hb
        refine goM ?_
        exact end_2 (by first | exact .inl rfl | exact .inr rfl) ⟨u, rfl, hM⟩
end Go.Proofs.Ytiekbfjmoemdgaa.VM

/- The statements' helpers: rows of data that are copied and compared. -/
namespace Go.Proofs.Ytiekbfjmoemdgaa.VM
open Go
set_option linter.unusedVariables false
set_option linter.unusedSimpArgs false
attribute [local irreducible] wq wqL wqD wqE wqO Th Bk EndR
set_option maxHeartbeats 8000000

def rowC (cs : List V) (p : V × Int) : Prop := cs = [p.1, .int .i64 p.2]
def RowAt (H : Heap) (p : V × Int) (r : List Int × Int) : Prop := Sl 1 intC H p.1 r.1 ∧ p.2 = r.2
def RowsAt (H : Heap) (rv : List (V × Int)) (rs : List (List Int × Int)) : Prop := rv.length = rs.length ∧ ∀ (k : Nat) p r, rv[k]? = some p → rs[k]? = some r → RowAt H p r
/-- rows of data lie there -/
def Rows (H : Heap) (v : V) (rs : List (List Int × Int)) : Prop := ∃ rv, Sl 2 rowC H v rv ∧ RowsAt H rv rs

theorem RowAt.mono {H H' : Heap} {p : V × Int} {r : List Int × Int} (hp : H <+: H') (h : RowAt H p r) : RowAt H' p r := ⟨h.1.mono hp, h.2⟩
theorem RowsAt.mono {H H' : Heap} {rv : List (V × Int)} {rs : List (List Int × Int)} (hp : H <+: H') (h : RowsAt H rv rs) : RowsAt H' rv rs := ⟨h.1, fun k p r a b => (h.2 k p r a b).mono hp⟩
theorem Rows.mono {H H' : Heap} {v : V} {rs : List (List Int × Int)} (hp : H <+: H') (h : Rows H v rs) : Rows H' v rs := by
  obtain ⟨rv, h1, h2⟩ := h
  exact ⟨rv, h1.mono hp, h2.mono hp⟩

end Go.Proofs.Ytiekbfjmoemdgaa.VM

/- The statements' helpers: rows of data that are compared; rows and shapes that are handed in. -/
namespace Go.Proofs.Ytiekbfjmoemdgaa.VM
open Go
set_option linter.unusedVariables false
set_option linter.unusedSimpArgs false
attribute [local irreducible] wq wqL wqD wqE wqO Th Bk EndR
set_option maxHeartbeats 8000000

theorem rd_ints {K : Heap} {D : Type} {v : V} {d : DataW D} (h : RdV T K 22 v d) : ∃ xs, Sl 1 intC K v xs ∧ xs.length * 8 ≤ reachBytes :=
  (h.plain T22 rfl).isSlice T22 rfl T3 fun cs x hx => by
    obtain ⟨n, h1, _⟩ := hx.isInt T3 rfl
    exact ⟨n, h1⟩
end Go.Proofs.Ytiekbfjmoemdgaa.VM

/- Chapter 12: what every program answers; the statement Ranks. -/
namespace Go.Proofs.Ytiekbfjmoemdgaa.VM
open Go
set_option linter.unusedVariables false
set_option linter.unusedSimpArgs false
attribute [local irreducible] wq wqL wqD wqE wqO Th Bk EndR
set_option maxHeartbeats 8000000

/-- a fact that is kept from simp -/
def Held (p : Prop) : Prop := p
theorem ints_cells (xs : List Int) : Cells 1 intC (xs.flatMap fun x => [V.int .i64 x]) xs := cells_of (R := intC) (fun x => [V.int .i64 x]) (fun x => ⟨rfl, rfl⟩) xs
theorem slInts {H : Heap} {v : V} {xs : List Nat} (h : Sl 1 natC H v xs) : Sl 1 intC H v (xs.map fun (k : Nat) => (k : Int)) := by
  rcases h with ⟨rfl, rfl⟩ | ⟨b, off, cap, t, cs, wr, rfl, h1, h2, h3, h4⟩
  · exact .inl ⟨rfl, rfl⟩
  · refine .inr ⟨b, off, cap, t, cs, wr, by rw [List.length_map], by rw [List.length_map]; exact h1, h2, by rw [List.length_map]; exact h3, fun k y hy => ?_⟩
    rw [List.getElem?_map] at hy
    cases hx : xs[k]? with
    | none => rw [hx] at hy; cases hy
    | some x => rw [hx] at hy; cases hy; exact h4 k x hx
theorem ownInts {H : Heap} {b : Nat} {v : V} {xs : List Nat} (h : Own 1 natC H b v xs) : Own 1 intC H b v (xs.map fun (k : Nat) => (k : Int)) := by
  obtain ⟨cap, t, cs, rfl, h1, h2, h3, h4⟩ := h
  refine ⟨cap, t, cs, by rw [List.length_map], by rw [List.length_map]; exact h1, h2, h3, by rw [List.length_map]; exact h4.1, ?_, fun k y hy => ?_⟩
  · rw [List.length_map]; exact h4.2.1
  · rw [List.length_map]
    rw [List.getElem?_map] at hy
    cases hx : xs[k]? with
    | none => rw [hx] at hy; cases hy
    | some x => rw [hx] at hy; cases hy; exact h4.2.2 k x hx
theorem Mem.mineInts {B H : Heap} {v : V} {xs : List Nat} {L : List Res} {f : Res → List Res} (h : Mem B H L) (hh : Has L (.own 1 natC v xs) f) : Mine 1 intC B H v (xs.map fun (k : Nat) => (k : Int)) := by
  have hm := h.mine hh
  exact ⟨hm.1, hm.2.imp (fun h => ⟨h.1, by rw [h.2]; rfl⟩) fun ⟨b, h1, h2⟩ => ⟨b, h1, ownInts h2⟩⟩

theorem awake_ (K : Heap) : Call Try.prog 19 [] K (.bool true) K := by
  have e1 : rankE [5, -3, 5, 0] = 0 := by decide +kernel
  have e2 : rankL [5, -3, 5, 0] = [1, 3, 0, 2] := by decide +kernel
  have e3 : rankE [] = 1200 := by decide +kernel
  have e4 : rankE [1073741825] = 1200 := by decide +kernel
  refine call_pure fit mixed Try.func19 rfl rfl rfl (by kernel_rfl) rfl fun hM => ?_
  refine goM ?_
  refine l_sliceM intC [5, -3, 5, 0] [.int .i64 5, .int .i64 (-3), .int .i64 5, .int .i64 0] T22 rfl T3 rfl (ints_cells [5, -3, 5, 0]) (by decide) fun v1 H1 hM => ?_
  obtain ⟨_, H2, c1, u1, rfl, m1⟩ := rankOf_ H1 v1 [5, -3, 5, 0] (hM.sl .here) (by decide)
  rw [e1] at c1
  rw [e2] at m1
  refine l_callG c1 ?_
  replace hM := hM.call1 m1
  clear c1 m1
  refine goM ?_
  obtain ⟨_, H3, c1, u2, rfl, m1⟩ := rankOf_ H2 .nils [] (.inl ⟨rfl, rfl⟩) (by decide)
  rw [e3] at c1
  refine l_callG c1 ?_
  replace hM := hM.call1 m1
  clear c1 m1
  refine goM ?_
  refine l_sliceM intC [1073741825] [.int .i64 1073741825] T22 rfl T3 rfl (ints_cells [1073741825]) (by decide) fun v2 H4 hM => ?_
  obtain ⟨_, H5, c1, u3, rfl, m1⟩ := rankOf_ H4 v2 [1073741825] (hM.sl .here) (by decide)
  rw [e4] at c1
  refine l_callG c1 ?_
  replace hM := hM.call1 m1
  clear c1 m1
  refine goM ?_
  refine l_sliceM intC [1, 3, 0, 2] [.int .i64 1, .int .i64 3, .int .i64 0, .int .i64 2] T22 rfl T3 rfl (ints_cells [1, 3, 0, 2]) (by decide) fun v3 H6 hM => ?_
  have c1 := sameInts_ H6 u1 v3 [1, 3, 0, 2] [1, 3, 0, 2] (slInts (xs := [1, 3, 0, 2]) (hM.slG)) (hM.sl .here) (by decide)
  rw [decide_eq_true rfl] at c1
  refine l_callG c1 ?_
  refine goM ?_
  refine l_callG (num_ _ _) ?_
  refine goM ?_
  refine l_callG (num_ _ _) ?_
  refine goM ?_
  refine l_callG (num_ _ _) ?_
  refine goM ?_
  exact end_1 (by first | exact .inl rfl | exact .inr rfl) ⟨rfl, hM.pre⟩

theorem law_ranks {D : Type} (K : Heap) (vs : List V) (ds : List (DataW D)) (ro : Ro K) (h : RdAll T K [22] vs ds) : ∃ K', Call Try.prog 3 vs K (.bool true) K' := by
  obtain ⟨v1, vs, d1, ds, rfl, rfl, hv1, h⟩ := rdAll_cons h
  obtain ⟨rfl, rfl⟩ := rdAll_nil h
  obtain ⟨ss, hs, lw⟩ := rd_ints hv1
  replace lw : ss.length * 8 ≤ 140737488351232 := lw
  clear hv1 h
  refine ⟨K, ?_⟩
  have s1 := hs.cells
  refine call_pure fit mixed Try.func3 rfl rfl rfl (by kernel_rfl) rfl fun hM => ?_
  obtain ⟨us, H1, c1, p1, hlent⟩ := lendInts_ K v1 ss hs (by omega)
  refine goM ?_
  refine l_callG c1 ?_
  replace hM := hM.grow p1
  clear c1
  have s2 := hlent.sl.cells
  refine goM ?_
  obtain ⟨_, H2, c1, u1, rfl, m1⟩ := rankOf_ H1 us ss hlent.sl (by omega)
  refine l_callG c1 ?_
  have hk2 := hlent.pre m1.pre
  have s3 := (m1.sl .here).cells
  replace hM := hM.call1 m1
  have hMs := m1
  clear c1 m1
  refine goM ?_
  obtain ⟨_, H3, c1, u2, rfl, m1⟩ := refRank_ H2 v1 ss (hs.mono hM.pre) (by omega)
  refine l_callG c1 ?_
  have s4 := (m1.sl .here).cells
  have hMt := hMs.call1 m1
  replace hM := hM.call1 m1
  clear c1 m1
  refine goM ?_
  have c1 := sameInts_ H3 u1 u2 _ _ (slInts (hM.sl (v := u1) (xs := rankL ss) (by (repeat (first | exact Has.here | apply Has.there))))) (slInts (hM.sl (v := u2) (xs := rankL ss) .here)) (by
    rw [List.length_map]
    unfold rankL
    split
    · rw [rankN_len]; omega
    · simp)
  rw [decide_eq_true rfl] at c1
  refine l_callG c1 ?_
  clear c1
  refine goM ?_
  refine l_callG (num_ _ _) ?_
  refine goM ?_
  obtain ⟨H4, c1, p4⟩ := spoilInts_ H1 H3 u1 _ (hMt.mineInts (xs := rankL ss) (v := u1) (by (repeat (first | exact Has.here | apply Has.there)))) (by
    rw [List.length_map]
    unfold rankL
    split
    · rw [rankN_len]; omega
    · simp)
  refine l_callG c1 ?_
  clear c1
  refine goM ?_
  have c1 := keptInts_ H4 us v1 ss ss (hlent.pre p4) (hs.mono (p1.trans p4)) (by omega)
  rw [decide_eq_true rfl] at c1
  refine l_callG c1 ?_
  refine goM ?_
  refine l_callG (awake_ _) ?_
  refine goM ?_
  exact end_1 (by first | exact .inl rfl | exact .inr rfl) ⟨rfl, p1.trans p4⟩
end Go.Proofs.Ytiekbfjmoemdgaa.VM

/- Chapter 12: the statements RankForms, RankRow. -/
namespace Go.Proofs.Ytiekbfjmoemdgaa.VM
open Go
set_option linter.unusedVariables false
set_option linter.unusedSimpArgs false
attribute [local irreducible] wq wqL wqD wqE wqO Th Bk EndR
set_option maxHeartbeats 8000000

def vC (cs : List V) (v : V) : Prop := cs = [v]
theorem vs_cells (xs : List V) : Cells 1 vC (xs.flatMap fun x => [x]) xs := cells_of (R := vC) (fun x => [x]) (fun x => ⟨rfl, rfl⟩) xs
theorem rank_no {ss : List Int} (h : rankMay ss = false) : rankE ss = 1200 ∧ rankL ss = [] := by unfold rankE rankL; rw [h]; exact ⟨rfl, rfl⟩
theorem rankL_len' {ss : List Int} (h : rankMay ss = true) : (rankL ss).length = ss.length ∧ 1 ≤ ss.length ∧ ss.length ≤ 8 := by
  have h' := h
  unfold rankMay at h'
  simp only [Bool.and_eq_true, decide_eq_true_eq] at h'
  unfold rankL
  rw [if_pos h]
  exact ⟨rankN_len _ _, h'.1.1, h'.1.2⟩
theorem may_long {n : Nat} (h : 9 ≤ n) : rankMay (List.replicate n 0) = false := by
  unfold rankMay
  have : decide ((List.replicate n (0 : Int)).length ≤ 8) = false := decide_eq_false (by rw [List.length_replicate]; omega)
  rw [this, Bool.and_false, Bool.false_and]
theorem may_high {d : Int} (h : 1 ≤ d) : rankMay [0, 1073741824 + d] = false := by
  have : vecMay [0, 1073741824 + d] = false := by
    unfold vecMay
    rw [Bool.and_eq_false_iff]; right
    rw [List.all_eq_false]
    exact ⟨1073741824 + d, by simp, by simp [within]; omega⟩
  unfold rankMay; rw [this, Bool.and_false]
theorem may_low {d : Int} (h : 1 ≤ d) : rankMay [-1073741824 - d] = false := by
  have : vecMay [-1073741824 - d] = false := by
    unfold vecMay
    rw [Bool.and_eq_false_iff]; right
    rw [List.all_eq_false]
    exact ⟨-1073741824 - d, by simp, by simp [within]; omega⟩
  unfold rankMay; rw [this, Bool.and_false]

theorem law_rankForms {D : Type} (K : Heap) (vs : List V) (ds : List (DataW D)) (ro : Ro K) (h : RdAll T K [3, 3] vs ds) : ∃ K', Call Try.prog 4 vs K (.bool true) K' := by
  obtain ⟨v1, vs, d1, ds, rfl, rfl, hv1, h⟩ := rdAll_cons h
  obtain ⟨v2, vs, d2, ds, rfl, rfl, hv2, h⟩ := rdAll_cons h
  obtain ⟨rfl, rfl⟩ := rdAll_nil h
  obtain ⟨n, rfl, _⟩ := hv1.int T3 rfl
  obtain ⟨x, rfl, _⟩ := hv2.int T3 rfl
  clear hv1 hv2 h
  obtain ⟨y, hy, hy0, hy1⟩ := and_mask x 1023 (by decide) (by decide)
  replace hy : IntKind.i64.wrap ((BitVec.ofInt IntKind.i64.bits x &&& BitVec.ofInt IntKind.i64.bits 1023).toNat : Int) = y := hy
  obtain ⟨z, hz, hz0, hz1⟩ := and_mask n 3 (by decide) (by decide)
  replace hz : IntKind.i64.wrap ((BitVec.ofInt IntKind.i64.bits n &&& BitVec.ofInt IntKind.i64.bits 3).toNat : Int) = z := hz
  obtain ⟨d, hd⟩ : ∃ d : Nat, 1 + y = d := ⟨(1 + y).toNat, by omega⟩
  have hdd : 1 ≤ d ∧ d ≤ 1024 := by omega
  have hd1 : IntKind.i64.wrap (1 + y) = d := by rw [hd]; exact wrap_nat (by omega)
  have w1 : IntKind.i64.wrap (8 + (d : Int)) = ((8 + d : Nat) : Int) := by rw [wrap_i64 (by omega) (by omega)]; omega
  have w2 : IntKind.i64.wrap (1073741824 + (d : Int)) = 1073741824 + (d : Int) := wrap_i64 (by omega) (by omega)
  have w3 : IntKind.i64.wrap (-1073741824 - (d : Int)) = -1073741824 - (d : Int) := wrap_i64 (by omega) (by omega)
  have hz4 : z = 0 ∨ z = 1 ∨ z = 2 ∨ z = 3 := by omega
  have f0 : rankE [] = 1200 ∧ rankL [] = [] := rank_no rfl
  have f1 := rank_no (may_long (n := 8 + d) (by omega))
  have f2 := rank_no (may_high (d := (d : Int)) (by omega))
  have f3 := rank_no (may_low (d := (d : Int)) (by omega))
  clear hd hy0 hy1 hz0 hz1
  refine ⟨K, ?_⟩
  refine call_pure fit mixed Try.func4 rfl rfl rfl (by kernel_rfl) rfl fun hM => ?_
  refine goM ?_
  refine l_callG (awake_ _) ?_
  refine goM ?_
  refine l_makeM 1 intC T22 rfl T3 (n := 8 + d) (z := 0) rfl rfl rfl rfl rfl ⟨by show (8 : Int) * _ ≤ _; omega, by omega⟩ fun a1 H1 hM => ?_
  have s1 := (hM.sl .here).cells
  refine goM ?_
  refine l_sliceM intC [0, 1073741824 + (d : Int)] [.int .i64 0, .int .i64 (1073741824 + (d : Int))] T22 rfl T3 rfl (ints_cells [0, 1073741824 + (d : Int)]) (by decide) fun a2 H2 hM => ?_
  have s2 := (hM.sl .here).cells
  refine goM ?_
  refine l_sliceM intC [-1073741824 - (d : Int)] [.int .i64 (-1073741824 - (d : Int))] T22 rfl T3 rfl (ints_cells [-1073741824 - (d : Int)]) (by decide) fun a3 H3 hM => ?_
  have s3 := (hM.sl .here).cells
  refine goM ?_
  refine l_sliceM vC [.nils, a1, a2, a3] [.nils, a1, a2, a3] T34 rfl T22 rfl (vs_cells [.nils, a1, a2, a3]) (by decide) fun b H4 hM => ?_
  have q0 := hM.sl (sz := 1) (R := intC) (v := a1) (xs := List.replicate (8 + d) 0) (by (repeat (first | exact Has.here | apply Has.there)))
  have q1 := hM.sl (sz := 1) (R := intC) (v := a2) (xs := [0, 1073741824 + (d : Int)]) (by (repeat (first | exact Has.here | apply Has.there)))
  have q2 := hM.sl (sz := 1) (R := intC) (v := a3) (xs := [-1073741824 - (d : Int)]) (by (repeat (first | exact Has.here | apply Has.there)))
  have fin : ∀ (v : V) (ss : List Int), Sl 1 intC H4 v ss → ss.length ≤ 2000 → rankE ss = 1200 ∧ rankL ss = [] → ∃ H5 u, Call Try.prog 13 [v] H4 (.tup [u, .int .i64 1200]) H5 ∧ K <+: H5 ∧ builtinP T .len [22] [u] = some (.int .i64 0) := fun v ss hs hl hf => by
    obtain ⟨_, H5, c1, u, rfl, m1⟩ := rankOf_ H4 v ss hs (by omega)
    rw [hf.1] at c1
    rw [hf.2] at m1
    exact ⟨H5, u, c1, hM.pre.trans m1.pre, (m1.sl .here).len T22 rfl⟩
  have e0 := (hM.sl .here).get T34 rfl T22 rfl (k := 0) (x := .nils) rfl
  have e1 := (hM.sl .here).get T34 rfl T22 rfl (k := 1) (x := a1) rfl
  have e2 := (hM.sl .here).get T34 rfl T22 rfl (k := 2) (x := a2) rfl
  have e3 := (hM.sl .here).get T34 rfl T22 rfl (k := 3) (x := a3) rfl
  have hl1 : Held ((List.replicate (8 + d) (0 : Int)).length ≤ 2000) := by show _ ≤ _; rw [List.length_replicate]; omega
  clear hdd
  rcases hz4 with rfl | rfl | rfl | rfl
  · obtain ⟨b2, o2, _, hi, rfl, _, hlo, _⟩ := e0
    replace hi : idxV T 34 b 0 = some (.ptr b2 o2) := hi
    have ho := loadV_one T22 rfl hlo
    obtain ⟨H5, u, c1, p5, hul⟩ := fin .nils [] (.inl ⟨rfl, rfl⟩) (by simp) f0
    clear fin e1 e2 e3 hlo
    refine goM ?_
    refine l_callG c1 ?_
    refine goM ?_
    refine l_callG (num_ _ _) ?_
    refine goM ?_
    exact end_1 (by first | exact .inl rfl | exact .inr rfl) ⟨rfl, p5⟩
  · obtain ⟨b2, o2, _, hi, rfl, _, hlo, _⟩ := e1
    replace hi : idxV T 34 b 1 = some (.ptr b2 o2) := hi
    have ho := loadV_one T22 rfl hlo
    obtain ⟨H5, u, c1, p5, hul⟩ := fin a1 _ q0 hl1 f1
    clear fin e0 e2 e3 hlo
    refine goM ?_
    refine l_callG c1 ?_
    refine goM ?_
    refine l_callG (num_ _ _) ?_
    refine goM ?_
    exact end_1 (by first | exact .inl rfl | exact .inr rfl) ⟨rfl, p5⟩
  · obtain ⟨b2, o2, _, hi, rfl, _, hlo, _⟩ := e2
    replace hi : idxV T 34 b 2 = some (.ptr b2 o2) := hi
    have ho := loadV_one T22 rfl hlo
    obtain ⟨H5, u, c1, p5, hul⟩ := fin a2 _ q1 (by simp) f2
    clear fin e0 e1 e3 hlo
    refine goM ?_
    refine l_callG c1 ?_
    refine goM ?_
    refine l_callG (num_ _ _) ?_
    refine goM ?_
    exact end_1 (by first | exact .inl rfl | exact .inr rfl) ⟨rfl, p5⟩
  · obtain ⟨b2, o2, _, hi, rfl, _, hlo, _⟩ := e3
    replace hi : idxV T 34 b 3 = some (.ptr b2 o2) := hi
    have ho := loadV_one T22 rfl hlo
    obtain ⟨H5, u, c1, p5, hul⟩ := fin a3 _ q2 (by simp) f3
    clear fin e0 e1 e2 hlo
    refine goM ?_
    refine l_callG c1 ?_
    refine goM ?_
    refine l_callG (num_ _ _) ?_
    refine goM ?_
    exact end_1 (by first | exact .inl rfl | exact .inr rfl) ⟨rfl, p5⟩

def boolC (cs : List V) (b : Bool) : Prop := cs = [.bool b]
/-- who was seen -/
def markL (row : List Nat) (n i : Nat) : List Bool := (List.range n).map fun x => decide (x ∈ row.take i)
theorem mark_zero (row : List Nat) (n : Nat) : List.replicate n false = markL row n 0 := by
  refine (List.eq_replicate_iff.2 ⟨by simp [markL], fun b hb => ?_⟩).symm
  simp only [markL, List.mem_map] at hb
  obtain ⟨x, _, rfl⟩ := hb
  simp
theorem mark_get {row : List Nat} {n i x : Nat} (hx : x < n) : (markL row n i)[x]? = some (decide (x ∈ row.take i)) := by
  simp [markL, hx]
theorem mark_next {row : List Nat} {n i c : Nat} (hc : row[i]? = some c) : (markL row n i).set c true = markL row n (i + 1) := by
  apply List.ext_getElem?
  intro j
  rw [List.getElem?_set]
  have hi := (List.getElem?_eq_some_iff.1 hc).1
  have ht : row.take (i + 1) = row.take i ++ [c] := by rw [List.take_add_one, hc]; rfl
  by_cases hj : j < n
  · rw [mark_get hj, mark_get hj, ht]
    by_cases hcj : c = j
    · subst hcj
      simp [markL, hj]
    · simp only [hcj, if_false]
      congr 1
      rw [decide_eq_decide, List.mem_append, List.mem_singleton]
      exact ⟨fun h => .inl h, fun h => h.elim id fun h => absurd h.symm hcj⟩
  · have e1 : (markL row n i)[j]? = none := by simp [markL]; omega
    have e2 : (markL row n (i + 1))[j]? = none := by simp [markL]; omega
    rw [e1, e2]
    by_cases hcj : c = j
    · subst hcj; simp [markL]; omega
    · simp [hcj]
theorem rank_fresh {f : Nat → Int} {n i c : Nat} (hc : (rankN f n)[i]? = some c) : ¬ c ∈ (rankN f n).take i := fun h => by
  obtain ⟨j, hj⟩ := List.mem_iff_getElem?.1 h
  rw [List.getElem?_take] at hj
  split at hj
  · rename_i hji
    obtain ⟨l1, e1⟩ := List.getElem?_eq_some_iff.1 hj
    obtain ⟨l2, e2⟩ := List.getElem?_eq_some_iff.1 hc
    have := List.pairwise_iff_getElem.1 (rankN_sorted f n) j i l1 l2 hji
    rw [e1, e2] at this
    exact before_irr f c this
  · cases hj

theorem law_rankRow {D : Type} (K : Heap) (vs : List V) (ds : List (DataW D)) (ro : Ro K) (h : RdAll T K [22] vs ds) : ∃ K', Call Try.prog 5 vs K (.bool true) K' := by
  obtain ⟨v1, vs, d1, ds, rfl, rfl, hv1, h⟩ := rdAll_cons h
  obtain ⟨rfl, rfl⟩ := rdAll_nil h
  obtain ⟨ss, hs, lw⟩ := rd_ints hv1
  replace lw : ss.length * 8 ≤ 140737488351232 := lw
  clear hv1 h
  refine ⟨K, ?_⟩
  have s1 := hs.cells
  have hl1 := hs.len T22 rfl
  refine call_pure fit mixed Try.func5 rfl rfl rfl (by kernel_rfl) rfl fun hM => ?_
  refine goM ?_
  refine l_callG (awake_ _) ?_
  refine goM ?_
  obtain ⟨_, H1, c1, u1, rfl, m1⟩ := rankOf_ K v1 ss hs (by omega)
  have hul := (m1.sl .here).len T22 rfl
  have s2 := (m1.sl .here).cells
  replace hM := hM.call1 m1
  cases hmay : rankMay ss with
  | false =>
    obtain ⟨f1, f2⟩ := rank_no hmay
    rw [f1] at c1
    rw [f2] at m1 hul
    refine l_callG c1 ?_
    clear c1
    refine goM ?_
    refine l_callG (num_ _ _) ?_
    refine goM ?_
    obtain ⟨_, H2, c1, u2, rfl, m2⟩ := refRank_ H1 v1 ss (hs.mono hM.pre) (by omega)
    rw [f1] at c1
    refine l_callG c1 ?_
    refine goM ?_
    exact end_1 (by first | exact .inl rfl | exact .inr rfl) ⟨rfl, hM.pre.trans m2.pre⟩
  | true =>
    have f1 : rankE ss = 0 := by unfold rankE; rw [hmay]; rfl
    have f2 : rankL ss = rankN (scoreAt ss) ss.length := by unfold rankL; rw [hmay]; rfl
    obtain ⟨hrl, hn1, hn8⟩ := rankL_len' hmay
    rw [f1] at c1
    rw [hrl] at hul
    refine l_callG c1 ?_
    obtain ⟨n, hn⟩ : ∃ n, ss.length = n := ⟨_, rfl⟩
    rw [hn] at hl1 hul hn1 hn8
    rw [f2, hn] at hM
    clear c1 m1 f1 f2 hrl
    refine goM ?_
    refine l_callG (num_ _ _) ?_
    refine goM ?_
    refine l_makeM 1 boolC T36 rfl T4 (n := n) (z := false) rfl rfl rfl rfl rfl ⟨by show (1 : Int) * _ ≤ _; omega, by omega⟩ fun w H2 hM => ?_
    have hrow := rankN_len (scoreAt ss) n
    have hmem := rankN_mem (scoreAt ss) n
    have hsort := rankN_sorted (scoreAt ss) n
    have hfresh := fun i c => rank_fresh (f := scoreAt ss) (n := n) (i := i) (c := c)
    generalize rankN (scoreAt ss) n = row at *
    rw [mark_zero row n] at hM
    refine goM ?_
    refine wq_loop (fun m ρ hp => ∃ i : Nat, i ≤ n ∧ m = n - i ∧ Mem K hp [.own 1 boolC w (markL row n i), .own 1 natC u1 row] ∧ ρ 0 = v1 ∧ ρ 3 = u1 ∧ ρ 7 = w ∧ ρ 8 = .int .i64 (i : Nat)) ⟨0, Nat.zero_le _, rfl, hM, rfl, rfl, rfl, rfl⟩ ?_
    clear hM
    rintro _ ρ hp ⟨i, hi, rfl, hM, h0, h3, h7, h8⟩
    have hwl := (hM.sl .here).len T36 rfl
    rw [show (markL row n i).length = n by simp [markL]] at hwl
    refine goM ?_
    refine cond_go (fun hb => ?_) (fun hb => ?_)
    · have hi' : i < n := by simpa using hb
      clear hb
      obtain ⟨c, hc⟩ : ∃ c, row[i]? = some c := ⟨row[i]'(by omega), by simp⟩
      have hcn : c < n := (hmem c).1 (List.mem_iff_getElem?.2 ⟨i, hc⟩)
      have hg := mark_get (row := row) (i := i) hcn
      rw [decide_eq_false (hfresh i c hc)] at hg
      obtain ⟨b1, o1, _, hi1, rfl, _, hlo1, _⟩ := (hM.sl (sz := 1) (R := natC) (v := u1) (xs := row) (.there .here)).get T22 rfl T3 rfl hc
      have ho1 := loadV_one T3 rfl hlo1
      obtain ⟨b2, o2, _, hi2, rfl, _, hlo2, _⟩ := (hM.sl .here).get T36 rfl T4 rfl hg
      have ho2 := loadV_one T4 rfl hlo2
      obtain ⟨b3, hi3, put1⟩ := hM.elem .here T36 rfl T4 rfl (k := c) (by simp [markL]; exact hcn)
      obtain ⟨H3, st1, hM1⟩ := put1 (.bool true) true rfl rfl rfl
      rw [mark_next hc] at hM1
      rw [hi2] at hi3
      cases hi3
      have d1 : decide ((c : Int) < 0) = false := decide_eq_false (by omega)
      have d2 : decide ((c : Int) ≥ (n : Int)) = false := decide_eq_false (by omega)
      have hwi := wrap_succ (n := i) (by omega)
      clear put1 hlo1 hlo2 hg hM
      refine goM ?_
      refine l_stM st1 ?_
      have hi1' : idxV T 22 u1 (i : Int) = some (.ptr b1 o1) := hi1
      obtain ⟨b1', o1', _, hi1x, rfl, _, hlo1, _⟩ := (hM1.sl (sz := 1) (R := natC) (v := u1) (xs := row) (.there .here)).get T22 rfl T3 rfl hc
      rw [hi1] at hi1x
      cases hi1x
      replace ho1 := loadV_one T3 rfl hlo1
      obtain ⟨b4, o4, _, hi4, rfl, _, hlo4, _⟩ := (hs.mono hM1.pre).get T22 rfl T3 rfl (getDI (xs := ss) (k := c) (by omega))
      have ho4 := loadV_one T3 rfl hlo4
      clear ho2 hlo1 hlo4
      cases i with
      | zero =>
        have hd : decide (((0 : Nat) : Int) > 0) = false := rfl
        refine goM ?_
        exact ⟨n - 1, by omega, 1, hi', rfl, hM1, by simp [put_app, put_none, *]⟩
      | succ k =>
        have hd : decide (((k + 1 : Nat) : Int) > 0) = true := decide_eq_true (by omega)
        have hw1 : IntKind.i64.wrap (((k + 1 : Nat) : Int) - 1) = (k : Int) := by rw [wrap_i64 (by omega) (by omega)]; omega
        obtain ⟨p, hp'⟩ : ∃ p, row[k]? = some p := ⟨row[k]'(by omega), by simp⟩
        have hpn : p < n := (hmem p).1 (List.mem_iff_getElem?.2 ⟨k, hp'⟩)
        have hbf : before (scoreAt ss) p c := by
          obtain ⟨l1, e1⟩ := List.getElem?_eq_some_iff.1 hp'
          obtain ⟨l2, e2⟩ := List.getElem?_eq_some_iff.1 hc
          have := List.pairwise_iff_getElem.1 hsort k (k + 1) l1 l2 (by omega)
          rw [e1, e2] at this; exact this
        obtain ⟨b5, o5, _, hi5, rfl, _, hlo5, _⟩ := (hM1.sl (sz := 1) (R := natC) (v := u1) (xs := row) (.there .here)).get T22 rfl T3 rfl hp'
        have ho5 := loadV_one T3 rfl hlo5
        obtain ⟨b6, o6, _, hi6, rfl, _, hlo6, _⟩ := (hs.mono hM1.pre).get T22 rfl T3 rfl (getDI (xs := ss) (k := p) (by omega))
        have ho6 := loadV_one T3 rfl hlo6
        unfold before scoreAt at hbf
        have d3 : decide (ss.getD p 0 > ss.getD c 0) = false := decide_eq_false (by omega)
        have hbf2 : Held (ss.getD p 0 = ss.getD c 0 → p < c) := fun e => by omega
        clear hlo5 hlo6 hbf
        cases he : (ss.getD p 0 == ss.getD c 0) with
        | false =>
          refine goM ?_
          exact ⟨n - (k + 1 + 1), by omega, k + 1 + 1, hi', rfl, hM1, by simp [put_app, put_none, *]⟩
        | true =>
          have d4 : decide ((p : Int) > (c : Int)) = false := decide_eq_false (by have := hbf2 (by simpa using he); omega)
          refine goM ?_
          exact ⟨n - (k + 1 + 1), by omega, k + 1 + 1, hi', rfl, hM1, by simp [put_app, put_none, *]⟩
    · have hi' : i = n := by have : ¬ i < n := by simpa using hb
                             omega
      subst hi'
      clear hb
      refine goM ?_
      exact end_1 (by first | exact .inl rfl | exact .inr rfl) ⟨rfl, hM.pre⟩
end Go.Proofs.Ytiekbfjmoemdgaa.VM

/- Chapter 12: the statement RankTwo. -/
namespace Go.Proofs.Ytiekbfjmoemdgaa.VM
open Go
set_option linter.unusedVariables false
set_option linter.unusedSimpArgs false
attribute [local irreducible] wq wqL wqD wqE wqO Th Bk EndR
set_option maxHeartbeats 8000000

theorem two_no {ss : List Int} (h : rankMay ss = false) : rankE ss = 1200 ∧ rankL ss = [] := by unfold rankE rankL; rw [h]; exact ⟨rfl, rfl⟩
theorem two_yes {ss : List Int} (h : rankMay ss = true) : rankE ss = 0 ∧ rankL ss = rankN (scoreAt ss) ss.length ∧ 1 ≤ ss.length ∧ ss.length ≤ 8 ∧ vecMay ss = true := by
  have h' := h
  unfold rankMay at h'
  simp only [Bool.and_eq_true, decide_eq_true_eq] at h'
  unfold rankE rankL
  rw [if_pos h, if_pos h]
  exact ⟨rfl, rfl, h'.1.1, h'.1.2, h'.2⟩
theorem may_set {ss : List Int} (h : rankMay ss = true) (k : Nat) {y : Int} (hy : 0 ≤ y ∧ y ≤ 65535) : rankMay (ss.set k y) = true := by
  obtain ⟨_, _, h1, h8, hv⟩ := two_yes h
  unfold rankMay
  rw [List.length_set, decide_eq_true h1, decide_eq_true h8]
  simp only [vecMay, Bool.and_eq_true, decide_eq_true_eq, List.all_eq_true] at hv ⊢
  refine ⟨by simp, by rw [List.length_set]; exact hv.1, fun b hb => ?_⟩
  rcases List.mem_or_eq_of_mem_set hb with h | h
  · exact hv.2 b h
  · subst h; rw [within_iff]; omega
theorem score_set {ss : List Int} {k : Nat} {y : Int} : ∀ j, j ≠ k → scoreAt ss j = scoreAt (ss.set k y) j := fun j hj => by
  unfold scoreAt
  rw [List.getD_eq_getElem?_getD, List.getD_eq_getElem?_getD, List.getElem?_set_ne (fun e => hj e.symm)]
theorem filter_snoc {k : Nat} {row : List Nat} {i c : Nat} (hc : row[i]? = some c) : (row.take (i + 1)).filter (· != k) = (row.take i).filter (· != k) ++ (if (c != k) then [c] else []) := by
  rw [List.take_add_one, hc, List.filter_append]
  congr 1
  simp only [Option.toList_some, List.filter_cons, List.filter_nil]
theorem u64_bounds (n : Int) : 0 ≤ IntKind.u64.wrap n ∧ IntKind.u64.wrap n < 18446744073709551616 := by
  unfold IntKind.wrap
  simp only [IntKind.bits, IntKind.signed, Bool.false_and, Bool.false_eq_true, if_false, Int.reducePow]
  omega
theorem u64_small {n : Int} (h1 : 0 ≤ n) (h2 : n < 18446744073709551616) : IntKind.u64.wrap n = n := by
  unfold IntKind.wrap
  simp only [IntKind.bits, IntKind.signed, Bool.false_and, Bool.false_eq_true, if_false, Int.reducePow]
  omega

theorem law_rankTwo {D : Type} (K : Heap) (vs : List V) (ds : List (DataW D)) (ro : Ro K) (h : RdAll T K [22, 3, 3] vs ds) : ∃ K', Call Try.prog 6 vs K (.bool true) K' := by
  obtain ⟨v1, vs, d1, ds, rfl, rfl, hv1, h⟩ := rdAll_cons h
  obtain ⟨v2, vs, d2, ds, rfl, rfl, hv2, h⟩ := rdAll_cons h
  obtain ⟨v3, vs, d3, ds, rfl, rfl, hv3, h⟩ := rdAll_cons h
  obtain ⟨rfl, rfl⟩ := rdAll_nil h
  obtain ⟨ss, hs, lw⟩ := rd_ints hv1
  replace lw : ss.length * 8 ≤ 140737488351232 := lw
  obtain ⟨at0, rfl, _⟩ := hv2.int T3 rfl
  obtain ⟨to, rfl, _⟩ := hv3.int T3 rfl
  clear hv1 hv2 hv3 h
  obtain ⟨y, hy, hy0, hy1⟩ := and_mask to 65535 (by decide) (by decide)
  replace hy : IntKind.i64.wrap ((BitVec.ofInt IntKind.i64.bits to &&& BitVec.ofInt IntKind.i64.bits 65535).toNat : Int) = y := hy
  refine ⟨K, ?_⟩
  have s1 := hs.cells
  have hl1 := hs.len T22 rfl
  refine call_pure fit mixed Try.func6 rfl rfl rfl (by kernel_rfl) rfl fun hM => ?_
  refine goM ?_
  refine l_callG (awake_ _) ?_
  refine goM ?_
  obtain ⟨_, H1, c1, u1, rfl, m1⟩ := rankOf_ K v1 ss hs (by omega)
  have hul := (m1.sl .here).len T22 rfl
  have s2 := (m1.sl .here).cells
  replace hM := hM.call1 m1
  cases hmay : rankMay ss with
  | false =>
    obtain ⟨f1, f2⟩ := two_no hmay
    rw [f1] at c1
    rw [f2] at m1 hul
    refine l_callG c1 ?_
    clear c1
    refine goM ?_
    refine l_callG (num_ _ _) ?_
    refine goM ?_
    refine l_callG (num_ _ _) ?_
    refine goM ?_
    exact end_1 (by first | exact .inl rfl | exact .inr rfl) ⟨rfl, hM.pre⟩
  | true =>
    obtain ⟨f1, f2, hn1, hn8, hvec⟩ := two_yes hmay
    have hmay2 := fun k => may_set hmay k (y := y) ⟨hy0, hy1⟩
    obtain ⟨n, hn⟩ : ∃ n, ss.length = n := ⟨_, rfl⟩
    rw [f1] at c1
    rw [f2, rankN_len] at hul
    refine l_callG c1 ?_
    rw [hn] at hl1 hul hn1 hn8
    rw [f2, hn] at hM
    clear c1 m1 f1 f2
    -- who is turned
    have hu := u64_bounds at0
    have wn : IntKind.u64.wrap (n : Int) = (n : Int) := u64_small (by omega) (by omega)
    have nz : ((n : Int) = 0) = False := by simp; omega
    obtain ⟨k, hk⟩ : ∃ k : Nat, (IntKind.u64.wrap at0).tmod (n : Int) = (k : Int) := ⟨((IntKind.u64.wrap at0).tmod (n : Int)).toNat, by
      rw [Int.toNat_of_nonneg (Int.tmod_nonneg _ hu.1)]⟩
    have hkn : k < n := by
      have := Int.tmod_lt_of_pos (IntKind.u64.wrap at0) (show (0 : Int) < (n : Int) by omega)
      rw [hk] at this; omega
    have wk : IntKind.i64.wrap (k : Int) = (k : Int) := wrap_nat (by omega)
    clear hu
    refine goM ?_
    refine l_callG (num_ _ _) ?_
    refine goM ?_
    refine l_sliceM intC [] [] T22 rfl T3 rfl (ints_cells []) (by decide) fun e1 H2 hM => ?_
    refine goM ?_
    refine l_appM (hs.mono hM.pre) (xs := ([] : List Int)) (hb := by rw [hn]; simp only [List.length_nil]; omega) fun x1 H3 hM => ?_
    rw [List.nil_append] at hM
    have s3 := (hM.sl .here).cells
    refine goM ?_
    obtain ⟨b3, hi3, put1⟩ := hM.elem .here T22 rfl T3 rfl (k := k) (by omega)
    obtain ⟨H4, st1, hM1⟩ := put1 (.int .i64 y) y rfl rfl rfl
    clear put1 hM
    refine goM ?_
    refine l_stM st1 ?_
    refine goM ?_
    have hM := hM1
    obtain ⟨_, H5, c1, u2, rfl, m1⟩ := rankOf_ H4 x1 (ss.set k y) (hM1.sl .here) (by rw [List.length_set]; omega)
    obtain ⟨g1, g2, _, _, _⟩ := two_yes (hmay2 k)
    rw [g1] at c1
    rw [g2, List.length_set, hn] at m1
    refine l_callG c1 ?_
    have hvl := (m1.sl .here).len T22 rfl
    rw [rankN_len] at hvl
    have s4 := (m1.sl .here).cells
    replace hM := hM.call1 m1
    have htwo := rank_two (n := n) (score_set (ss := ss) (k := k) (y := y))
    have ha := rankN_len (scoreAt ss) n
    have hb' := rankN_len (scoreAt (ss.set k y)) n
    replace hM : Mem K H5 [.own 1 natC u2 (rankN (scoreAt (ss.set k y)) n), .own 1 natC u1 (rankN (scoreAt ss) n)] := hM.subG
    generalize rankN (scoreAt (ss.set k y)) n = rb at *
    generalize rankN (scoreAt ss) n = ra at *
    clear c1 m1 g1 g2 hM1 st1 hmay2
    refine goM ?_
    refine l_callG (num_ _ _) ?_
    refine goM ?_
    refine wq_loop (fun m ρ hp => ∃ (i : Nat) (p q : V), i ≤ n ∧ m = n - i ∧ Mem K hp [.own 1 natC q ((rb.take i).filter (· != k)), .own 1 natC p ((ra.take i).filter (· != k)), .own 1 natC u2 rb, .own 1 natC u1 ra] ∧ ρ 7 = u1 ∧ ρ 9 = .int .i64 (k : Int) ∧ ρ 11 = u2 ∧ ρ 13 = p ∧ ρ 14 = q ∧ ρ 15 = .int .i64 (i : Nat)) ⟨0, .nils, .nils, Nat.zero_le _, rfl, (hM.nil 1 natC).nil 1 natC, rfl, rfl, rfl, rfl, rfl, rfl⟩ ?_
    clear hM
    rintro _ ρ hp ⟨i, p, q, hi, rfl, hM, h7, h9, h11, h13, h14, h15⟩
    refine goM ?_
    refine cond_go (fun hb => ?_) (fun hb => ?_)
    · have hi' : i < n := by simpa using hb
      clear hb
      obtain ⟨c, hc⟩ : ∃ c, ra[i]? = some c := ⟨ra[i]'(by omega), by simp⟩
      obtain ⟨e, he⟩ : ∃ e, rb[i]? = some e := ⟨rb[i]'(by omega), by simp⟩
      have fa := filter_snoc (k := k) hc
      have fb := filter_snoc (k := k) he
      have hla : ((ra.take i).filter (· != k)).length ≤ 8 := Nat.le_trans (List.length_filter_le _ _) (by rw [List.length_take]; omega)
      have hlb : ((rb.take i).filter (· != k)).length ≤ 8 := Nat.le_trans (List.length_filter_le _ _) (by rw [List.length_take]; omega)
      have hwi := wrap_succ (n := i) (by omega)
      obtain ⟨b1, o1, _, hi1, rfl, _, hlo1, hlc1⟩ := (hM.sl (sz := 1) (R := natC) (v := u1) (xs := ra) (by (repeat (first | exact Has.here | apply Has.there)))).get T22 rfl T3 rfl hc
      have ho1 := loadV_one T3 rfl hlo1
      have eca : ((c : Int) != (k : Int)) = (c != k) := by apply Bool.eq_iff_iff.2; simp; omega
      have ecb : ((e : Int) != (k : Int)) = (e != k) := by apply Bool.eq_iff_iff.2; simp; omega
      clear hlo1 hlc1
      cases hca : (c != k)
      · rw [hca] at eca fa
        have fa' : (ra.take (i + 1)).filter (· != k) = (ra.take i).filter (· != k) := by rw [fa]; simp
        rw [← fa'] at hM
        refine goM ?_
        obtain ⟨b2, o2, _, hi2, rfl, _, hlo2, hlc2⟩ := (hM.sl (sz := 1) (R := natC) (v := u2) (xs := rb) (by (repeat (first | exact Has.here | apply Has.there)))).get T22 rfl T3 rfl he
        have ho2 := loadV_one T3 rfl hlo2
        clear hlo2 hlc2
        cases hcb : (e != k)
        · rw [hcb] at ecb fb
          have fb' : (rb.take (i + 1)).filter (· != k) = (rb.take i).filter (· != k) := by rw [fb]; simp
          rw [← fb'] at hM
          clear fa fb hcb hla hlb
          refine goM ?_
          exact ⟨n - (i + 1), by omega, i + 1, p, q, hi', rfl, hM.subG, by simp [put_app, put_none, *]⟩
        · rw [hcb] at ecb fb
          have fb' : (rb.take (i + 1)).filter (· != k) = (rb.take i).filter (· != k) ++ [e] := by rw [fb]; simp
          refine goM ?_
          refine l_sliceM natC [e] [.int .i64 (e : Int)] T22 rfl T3 rfl (Cells.one (sz := 1) rfl rfl) (by decide) fun e2 H8 hM => ?_
          refine goM ?_
          refine l_appM (hM.sl .here) (xs := (rb.take i).filter (· != k)) (hb := by simp only [List.length_cons, List.length_nil]; omega) fun q2 H9 hM => ?_
          rw [← fb'] at hM
          clear fa fb hcb hla hlb
          refine goM ?_
          exact ⟨n - (i + 1), by omega, i + 1, p, q2, hi', rfl, hM.subG, by simp [put_app, put_none, *]⟩
      · rw [hca] at eca fa
        have fa' : (ra.take (i + 1)).filter (· != k) = (ra.take i).filter (· != k) ++ [c] := by rw [fa]; simp
        refine goM ?_
        refine l_sliceM natC [c] [.int .i64 (c : Int)] T22 rfl T3 rfl (Cells.one (sz := 1) rfl rfl) (by decide) fun e1 H6 hM => ?_
        refine goM ?_
        refine l_appM (hM.sl .here) (xs := (ra.take i).filter (· != k)) (hb := by simp only [List.length_cons, List.length_nil]; omega) fun p2 H7 hM => ?_
        rw [← fa'] at hM
        refine goM ?_
        obtain ⟨b2, o2, _, hi2, rfl, _, hlo2, hlc2⟩ := (hM.sl (sz := 1) (R := natC) (v := u2) (xs := rb) (by (repeat (first | exact Has.here | apply Has.there)))).get T22 rfl T3 rfl he
        have ho2 := loadV_one T3 rfl hlo2
        clear hlo2 hlc2
        cases hcb : (e != k)
        · rw [hcb] at ecb fb
          have fb' : (rb.take (i + 1)).filter (· != k) = (rb.take i).filter (· != k) := by rw [fb]; simp
          rw [← fb'] at hM
          clear fa fb hcb hla hlb
          refine goM ?_
          exact ⟨n - (i + 1), by omega, i + 1, p2, q, hi', rfl, hM.subG, by simp [put_app, put_none, *]⟩
        · rw [hcb] at ecb fb
          have fb' : (rb.take (i + 1)).filter (· != k) = (rb.take i).filter (· != k) ++ [e] := by rw [fb]; simp
          refine goM ?_
          refine l_sliceM natC [e] [.int .i64 (e : Int)] T22 rfl T3 rfl (Cells.one (sz := 1) rfl rfl) (by decide) fun e2 H8 hM => ?_
          refine goM ?_
          refine l_appM (hM.sl .here) (xs := (rb.take i).filter (· != k)) (hb := by simp only [List.length_cons, List.length_nil]; omega) fun q2 H9 hM => ?_
          rw [← fb'] at hM
          clear fa fb hcb hla hlb
          refine goM ?_
          exact ⟨n - (i + 1), by omega, i + 1, p2, q2, hi', rfl, hM.subG, by simp [put_app, put_none, *]⟩
    · have hi' : i = n := by have : ¬ i < n := by simpa using hb
                             omega
      subst hi'
      clear hb
      rw [List.take_of_length_le (by omega), List.take_of_length_le (by omega)] at hM
      refine goM ?_
      have c1 := sameInts_ hp p q _ _ (slInts (hM.sl (v := p) (xs := ra.filter (· != k)) (by (repeat (first | exact Has.here | apply Has.there))))) (slInts (hM.sl (v := q) (xs := rb.filter (· != k)) .here)) (by
        rw [List.length_map]; exact Nat.le_trans (List.length_filter_le _ _) (by omega))
      rw [decide_eq_true (by rw [htwo])] at c1
      refine l_callG c1 ?_
      refine goM ?_
      exact end_1 (by first | exact .inl rfl | exact .inr rfl) ⟨rfl, hM.pre⟩
end Go.Proofs.Ytiekbfjmoemdgaa.VM
