/- Joined texts: Tab, NetA, NetB, RankB, RankC, IntA, RankD, RowA, RowB, RankE, ChoiceA, ChoiceB. -/
import Derived.Test.YtiekbfjmoemdgaaJC3
import Derived.Test.YtiekbfjmoemdgaaRows
import Derived.KernelRfl
/- The table of the types of this seat, printed by mktab.py. -/
namespace Go.Proofs.Ytiekbfjmoemdgaa.VM
open Go

def tabL : List (Option TI) := [
  none,
  none,
  some { k := .int .i64, size := 1, bytes := 8, zero := [.int .i64 0] },
  some { k := .int .i64, size := 1, bytes := 8, zero := [.int .i64 0] },
  some { k := .bool, size := 1, bytes := 1, zero := [.bool false] },
  some { k := .int .u8, size := 1, bytes := 1, zero := [.int .u8 0] },
  some { k := .int .u8, size := 1, bytes := 1, zero := [.int .u8 0] },
  some { k := .strct [(2, 0), (3, 1), (4, 2), (6, 3)], size := 4, bytes := 24, zero := [.int .i64 0, .int .i64 0, .bool false, .int .u8 0] },
  some { k := .strct [(2, 0), (3, 1), (4, 2), (6, 3)], size := 4, bytes := 24, zero := [.int .i64 0, .int .i64 0, .bool false, .int .u8 0] },
  some { k := .str, size := 1, bytes := 16, zero := [.str ByteArray.empty] },
  some { k := .str, size := 1, bytes := 16, zero := [.str ByteArray.empty] },
  some { k := .str, size := 1, bytes := 16, zero := [.str ByteArray.empty] },
  some { k := .int .u64, size := 1, bytes := 8, zero := [.int .u64 0] },
  some { k := .strct [(9, 0), (12, 1)], size := 2, bytes := 24, zero := [.str ByteArray.empty, .int .u64 0] },
  some { k := .strct [(9, 0), (12, 1)], size := 2, bytes := 24, zero := [.str ByteArray.empty, .int .u64 0] },
  some { k := .ptr, size := 1, bytes := 8, zero := [.nilp] },
  some { k := .ptr, size := 1, bytes := 8, zero := [.nilp] },
  some { k := .ptr, size := 1, bytes := 8, zero := [.nilp] },
  some { k := .strct [(17, 0)], size := 1, bytes := 8, zero := [.nilp] },
  some { k := .strct [(17, 0)], size := 1, bytes := 8, zero := [.nilp] },
  none,
  some { k := .int .i32, size := 1, bytes := 4, zero := [.int .i32 0] },
  some { k := .slice 3, size := 1, bytes := 24, zero := [.nils] },
  none,
  some { k := .int .i64, size := 1, bytes := 8, zero := [.int .i64 0] },
  none,
  none,
  none,
  none,
  none,
  none,
  none,
  none,
  none,
  some { k := .slice 22, size := 1, bytes := 24, zero := [.nils] },
  none,
  some { k := .slice 4, size := 1, bytes := 24, zero := [.nils] },
  some { k := .int .u64, size := 1, bytes := 8, zero := [.int .u64 0] },
  none,
  none,
  none,
  none,
  none,
  none,
  some { k := .arr 8 3, size := 8, bytes := 64, zero := List.replicate 8 (.int .i64 0) },
  none,
  none,
  none,
  none,
  none,
  none,
  none,
  none,
  none,
  none,
  none,
  none,
  some { k := .strct [(17, 0), (17, 1), (17, 2), (9, 3)], size := 4, bytes := 40, zero := [.nilp, .nilp, .nilp, .str ByteArray.empty] },
  some { k := .strct [(17, 0), (17, 1), (17, 2), (9, 3)], size := 4, bytes := 40, zero := [.nilp, .nilp, .nilp, .str ByteArray.empty] },
  some { k := .arr 0 16, size := 0, bytes := 0, zero := [] },
  some { k := .strct [(59, 0)], size := 0, bytes := 0, zero := [] },
  some { k := .strct [(59, 0)], size := 0, bytes := 0, zero := [] },
  none,
  some { k := .int .u32, size := 1, bytes := 4, zero := [.int .u32 0] },
  some { k := .int .u8, size := 1, bytes := 1, zero := [.int .u8 0] },
  some { k := .int .u8, size := 1, bytes := 1, zero := [.int .u8 0] },
  none,
  some { k := .ptr, size := 1, bytes := 8, zero := [.nilp] },
  some { k := .int .i32, size := 1, bytes := 4, zero := [.int .i32 0] },
  some { k := .int .i32, size := 1, bytes := 4, zero := [.int .i32 0] },
  none,
  none,
  none
]
def T : Tab := fun t => (tabL[t]?).join
set_option maxRecDepth 100000 in
theorem fit : Fits Try.prog T := fits_of rfl (by kernel_rfl)
theorem mixed : Try.prog.follows .mixedOrders = true := by kernel_rfl
theorem laidOut : laidOutB Try.prog = true := by kernel_rfl
theorem T2 : T 2 = some { k := .int .i64, size := 1, bytes := 8, zero := [.int .i64 0] } := rfl
theorem T3 : T 3 = some { k := .int .i64, size := 1, bytes := 8, zero := [.int .i64 0] } := rfl
theorem T4 : T 4 = some { k := .bool, size := 1, bytes := 1, zero := [.bool false] } := rfl
theorem T5 : T 5 = some { k := .int .u8, size := 1, bytes := 1, zero := [.int .u8 0] } := rfl
theorem T6 : T 6 = some { k := .int .u8, size := 1, bytes := 1, zero := [.int .u8 0] } := rfl
theorem T7 : T 7 = some { k := .strct [(2, 0), (3, 1), (4, 2), (6, 3)], size := 4, bytes := 24, zero := [.int .i64 0, .int .i64 0, .bool false, .int .u8 0] } := rfl
theorem T8 : T 8 = some { k := .strct [(2, 0), (3, 1), (4, 2), (6, 3)], size := 4, bytes := 24, zero := [.int .i64 0, .int .i64 0, .bool false, .int .u8 0] } := rfl
theorem T9 : T 9 = some { k := .str, size := 1, bytes := 16, zero := [.str ByteArray.empty] } := rfl
theorem T10 : T 10 = some { k := .str, size := 1, bytes := 16, zero := [.str ByteArray.empty] } := rfl
theorem T11 : T 11 = some { k := .str, size := 1, bytes := 16, zero := [.str ByteArray.empty] } := rfl
theorem T12 : T 12 = some { k := .int .u64, size := 1, bytes := 8, zero := [.int .u64 0] } := rfl
theorem T13 : T 13 = some { k := .strct [(9, 0), (12, 1)], size := 2, bytes := 24, zero := [.str ByteArray.empty, .int .u64 0] } := rfl
theorem T14 : T 14 = some { k := .strct [(9, 0), (12, 1)], size := 2, bytes := 24, zero := [.str ByteArray.empty, .int .u64 0] } := rfl
theorem T15 : T 15 = some { k := .ptr, size := 1, bytes := 8, zero := [.nilp] } := rfl
theorem T16 : T 16 = some { k := .ptr, size := 1, bytes := 8, zero := [.nilp] } := rfl
theorem T17 : T 17 = some { k := .ptr, size := 1, bytes := 8, zero := [.nilp] } := rfl
theorem T18 : T 18 = some { k := .strct [(17, 0)], size := 1, bytes := 8, zero := [.nilp] } := rfl
theorem T19 : T 19 = some { k := .strct [(17, 0)], size := 1, bytes := 8, zero := [.nilp] } := rfl
theorem T21 : T 21 = some { k := .int .i32, size := 1, bytes := 4, zero := [.int .i32 0] } := rfl
theorem T22 : T 22 = some { k := .slice 3, size := 1, bytes := 24, zero := [.nils] } := rfl
theorem T24 : T 24 = some { k := .int .i64, size := 1, bytes := 8, zero := [.int .i64 0] } := rfl
theorem T34 : T 34 = some { k := .slice 22, size := 1, bytes := 24, zero := [.nils] } := rfl
theorem T36 : T 36 = some { k := .slice 4, size := 1, bytes := 24, zero := [.nils] } := rfl
theorem T37 : T 37 = some { k := .int .u64, size := 1, bytes := 8, zero := [.int .u64 0] } := rfl
theorem T44 : T 44 = some { k := .arr 8 3, size := 8, bytes := 64, zero := List.replicate 8 (.int .i64 0) } := rfl
theorem T57 : T 57 = some { k := .strct [(17, 0), (17, 1), (17, 2), (9, 3)], size := 4, bytes := 40, zero := [.nilp, .nilp, .nilp, .str ByteArray.empty] } := rfl
theorem T58 : T 58 = some { k := .strct [(17, 0), (17, 1), (17, 2), (9, 3)], size := 4, bytes := 40, zero := [.nilp, .nilp, .nilp, .str ByteArray.empty] } := rfl
theorem T59 : T 59 = some { k := .arr 0 16, size := 0, bytes := 0, zero := [] } := rfl
theorem T60 : T 60 = some { k := .strct [(59, 0)], size := 0, bytes := 0, zero := [] } := rfl
theorem T61 : T 61 = some { k := .strct [(59, 0)], size := 0, bytes := 0, zero := [] } := rfl
theorem T63 : T 63 = some { k := .int .u32, size := 1, bytes := 4, zero := [.int .u32 0] } := rfl
theorem T64 : T 64 = some { k := .int .u8, size := 1, bytes := 1, zero := [.int .u8 0] } := rfl
theorem T65 : T 65 = some { k := .int .u8, size := 1, bytes := 1, zero := [.int .u8 0] } := rfl
theorem T67 : T 67 = some { k := .ptr, size := 1, bytes := 8, zero := [.nilp] } := rfl
theorem T68 : T 68 = some { k := .int .i32, size := 1, bytes := 4, zero := [.int .i32 0] } := rfl
theorem T69 : T 69 = some { k := .int .i32, size := 1, bytes := 4, zero := [.int .i32 0] } := rfl
end Go.Proofs.Ytiekbfjmoemdgaa.VM

/- Layers 1, 2, 5: numbers, activation, shapes: the program's functions and the document's. -/
namespace Go.Proofs.Ytiekbfjmoemdgaa.VM
open Go
set_option linter.unusedVariables false
set_option linter.unusedSimpArgs false
attribute [local irreducible] wq wqL wqD wqE wqO Th Bk EndR
set_option maxHeartbeats 8000000

theorem fixMay_ (H : Heap) (x : Int) : Call Try.prog 32 [.int .i64 x] H (.bool (fixMay x)) H := by
  refine call_plain fit mixed Try.func32 rfl rfl rfl (by kernel_rfl) rfl ?_
  repeat' (first | (refine l_pl ?_; refine l_go ?_) | (refine d_pl ?_; refine d_go ?_) | (refine l_gd ?_; first | refine l_onG ?_ | refine l_offG ?_) | (refine d_gd ?_; first | refine d_onG ?_ | refine d_offG ?_) | refine wq_seq ?_ | refine wq_line ?_ | refine wq_draw (by decide +kernel) ?_ | refine wq_block ?_ | refine l_nil ?_ | refine d_nil ?_ | refine wq_skip ?_ | refine wq_ret ?_ | refine wq_exit ?_ | refine th_normal ?_ | refine th_ret ?_ | refine th_exit ?_ | refine bk_normal ?_ | refine bk_ret ?_ | refine bk_exit ?_ | refine bk_other rfl ?_ | first | refine l_partG (fun hb => ?_) (fun hb => ?_) | refine d_partG (fun hb => ?_) (fun hb => ?_))
  all_goals refine end_finG ?_; simp [put_app, put_none, *]
  all_goals simp_all [within]
  all_goals (first | done | omega)

theorem clip_min (x a b : Int) (h : a ≤ b) : (if (if x > a then x else a) < b then (if x > a then x else a) else b) = clip x a b := by
  unfold clip; split <;> split <;> (try split) <;> omega
theorem clip_max (x a b : Int) (h : a ≤ b) : (if (if x < b then x else b) > a then (if x < b then x else b) else a) = clip x a b := by
  unfold clip; split <;> split <;> (try split) <;> omega

theorem upTo1_ (H : Heap) (x a b : Int) : Call Try.prog 41 [.int .i64 x, .int .i64 a, .int .i64 b] H (.bool (within x a b)) H := by
  refine call_plain fit mixed Try.func41 rfl rfl rfl (by kernel_rfl) rfl ?_
  repeat' (first | (refine l_pl ?_; refine l_go ?_) | (refine d_pl ?_; refine d_go ?_) | (refine l_gd ?_; first | refine l_onG ?_ | refine l_offG ?_) | (refine d_gd ?_; first | refine d_onG ?_ | refine d_offG ?_) | refine wq_seq ?_ | refine wq_line ?_ | refine wq_draw (by decide +kernel) ?_ | refine wq_block ?_ | refine l_nil ?_ | refine d_nil ?_ | refine wq_skip ?_ | refine wq_ret ?_ | refine wq_exit ?_ | refine th_normal ?_ | refine th_ret ?_ | refine th_exit ?_ | refine bk_normal ?_ | refine bk_ret ?_ | refine bk_exit ?_ | refine bk_other rfl ?_ | first | refine l_partG (fun hb => ?_) (fun hb => ?_) | refine d_partG (fun hb => ?_) (fun hb => ?_))
  all_goals refine end_finG ?_; simp [put_app, put_none, *]
  all_goals simp_all [within]
  all_goals (first | done | omega)

theorem refFixMay_ (H : Heap) (x : Int) : Call Try.prog 36 [.int .i64 x] H (.bool (fixMay x)) H := by
  refine call_plain fit mixed Try.func36 rfl rfl rfl (by kernel_rfl) rfl ?_
  refine goW ?_
  refine l_callG (upTo1_ _ _ _ _) ?_
  refine goW ?_
  refine end_finG ?_; simp [put_app, put_none, *]

end Go.Proofs.Ytiekbfjmoemdgaa.VM

/- Layer 4: rows of numbers. -/
namespace Go.Proofs.Ytiekbfjmoemdgaa.VM
open Go
set_option linter.unusedVariables false
set_option linter.unusedSimpArgs false
attribute [local irreducible] wq wqL wqD wqE wqO Th Bk EndR
set_option maxHeartbeats 8000000

theorem first_bad {α : Type} (p : α → Bool) (xs : List α) : ∃ k, k ≤ xs.length ∧ (∀ (j : Nat) x, j < k → xs[j]? = some x → p x = true) ∧ ((k = xs.length ∧ xs.all p = true) ∨ (xs.all p = false ∧ ∃ x, xs[k]? = some x ∧ p x = false)) := by
  induction xs with
  | nil => exact ⟨0, by simp, by simp, .inl ⟨rfl, rfl⟩⟩
  | cons a xs ih =>
    cases ha : p a with
    | false => exact ⟨0, by simp, by simp, .inr ⟨by simp [ha], a, by simp, ha⟩⟩
    | true =>
      obtain ⟨k, h1, h2, h3⟩ := ih
      refine ⟨k + 1, by simpa using h1, fun j x hj hx => ?_, ?_⟩
      · cases j with
        | zero => simp at hx; subst hx; exact ha
        | succ j => exact h2 j x (by omega) (by simpa using hx)
      · rcases h3 with ⟨h3, h4⟩ | ⟨h3, x, h4, h5⟩
        · exact .inl ⟨by simp [h3], by simpa [ha] using h4⟩
        · exact .inr ⟨by simpa [ha] using h3, x, by simpa using h4, h5⟩

theorem vecOdd_ (H : Heap) (x : Int) : Call Try.prog 31 [.int .i64 x] H (.bool (!fixMay x)) H := by
  refine call_plain fit mixed Try.func31 rfl rfl rfl (by kernel_rfl) rfl ?_
  refine goW ?_
  refine l_callG (fixMay_ _ _) ?_
  refine goW ?_
  refine end_finG ?_; simp [put_app, put_none, *]

theorem indexOdd_ (H : Heap) (v : V) (xs : List Int) (hx : Sl 1 intC H v xs) (hl : xs.length ≤ 2 ^ 47) : ∃ r : Int, decide (r ≥ 0) = !(xs.all fun x => fixMay x) ∧ Call Try.prog 38 [v, .fn 31 []] H (.int .i64 r) H := by
  obtain ⟨k0, hk0, hgood, hend⟩ := first_bad (fun x => fixMay x) xs
  obtain ⟨r, hr⟩ : ∃ r : Int, r = if k0 = xs.length then -1 else (k0 : Int) := ⟨_, rfl⟩
  refine ⟨r, ?_, ?_⟩
  · rcases hend with ⟨h1, h2⟩ | ⟨h2, x, h3, _⟩
    · rw [hr, if_pos h1, h2]; rfl
    · have : k0 < xs.length := (List.getElem?_eq_some_iff.1 h3).1
      rw [hr, if_neg (by omega), h2]
      simp
  refine call_plain fit mixed Try.func38 rfl rfl rfl (by kernel_rfl) rfl ?_
  have hlen := hx.len T22 rfl
  refine goW ?_
  refine wq_loop (fun c ρ h => ∃ k, k ≤ k0 ∧ c = xs.length - k ∧ h = H ∧ ρ 0 = v ∧ ρ 1 = .fn 31 [] ∧ ρ 7 = .int .i64 xs.length ∧ ρ 8 = .int .i64 (k : Nat)) ⟨0, Nat.zero_le _, rfl, rfl, rfl, rfl, rfl, rfl⟩ ?_
  rintro _ ρ h ⟨k, hk, rfl, rfl, h0, h1, h7, h8⟩
  refine goW ?_
  refine cond_go (fun hb => ?_) (fun hb => ?_)
  · have hk' : k < xs.length := by simpa using hb
    clear hb
    obtain ⟨x, hxk⟩ : ∃ x, xs[k]? = some x := ⟨xs[k], by simp [hk']⟩
    obtain ⟨b, o, cs, hi, rfl, _, hlo, _⟩ := hx.get T22 rfl T3 rfl hxk
    have ho := loadV_one T3 rfl hlo
    have hw := wrap_succ (n := k) (by omega)
    have hodd := vecOdd_ h x
    by_cases hkk : k < k0
    · have hg : fixMay x = true := hgood k x hkk hxk
      rw [hg] at hodd
      clear hend hg
      refine goW ?_
      refine l_callG hodd ?_
      refine goW ?_
      refine cond_go (fun hb => ?_) (fun hb => ?_)
      · cases hb
      · refine goW ?_
        refine ⟨xs.length - (k + 1), by omega, k + 1, hkk, rfl, rfl, ?_⟩
        simp [put_app, put_none, *]
    · have hkk' : k = k0 := by omega
      rcases hend with ⟨h2, _⟩ | ⟨_, y, h3, h4⟩
      · omega
      · rw [← hkk', hxk] at h3
        obtain rfl := Option.some.inj h3
        have hg : fixMay x = false := h4
        rw [hg] at hodd
        rw [if_neg (by omega), ← hkk'] at hr
        subst hr
        clear hgood h3 h4 hg hkk hkk' hk hk0
        refine goW ?_
        refine l_callG hodd ?_
        refine goW ?_
        refine cond_go (fun hb => ?_) (fun hb => ?_)
        · refine goW ?_
          refine end_ret (by simp only [resRf, resRs, resR]; first | done | rfl) ⟨?_, by first | exact List.prefix_refl _ | exact List.prefix_append _ _ | assumption | (refine List.IsPrefix.trans (by assumption) (List.prefix_append _ _)) | (simp only [List.append_assoc, List.cons_append, List.nil_append, List.set_cons_zero, List.set_cons_succ]; exact ⟨_, by simp only [List.append_assoc, List.cons_append, List.nil_append]; rfl⟩)⟩
          simp [put_app, put_none]
        · cases hb
  · have hk' : k = xs.length := by have : ¬ k < xs.length := by simpa using hb
                                   omega
    rw [if_pos (by omega)] at hr
    clear hb hgood hend
    refine goW ?_
    refine end_ret (by simp only [resRf, resRs, resR]; first | done | rfl) ⟨?_, by first | exact List.prefix_refl _ | exact List.prefix_append _ _ | assumption | (refine List.IsPrefix.trans (by assumption) (List.prefix_append _ _)) | (simp only [List.append_assoc, List.cons_append, List.nil_append, List.set_cons_zero, List.set_cons_succ]; exact ⟨_, by simp only [List.append_assoc, List.cons_append, List.nil_append]; rfl⟩)⟩
    rw [hr]
    simp [put_app, put_none]

theorem vecMay_ (H : Heap) (v : V) (xs : List Int) (hx : Sl 1 intC H v xs) (hl : xs.length ≤ 2 ^ 47) : Call Try.prog 24 [v] H (.bool (vecMay xs)) H := by
  refine call_plain fit mixed Try.func24 rfl rfl rfl (by kernel_rfl) rfl ?_
  have hlen := hx.len T22 rfl
  obtain ⟨r, hr, hidx⟩ := indexOdd_ H v xs hx hl
  have hcon : Call Try.prog 33 [v, .fn 31 []] H (.bool (!(xs.all fun x => fixMay x))) H := by
    refine call_plain fit mixed Try.func33 rfl rfl rfl (by kernel_rfl) rfl ?_
    refine goW ?_
    refine l_callG hidx ?_
    refine goW ?_
    refine end_finG ?_; simp [put_app, put_none, *]
  clear hr hidx
  refine goW ?_
  first | refine l_partG (fun hb => ?_) (fun hb => ?_) | refine d_partG (fun hb => ?_) (fun hb => ?_)
  · refine goW ?_
    refine l_callG hcon ?_
    refine goW ?_
    refine end_ret (by simp only [resRf, resRs, resR]; first | done | rfl) ⟨?_, by first | exact List.prefix_refl _ | exact List.prefix_append _ _ | assumption | (refine List.IsPrefix.trans (by assumption) (List.prefix_append _ _)) | (simp only [List.append_assoc, List.cons_append, List.nil_append, List.set_cons_zero, List.set_cons_succ]; exact ⟨_, by simp only [List.append_assoc, List.cons_append, List.nil_append]; rfl⟩)⟩
    have hb' : xs.length ≤ 16 := by have := of_decide_eq_true hb; omega
    simp [put_app, put_none, vecMay, hb']
  · refine goW ?_
    refine end_ret (by simp only [resRf, resRs, resR]; first | done | rfl) ⟨?_, by first | exact List.prefix_refl _ | exact List.prefix_append _ _ | assumption | (refine List.IsPrefix.trans (by assumption) (List.prefix_append _ _)) | (simp only [List.append_assoc, List.cons_append, List.nil_append, List.set_cons_zero, List.set_cons_succ]; exact ⟨_, by simp only [List.append_assoc, List.cons_append, List.nil_append]; rfl⟩)⟩
    have hb' : ¬ xs.length ≤ 16 := by have := of_decide_eq_false hb; omega
    simp [put_app, put_none, vecMay, hb']

theorem dotFrom_succ : ∀ {xs ys : List Int} {s : Int} {k : Nat} {x y : Int}, xs[k]? = some x → ys[k]? = some y → dotFrom s (xs.take (k + 1)) (ys.take (k + 1)) = plus (dotFrom s (xs.take k) (ys.take k)) (times x y)
  | [], _, _, _, _, _, h, _ => by simp at h
  | _ :: _, [], _, _, _, _, _, h => by simp at h
  | a :: xs, b :: ys, s, 0, x, y, h, g => by
    simp at h g
    subst h; subst g
    simp [dotFrom]
  | a :: xs, b :: ys, s, k + 1, x, y, h, g => by
    simp only [List.take_succ_cons, dotFrom]
    exact dotFrom_succ (by simpa using h) (by simpa using g)
theorem dotFrom_take : ∀ {xs ys : List Int} {s : Int}, dotFrom s xs (ys.take xs.length) = dotFrom s xs ys
  | [], _, _ => by simp [dotFrom]
  | _ :: _, [], _ => by simp [dotFrom]
  | a :: xs, b :: ys, s => by
    simp only [List.length_cons, List.take_succ_cons, dotFrom]
    exact dotFrom_take

theorem refVecMay_ (H : Heap) (v : V) (xs : List Int) (hx : Sl 1 intC H v xs) (hl : xs.length ≤ 2 ^ 47) : Call Try.prog 29 [v] H (.bool (vecMay xs)) H := by
  refine call_plain fit mixed Try.func29 rfl rfl rfl (by kernel_rfl) rfl ?_
  have hlen := hx.len T22 rfl
  refine goW ?_
  refine wq_loop (fun c ρ h => ∃ k, k ≤ xs.length ∧ c = xs.length - k ∧ h = H ∧ (∀ (j : Nat) x, j < k → xs[j]? = some x → fixMay x = true) ∧ ρ 0 = v ∧ ρ 3 = .int .i64 (k : Nat)) ⟨0, Nat.zero_le _, rfl, rfl, by intro j x hj; omega, rfl, rfl⟩ ?_
  rintro _ ρ h ⟨k, hk, rfl, rfl, hall, h0, h3⟩
  refine goW ?_
  refine cond_go (fun hb => ?_) (fun hb => ?_)
  · have hk' : k < xs.length := by simpa using hb
    clear hb
    obtain ⟨x, hxk⟩ : ∃ x, xs[k]? = some x := ⟨xs[k], by simp [hk']⟩
    obtain ⟨b, o, cs, hi, rfl, _, hlo, _⟩ := hx.get T22 rfl T3 rfl hxk
    have ho := loadV_one T3 rfl hlo
    have hw := wrap_succ (n := k) (by omega)
    have c1 := refFixMay_ h x
    obtain ⟨r, hr⟩ : ∃ r, fixMay x = r := ⟨_, rfl⟩
    rw [hr] at c1
    cases r
    · clear hall
      refine goW ?_
      refine l_callG c1 ?_
      refine goW ?_
      refine cond_go (fun hb => ?_) (fun hb => ?_)
      · refine goW ?_
        refine end_ret (by simp only [resRf, resRs, resR]; first | done | rfl) ⟨?_, by first | exact List.prefix_refl _ | exact List.prefix_append _ _ | assumption | (refine List.IsPrefix.trans (by assumption) (List.prefix_append _ _)) | (simp only [List.append_assoc, List.cons_append, List.nil_append, List.set_cons_zero, List.set_cons_succ]; exact ⟨_, by simp only [List.append_assoc, List.cons_append, List.nil_append]; rfl⟩)⟩
        have : vecMay xs = false := by
          unfold vecMay
          rw [Bool.and_eq_false_iff]
          right
          rw [List.all_eq_false]
          exact ⟨x, List.mem_iff_getElem?.2 ⟨k, hxk⟩, by simp [hr]⟩
        rw [this]
        simp [put_app, put_none]
      · cases hb
    · have hall' := hall
      clear hall
      refine goW ?_
      refine l_callG c1 ?_
      refine goW ?_
      refine cond_go (fun hb => ?_) (fun hb => ?_)
      · cases hb
      · refine goW ?_
        refine ⟨xs.length - (k + 1), by omega, k + 1, hk', rfl, rfl, fun j y hj hy => ?_, ?_⟩
        · by_cases hjk : j = k
          · subst hjk; rw [hxk] at hy; cases hy; exact hr
          · exact hall' j y (by omega) hy
        · simp [put_app, put_none, *]
  · have hk' : k = xs.length := by have : ¬ k < xs.length := by simpa using hb
                                   omega
    subst hk'
    have ha : xs.all (fun x => fixMay x) = true := List.all_eq_true.2 fun x hx => by
      obtain ⟨j, hj⟩ := List.mem_iff_getElem?.1 hx
      exact hall j x (List.getElem?_eq_some_iff.1 hj).1 hj
    clear hall hb
    refine goW ?_
    refine end_ret (by simp only [resRf, resRs, resR]; first | done | rfl) ⟨?_, by first | exact List.prefix_refl _ | exact List.prefix_append _ _ | assumption | (refine List.IsPrefix.trans (by assumption) (List.prefix_append _ _)) | (simp only [List.append_assoc, List.cons_append, List.nil_append, List.set_cons_zero, List.set_cons_succ]; exact ⟨_, by simp only [List.append_assoc, List.cons_append, List.nil_append]; rfl⟩)⟩
    have hc : decide ((xs.length : Int) ≤ 16) = decide (xs.length ≤ 16) := by apply Bool.eq_iff_iff.2; simp; omega
    simp only [put_app, put_none, vecMay, ha, Bool.and_true, ← hc]
    rfl

end Go.Proofs.Ytiekbfjmoemdgaa.VM

/- Layer 12: the program's Of: the library's stable sort of a few. -/
namespace Go.Proofs.Ytiekbfjmoemdgaa.VM
open Go
set_option linter.unusedVariables false
set_option linter.unusedSimpArgs false
attribute [local irreducible] wq wqL wqD wqE wqO Th Bk EndR
set_option maxHeartbeats 8000000

def natC (cs : List V) (k : Nat) : Prop := cs = [.int .i64 (k : Int)]
def scoreAt (ss : List Int) (k : Nat) : Int := ss.getD k 0
def cmpI (a b : Int) : Int := if a < b then -1 else if a > b then 1 else 0
theorem cmpI_neg (a b : Int) : decide (cmpI a b < 0) = decide (a < b) := by
  unfold cmpI
  split
  · rename_i h; simp [h]
  · rename_i h
    split <;> simp [h]

theorem getDI {xs : List Int} {k : Nat} (h : k < xs.length) : xs[k]? = some (xs.getD k 0) := by simp [List.getD_eq_getElem?_getD, h]
theorem isNaN_ (H : Heap) (x : Int) : Call Try.prog 35 [.int .i64 x] H (.bool false) H := by
  refine call_pure fit mixed Try.func35 rfl rfl rfl (by kernel_rfl) rfl fun hM => ?_
  refine goM ?_
  exact end_1 (by first | exact .inl rfl | exact .inr rfl) ⟨rfl, hM.pre⟩
theorem compare_ (H : Heap) (a b : Int) : Call Try.prog 27 [.int .i64 a, .int .i64 b] H (.int .i64 (cmpI a b)) H := by
  refine call_pure fit mixed Try.func27 rfl rfl rfl (by kernel_rfl) rfl fun hM => ?_
  have c1 := isNaN_ H a
  have c2 := isNaN_ H b
  refine goM ?_
  refine l_callG c1 ?_
  refine goM ?_
  refine l_callG c2 ?_
  unfold cmpI
  by_cases h1 : a < b
  · have d1 : decide (a < b) = true := decide_eq_true h1
    rw [if_pos h1]
    clear h1
    refine goM ?_
    exact end_1 (by first | exact .inl rfl | exact .inr rfl) ⟨rfl, hM.pre⟩
  · have d1 : decide (a < b) = false := decide_eq_false h1
    rw [if_neg h1]
    clear h1
    by_cases h2 : a > b
    · have d2 : decide (a > b) = true := decide_eq_true h2
      rw [if_pos h2]
      clear h2
      refine goM ?_
      exact end_1 (by first | exact .inl rfl | exact .inr rfl) ⟨rfl, hM.pre⟩
    · have d2 : decide (a > b) = false := decide_eq_false h2
      rw [if_neg h2]
      clear h2
      refine goM ?_
      exact end_1 (by first | exact .inl rfl | exact .inr rfl) ⟨rfl, hM.pre⟩

theorem rankCmp_ (H : Heap) (b : Nat) (sv : V) (ss : List Int) (a c : Nat) (hb : H[b]? = some (.row [sv] true)) (hs : Sl 1 intC H sv ss) (ha : a < ss.length) (hc : c < ss.length) :
    Call Try.prog 26 [.int .i64 (a : Int), .int .i64 (c : Int), .ptr b 0] H (.int .i64 (cmpI (scoreAt ss a) (scoreAt ss c))) H := by
  refine call_pure fit mixed Try.func26 rfl rfl rfl (by kernel_rfl) rfl fun hM => ?_
  have l0 : loadV T 22 H b 0 = some sv := ld_cell T22 rfl hb rfl
  obtain ⟨b1, o1, _, hi1, rfl, _, hlo1, _⟩ := hs.get T22 rfl T3 rfl (getDI (xs := ss) (k := a) ha)
  have ho1 := loadV_one T3 rfl hlo1
  obtain ⟨b2, o2, _, hi2, rfl, _, hlo2, _⟩ := hs.get T22 rfl T3 rfl (getDI (xs := ss) (k := c) hc)
  have ho2 := loadV_one T3 rfl hlo2
  have c1 := compare_ H (scoreAt ss a) (scoreAt ss c)
  unfold scoreAt at c1 ⊢
  refine goM ?_
  refine d_call0G c1 ?_
  refine goM ?_
  exact end_1 (by first | exact .inl rfl | exact .inr rfl) ⟨rfl, hM.pre⟩

theorem range'_cons (i n : Nat) (h : i < n) : List.range' i (n - i) = i :: List.range' (i + 1) (n - (i + 1)) := by
  obtain ⟨m, rfl⟩ : ∃ m, n = i + 1 + m := ⟨n - (i + 1), by omega⟩
  rw [show i + 1 + m - i = m + 1 by omega, show i + 1 + m - (i + 1) = m by omega]
  rfl

theorem insSort_ (B H : Heap) (L0 : List Res) (b n : Nat) (v sv : V) (ss : List Int) (hn : ss.length = n) (h8 : n ≤ 20) (h1 : 1 ≤ n) (hs : Sl 1 intC B sv ss) (hM : Mem B H (.own 1 natC v (List.range n) :: .box b [sv] :: L0)) :
    ∃ w H', Call Try.prog 39 [v, .int .i64 0, .int .i64 (n : Int), .fn 26 [.ptr b 0]] H w H' ∧ w = .tup [] ∧ Mem B H' (.own 1 natC v (rankN (scoreAt ss) n) :: .box b [sv] :: L0) := by
  refine call_turn fit mixed hM Try.func39 rfl rfl rfl (by kernel_rfl) fun _ => ?_
  refine goM ?_
  refine wq_loop (fun m ρ hp => ∃ i : Nat, 1 ≤ i ∧ i ≤ n ∧ m = n - i ∧ Mem B hp (.own 1 natC v (rankN (scoreAt ss) i ++ List.range' i (n - i)) :: .box b [sv] :: L0) ∧ ρ 0 = v ∧ ρ 1 = .int .i64 0 ∧ ρ 2 = .int .i64 (n : Nat) ∧ ρ 3 = .fn 26 [.ptr b 0] ∧ ρ 8 = .int .i64 (i : Nat)) ⟨1, Nat.le_refl _, h1, rfl, ?_, rfl, rfl, rfl, rfl, rfl⟩ ?_
  · have e : rankN (scoreAt ss) 1 ++ List.range' 1 (n - 1) = List.range n := by
      rw [List.range_eq_range']
      have := range'_cons 0 n h1
      rw [Nat.sub_zero] at this
      rw [this]; rfl
    rw [e]; exact hM
  clear hM
  rintro _ ρ hp ⟨i, hi1, hi, rfl, hM, h0, h1', h2, h3, h8'⟩
  refine goM ?_
  refine cond_go (fun hb => ?_) (fun hb => ?_)
  · have hi' : i < n := by simpa using hb
    clear hb
    have hrl := rankN_len (scoreAt ss) i
    have hrm := rankN_mem (scoreAt ss) i
    have hwi := wrap_succ (n := i) (by omega)
    have hnext : rankN (scoreAt ss) (i + 1) = insR (scoreAt ss) i (rankN (scoreAt ss) i) := rfl
    rw [range'_cons i n hi'] at hM
    obtain ⟨rest, hrest⟩ : ∃ r, List.range' (i + 1) (n - (i + 1)) = r := ⟨_, rfl⟩
    rw [hrest, ← mid_end, hrl] at hM
    rw [insR, hrl] at hnext
    generalize rankN (scoreAt ss) i = row at *
    refine goM ?_
    refine wq_loop (fun m ρ hp => ∃ k : Nat, k ≤ i ∧ m = k ∧ insPos (scoreAt ss) i row i = insPos (scoreAt ss) i row k ∧ Mem B hp (.own 1 natC v (mid row k i rest) :: .box b [sv] :: L0) ∧ ρ 0 = v ∧ ρ 1 = .int .i64 0 ∧ ρ 2 = .int .i64 (n : Nat) ∧ ρ 3 = .fn 26 [.ptr b 0] ∧ ρ 8 = .int .i64 (i : Nat) ∧ ρ 9 = .int .i64 (k : Nat)) ⟨i, Nat.le_refl _, rfl, rfl, hM, h0, h1', h2, h3, h8', rfl⟩ ?_
    clear hM h0 h1' h2 h3 h8'
    clear ρ hp
    rintro k ρ hp ⟨_, hk, rfl, hpos, hM, h0, h1', h2, h3, h8', h9⟩
    -- what comes behind the inner loop
    have leave : (k = 0 ∨ ¬ scoreAt ss (row.getD (k - 1) 0) > scoreAt ss i) → Mem B hp (.own 1 natC v (rankN (scoreAt ss) (i + 1) ++ rest) :: .box b [sv] :: L0) := fun h => by
      have e : insPos (scoreAt ss) i row i = k := by rw [hpos, insPos_stop h]
      rw [hnext, e, ← mid_rest]; exact hM
    cases k with
    | zero =>
      have hM2 := leave (.inl rfl)
      clear leave hM
      have hd : decide (((0 : Nat) : Int) > 0) = false := rfl
      refine goM ?_
      rw [← hrest] at hM2
      exact ⟨n - (i + 1), by omega, i + 1, by omega, hi', rfl, hM2, by simp [put_app, put_none, *]⟩
    | succ k =>
      have hd : decide (((k + 1 : Nat) : Int) > 0) = true := decide_eq_true (by omega)
      have hw1 : IntKind.i64.wrap (((k + 1 : Nat) : Int) - 1) = (k : Int) := by rw [wrap_i64 (by omega) (by omega)]; omega
      have hki : k < row.length := by omega
      obtain ⟨y, hy⟩ : ∃ y, row.getD k 0 = y := ⟨_, rfl⟩
      have hyn : y < n := by
        have : y ∈ row := by rw [← hy, List.getD_eq_getElem?_getD, List.getElem?_eq_getElem hki]; exact List.getElem_mem _
        have := (hrm y).1 this; omega
      have g1 := mid_at i rest (by omega : k + 1 ≤ row.length)
      have g2 := mid_low i rest (Nat.lt_succ_self k) (by omega : k + 1 ≤ row.length)
      rw [hy] at g2
      have hsl := hM.sl .here
      obtain ⟨b1, o1, _, hi1', rfl, _, hlo1, _⟩ := hsl.get T22 rfl T3 rfl g1
      have ho1 := loadV_one T3 rfl hlo1
      obtain ⟨b2, o2, _, hi2', rfl, _, hlo2, _⟩ := hsl.get T22 rfl T3 rfl g2
      have ho2 := loadV_one T3 rfl hlo2
      have c1 := rankCmp_ hp b sv ss i y (hM.row (.there .here)) (hs.mono hM.pre) (by omega) (by omega)
      have hcn := cmpI_neg (scoreAt ss i) (scoreAt ss y)
      have hleave2 : decide (scoreAt ss i < scoreAt ss y) = false → Mem B hp (.own 1 natC v (rankN (scoreAt ss) (i + 1) ++ rest) :: .box b [sv] :: L0) := fun h => leave (.inr (by
        rw [Nat.add_sub_cancel, hy]; simpa using h))
      have hpos2 : decide (scoreAt ss i < scoreAt ss y) = true → insPos (scoreAt ss) i row (k + 1) = insPos (scoreAt ss) i row k := fun h => insPos_succ (by rw [hy]; simpa using h)
      have hlen1 : (mid row (k + 1) i rest).length = row.length + 1 + rest.length := mid_len _ _ (by omega)
      obtain ⟨b3, hi3, put1⟩ := hM.elem .here T22 rfl T3 rfl (k := k + 1) (by omega)
      obtain ⟨H1, st1, hM1⟩ := put1 (.int .i64 (y : Int)) y rfl rfl rfl
      obtain ⟨b4, hi4, put2⟩ := hM1.elem .here T22 rfl T3 rfl (k := k) (by simp only [List.length_set]; omega)
      obtain ⟨H2, st2, hM2⟩ := put2 (.int .i64 (i : Int)) i rfl rfl rfl
      rw [← hy, mid_swap i rest hki] at hM2
      rw [hi1'] at hi3
      cases hi3
      rw [hi2'] at hi4
      cases hi4
      obtain ⟨t, ht⟩ : ∃ t, decide (scoreAt ss i < scoreAt ss y) = t := ⟨_, rfl⟩
      rw [ht] at hcn hleave2 hpos2
      clear leave put1 put2 hlo1 hlo2 hsl g1 g2 ht hM1 hlen1 hnext
      refine goM ?_
      refine d_call0G c1 ?_
      cases t with
      | false =>
        have hM3 := hleave2 rfl
        clear hleave2 hpos2 hM hM2
        refine goM ?_
        rw [← hrest] at hM3
        exact ⟨n - (i + 1), by omega, i + 1, by omega, hi', rfl, hM3, by simp [put_app, put_none, *]⟩
      | true =>
        have hpos3 := hpos2 rfl
        clear hleave2 hpos2 hM
        refine goM ?_
        refine d_stM st1 ?_
        refine goM ?_
        refine d_stM st2 ?_
        refine goM ?_
        exact ⟨k, by omega, k, by omega, rfl, by rw [hpos, hpos3], hM2, by simp [put_app, put_none, *]⟩
  · have hi' : i = n := by have : ¬ i < n := by simpa using hb
                           omega
    subst hi'
    clear hb
    rw [Nat.sub_self, show List.range' i 0 = [] from rfl, List.append_nil] at hM
    refine goM ?_
    exact end_normal (by simp only [resRf, resRs, resR]; first | done | rfl) ⟨rfl, hM⟩
end Go.Proofs.Ytiekbfjmoemdgaa.VM

/- Layer 12: the program's Of. -/
namespace Go.Proofs.Ytiekbfjmoemdgaa.VM
open Go
set_option linter.unusedVariables false
set_option linter.unusedSimpArgs false
attribute [local irreducible] wq wqL wqD wqE wqO Th Bk EndR
set_option maxHeartbeats 8000000

theorem stable_ (B H : Heap) (L0 : List Res) (b n : Nat) (v sv : V) (ss : List Int) (hn : ss.length = n) (h8 : n ≤ 8) (h1 : 1 ≤ n) (hs : Sl 1 intC B sv ss) (hM : Mem B H (.own 1 natC v (List.range n) :: .box b [sv] :: L0)) :
    ∃ w H', Call Try.prog 34 [v, .int .i64 (n : Int), .fn 26 [.ptr b 0]] H w H' ∧ w = .tup [] ∧ Mem B H' (.own 1 natC v (rankN (scoreAt ss) n) :: .box b [sv] :: L0) := by
  refine call_turn fit mixed hM Try.func34 rfl rfl rfl (by kernel_rfl) fun _ => ?_
  have d1 : decide ((20 : Int) ≤ (n : Int)) = false := decide_eq_false (by omega)
  have d2 : decide ((20 : Int) < (n : Int)) = false := decide_eq_false (by omega)
  obtain ⟨_, H1, c1, rfl, hM1⟩ := insSort_ B H L0 b n v sv ss hn (by omega) h1 hs hM
  clear hM
  refine goM ?_
  refine wq_loop (fun m ρ hp => hp = H ∧ ρ 0 = v ∧ ρ 1 = .int .i64 (n : Int) ∧ ρ 2 = .fn 26 [.ptr b 0] ∧ ρ 6 = .int .i64 20 ∧ ρ 7 = .int .i64 0 ∧ ρ 8 = .int .i64 20) (m := 0) ⟨rfl, rfl, rfl, rfl, rfl, rfl, rfl⟩ ?_
  rintro _ ρ hp ⟨rfl, e0, e1, e2, e6, e7, e8⟩
  refine goM ?_
  refine l_callG c1 ?_
  clear c1
  refine goM ?_
  refine wq_loop (fun m ρ hp => hp = H1 ∧ ρ 1 = .int .i64 (n : Int) ∧ ρ 6 = .int .i64 20) (m := 0) ⟨rfl, by simp [put_app, put_none, *], by simp [put_app, put_none, *]⟩ ?_
  clear e0 e1 e2 e6 e7 e8
  clear ρ
  rintro _ ρ hp2 ⟨rfl, e1, e6⟩
  refine goM ?_
  exact end_normal (by simp only [resRf, resRs, resR]; first | done | rfl) ⟨rfl, hM1⟩

theorem sortStable_ (B H : Heap) (L0 : List Res) (b n : Nat) (v sv : V) (ss : List Int) (hn : ss.length = n) (h8 : n ≤ 8) (h1 : 1 ≤ n) (hs : Sl 1 intC B sv ss) (hM : Mem B H (.own 1 natC v (List.range n) :: .box b [sv] :: L0)) :
    ∃ w H', Call Try.prog 25 [v, .fn 26 [.ptr b 0]] H w H' ∧ w = .tup [] ∧ Mem B H' (.own 1 natC v (rankN (scoreAt ss) n) :: .box b [sv] :: L0) := by
  refine call_turn fit mixed hM Try.func25 rfl rfl rfl (by kernel_rfl) fun _ => ?_
  have hlen := (hM.sl .here).len T22 rfl
  rw [List.length_range] at hlen
  obtain ⟨_, H1, c1, rfl, hM1⟩ := stable_ B H L0 b n v sv ss hn h8 h1 hs hM
  clear hM
  refine goM ?_
  refine l_callG c1 ?_
  refine goM ?_
  exact end_normal (by simp only [resRf, resRs, resR]; first | done | rfl) ⟨rfl, hM1⟩

def rankMay (ss : List Int) : Bool := (decide (1 ≤ ss.length) && decide (ss.length ≤ 8)) && vecMay ss
def rankE (ss : List Int) : Int := if rankMay ss then 0 else 1200
def rankL (ss : List Int) : List Nat := if rankMay ss then rankN (scoreAt ss) ss.length else []

theorem fill_step {k n : Nat} (hk : k < n) : (List.range k ++ List.replicate (n - k) 0).set k k = List.range (k + 1) ++ List.replicate (n - (k + 1)) 0 := by
  obtain ⟨m, rfl⟩ : ∃ m, n = k + 1 + m := ⟨n - (k + 1), by omega⟩
  rw [show k + 1 + m - k = m + 1 by omega, show k + 1 + m - (k + 1) = m by omega, List.replicate_succ]
  have := set_append_at (List.range k) 0 k (List.replicate m 0)
  rw [List.length_range] at this
  rw [this, List.range_succ, List.append_assoc]; rfl

theorem rankOf_ (H : Heap) (sv : V) (ss : List Int) (hs : Sl 1 intC H sv ss) (hl : ss.length ≤ 2 ^ 47) : ∃ w H', Call Try.prog 13 [sv] H w H' ∧ ∃ u, w = .tup [u, .int .i64 (rankE ss)] ∧ Mem H H' [.own 1 natC u (rankL ss)] := by
  have s0 := hs.cells
  have hlen := hs.len T22 rfl
  refine call_mem fit mixed Try.func13 rfl rfl rfl (by kernel_rfl) fun hM => ?_
  refine wq_seq (wq_line ?_)
  refine l_boxM T22 fun b1 H1 hM => ?_
  have c1 := vecMay_ H1 sv ss (hs.mono hM.pre) hl
  unfold rankE rankL rankMay
  obtain ⟨n, hn⟩ : ∃ n, ss.length = n := ⟨_, rfl⟩
  rw [hn] at hlen ⊢
  by_cases hz : n = 0
  · subst hz
    have d1 : ((((0 : Nat) : Int)) == 0) = true := rfl
    refine goM ?_
    exact end_2 (by first | exact .inl rfl | exact .inr rfl) ⟨.nils, rfl, (Mem.start H).grow hM.pre |>.nil 1 natC |>.front .here⟩
  have d1 : ((n : Int) == 0) = false := by simpa using hz
  by_cases h8 : n ≤ 8
  · have d2 : decide ((n : Int) > 8) = false := decide_eq_false (by omega)
    obtain ⟨vm, hvm⟩ : ∃ q, vecMay ss = q := ⟨_, rfl⟩
    rw [hvm] at c1 ⊢
    cases vm with
    | false =>
      have e1 : ((decide (1 ≤ n) && decide (n ≤ 8)) && false) = false := by simp
      simp only [e1]
      refine goM ?_
      refine l_callG c1 ?_
      refine goM ?_
      exact end_2 (by first | exact .inl rfl | exact .inr rfl) ⟨.nils, rfl, (Mem.start H).grow hM.pre |>.nil 1 natC |>.front .here⟩
    | true =>
      have e1 : ((decide (1 ≤ n) && decide (n ≤ 8)) && true) = true := by simp; omega
      simp only [e1, if_true]
      refine goM ?_
      refine l_callG c1 ?_
      clear e1 hvm c1 d1 d2
      refine goM ?_
      refine l_makeM 1 natC T22 rfl T3 (n := n) (z := 0) rfl rfl rfl rfl rfl ⟨by show (8 : Int) * _ ≤ _; omega, by omega⟩ fun v H2 hM => ?_
      have hvl := (hM.sl .here).len T22 rfl
      rw [List.length_replicate] at hvl
      refine goM ?_
      refine wq_loop (fun m ρ hp => ∃ k : Nat, k ≤ n ∧ m = n - k ∧ Mem H hp [.own 1 natC v (List.range k ++ List.replicate (n - k) 0), .box b1 [sv]] ∧ ρ 1 = .ptr b1 0 ∧ ρ 4 = v ∧ ρ 23 = .int .i64 (n : Int) ∧ ρ 24 = .int .i64 (k : Nat)) ⟨0, Nat.zero_le _, rfl, hM, rfl, rfl, rfl, rfl⟩ ?_
      clear hM
      rintro _ ρ hp ⟨k, hk, rfl, hM, h1, h4, h23, h24⟩
      refine goM ?_
      refine cond_go (fun hb => ?_) (fun hb => ?_)
      · have hk' : k < n := by simpa using hb
        clear hb
        obtain ⟨b3, hi3, put1⟩ := hM.elem .here T22 rfl T3 rfl (k := k) (by simp; omega)
        obtain ⟨H3, st1, hM1⟩ := put1 (.int .i64 (k : Int)) k rfl rfl rfl
        rw [fill_step hk'] at hM1
        have hw := wrap_succ (n := k) (by omega)
        clear put1 hM
        refine goM ?_
        refine l_stM st1 ?_
        refine goM ?_
        exact ⟨n - (k + 1), by omega, k + 1, hk', rfl, hM1, by simp [put_app, put_none, *]⟩
      · have hk' : k = n := by have : ¬ k < n := by simpa using hb
                               omega
        subst hk'
        clear hb
        rw [Nat.sub_self, List.replicate_zero, List.append_nil] at hM
        obtain ⟨_, H3, c2, rfl, hM1⟩ := sortStable_ H hp [] b1 k v sv ss hn h8 (by omega) hs hM
        clear hM
        refine goM ?_
        refine l_callG c2 ?_
        refine goM ?_
        exact end_2 (by first | exact .inl rfl | exact .inr rfl) ⟨v, rfl, hM1.subG⟩
  · have d2 : decide ((n : Int) > 8) = true := decide_eq_true (by omega)
    have e1 : ((decide (1 ≤ n) && decide (n ≤ 8)) && vecMay ss) = false := by simp [h8]
    simp only [e1]
    refine goM ?_
    exact end_2 (by first | exact .inl rfl | exact .inr rfl) ⟨.nils, rfl, (Mem.start H).grow hM.pre |>.nil 1 natC |>.front .here⟩
end Go.Proofs.Ytiekbfjmoemdgaa.VM

/- The statements' helpers: numbers that are copied, lent, compared, written over. -/
namespace Go.Proofs.Ytiekbfjmoemdgaa.VM
open Go
set_option linter.unusedVariables false
set_option linter.unusedSimpArgs false
attribute [local irreducible] wq wqL wqD wqE wqO Th Bk EndR
set_option maxHeartbeats 8000000

theorem num_ (H : Heap) (n : Int) : Call Try.prog 16 [.int .i64 n] H (.int .i64 n) H := by
  refine call_plain fit mixed Try.func16 rfl rfl rfl (by kernel_rfl) rfl ?_
  refine goW ?_
  refine end_finG ?_; simp [put_app, put_none, *]

theorem int_news {H : Heap} {w : V} {ys : List Int} (h : Sl 1 intC H w ys) : ∃ news, newsOf T (T 3).get! 22 w H = some (ys.length, news) ∧ Cells 1 intC news ys := h.news T22 rfl (ie := (T 3).get!) rfl

theorem and_mask (x : Int) (m : Nat) (hm : m < 2 ^ 62) (hmb : (BitVec.ofInt IntKind.i64.bits (m : Int)).toNat = m) : ∃ y : Int, IntKind.i64.wrap ((BitVec.ofInt IntKind.i64.bits x &&& BitVec.ofInt IntKind.i64.bits (m : Int)).toNat : Int) = y ∧ 0 ≤ y ∧ y ≤ m := by
  have h : (BitVec.ofInt IntKind.i64.bits x &&& BitVec.ofInt IntKind.i64.bits (m : Int)).toNat ≤ m := by
    rw [BitVec.toNat_and]
    exact Nat.le_trans Nat.and_le_right (by rw [hmb]; exact Nat.le_refl _)
  exact ⟨((BitVec.ofInt IntKind.i64.bits x &&& BitVec.ofInt IntKind.i64.bits (m : Int)).toNat : Int), wrap_nat (by omega), by omega, by omega⟩
theorem int_copy (H : Heap) (w : V) (ys : List Int) (h : Sl 1 intC H w ys) (hl : ys.length * 8 ≤ 2 ^ 47) :
    ∃ news v H', newsOf T (T 3).get! 22 w (H ++ [.row [] true]) = some (ys.length, news) ∧ appendV (T 3).get! (.slc H.length 0 0 0 true 1) ys.length news (H ++ [.row [] true]) = some (v, H') ∧ Mine 1 intC H H' v ys ∧ ∃ b, v.blk = some b ∧ H.length ≤ b := by
  obtain ⟨news, hn, hc⟩ := int_news (h.mono (List.prefix_append H [.row [] true]))
  obtain ⟨u, b, H', ha, ho, hf, hb⟩ := own_append (ie := (T 3).get!) (own_make (t := true) H Cells.nil) rfl hc ⟨by show (0 + ys.length) * 8 ≤ _; omega, by show 0 + ys.length ≤ _; omega⟩
  have hb' : H.length ≤ b := by simp at hb; omega
  refine ⟨news, u, H', hn, ha, ⟨hf.pre (List.prefix_append _ _) (Nat.le_refl _), .inr ⟨b, hb', ho⟩⟩, b, ?_, hb'⟩
  obtain ⟨cap, t, cs, rfl, _⟩ := ho
  rfl

theorem copyInts_ (H : Heap) (v : V) (es : List Int) (hes : Sl 1 intC H v es) (hl : es.length * 8 ≤ 2 ^ 47) : ∃ u H', Call Try.prog 23 [v] H u H' ∧ Mine 1 intC H H' u es ∧ ∃ b, u.blk = some b ∧ H.length ≤ b := by
  suffices h : ∃ u H', (Mine 1 intC H H' u es ∧ ∃ b, u.blk = some b ∧ H.length ≤ b) ∧ Call Try.prog 23 [v] H u H' by
    obtain ⟨u, H', h1, h2⟩ := h
    exact ⟨u, H', h2, h1⟩
  refine call_wq fit mixed Try.func23 rfl rfl rfl (by kernel_rfl) ?_
  obtain ⟨news, u, H', n1, a1, hm⟩ := int_copy H v es hes hl
  clear hes hl
  refine goW ?_
  refine l_appendG n1 a1 ?_
  refine goW ?_
  refine end_ret (by simp only [resRf, resRs, resR]; first | done | rfl) hm

theorem lendInts_ (H : Heap) (v : V) (es : List Int) (hes : Sl 1 intC H v es) (hl : (es.length + 2) * 8 ≤ 2 ^ 47) : ∃ u H', Call Try.prog 12 [v] H u H' ∧ H <+: H' ∧ Lent 1 intC H' u es [-7777, -8888] := by
  suffices h : ∃ u H', (H <+: H' ∧ Lent 1 intC H' u es [-7777, -8888]) ∧ Call Try.prog 12 [v] H u H' by
    obtain ⟨u, H', ⟨h1, h2⟩, h4⟩ := h
    exact ⟨u, H', h4, h1, h2⟩
  refine call_wq fit mixed Try.func12 rfl rfl rfl (by kernel_rfl) ?_
  have hlen := hes.len T22 rfl
  obtain ⟨u1, H1, hcall, hm1, b1, hb1, hb2⟩ := copyInts_ H v es hes (by omega)
  have hm : Cells 1 intC [.int .i64 (-7777), .int .i64 (-8888)] [-7777, -8888] := Cells.cons (cs := [_]) rfl rfl (Cells.one rfl rfl)
  obtain ⟨hp1, hm1⟩ := hm1
  rcases hm1 with ⟨rfl, _⟩ | ⟨b, hb, ho1⟩
  · cases hb1
  have ho1' := ho1.pre (List.prefix_append H1 [.row [.int .i64 (-7777), .int .i64 (-8888)] true])
  obtain ⟨u2, b2, H2, ha, ho2, hf, hb2⟩ := own_append (ie := (T 3).get!) ho1' rfl hm ⟨hl, by simp; omega⟩
  have hp2 : H <+: H2 := hf.pre (hp1.trans (List.prefix_append _ _)) hb
  obtain ⟨u, hu, hlent⟩ := ho2.lend
  clear hes hl
  refine goW ?_
  refine l_callG hcall ?_
  refine goW ?_
  refine l_appendG (news_row T22 rfl (by decide) rfl) ha ?_
  refine goW ?_
  refine end_ret (by simp only [resRf, resRs, resR]; first | done | rfl) ⟨hp2, hlent⟩

theorem take_step {α : Type} {xs ys : List α} {k : Nat} {x y : α} (h : xs.take k = ys.take k) (hx : xs[k]? = some x) (hy : ys[k]? = some y) (e : x = y) : xs.take (k + 1) = ys.take (k + 1) := by
  rw [List.take_add_one, List.take_add_one, h, hx, hy, e]

theorem sameInts_ (H : Heap) (u v : V) (xs ys : List Int) (hx : Sl 1 intC H u xs) (hy : Sl 1 intC H v ys) (lx : xs.length ≤ 2 ^ 47) : Call Try.prog 15 [u, v] H (.bool (decide (xs = ys))) H := by
  refine call_plain fit mixed Try.func15 rfl rfl rfl (by kernel_rfl) rfl ?_
  have hlx := hx.len T22 rfl
  have hly := hy.len T22 rfl
  refine goW ?_
  refine cond_go (fun hb => ?_) (fun hb => ?_)
  · refine goW ?_
    refine end_finG ?_; simp [put_app, put_none, *]
    intro e
    subst e
    simp at hb
  · have hl : xs.length = ys.length := by simp at hb; omega
    refine goW ?_
    refine wq_loop (fun c ρ h => ∃ k, k ≤ xs.length ∧ c = xs.length - k ∧ h = H ∧ xs.take k = ys.take k ∧ ρ 0 = u ∧ ρ 1 = v ∧ ρ 5 = .int .i64 (k : Nat)) ⟨0, Nat.zero_le _, rfl, rfl, by simp, rfl, rfl, rfl⟩ ?_
    rintro _ ρ h ⟨k, hk, rfl, rfl, hsame, h0, h1, h5⟩
    refine goW ?_
    refine cond_go (fun hb => ?_) (fun hb => ?_)
    · have hk' : k < xs.length := by simp at hb; omega
      obtain ⟨x, hxk⟩ : ∃ e, xs[k]? = some e := ⟨xs[k], by simp [hk']⟩
      obtain ⟨y, hyk⟩ : ∃ e, ys[k]? = some e := ⟨ys[k]'(by omega), by simp⟩
      obtain ⟨b, o, cs, hi, rfl, _, hlo, _⟩ := hx.get T22 rfl T3 rfl hxk
      obtain ⟨b2, o2, cs, hi2, rfl, _, hlo2, _⟩ := hy.get T22 rfl T3 rfl hyk
      have ho := loadV_one T3 rfl hlo
      have ho2 := loadV_one T3 rfl hlo2
      have hw := wrap_succ (n := k) (by omega)
      refine goW ?_
      refine cond_go (fun hc => ?_) (fun hc => ?_)
      all_goals simp at hc
      · refine goW ?_
        refine end_finG ?_; simp [put_app, put_none, *]
        intro e
        subst e
        rw [hxk] at hyk
        exact hc (Option.some.inj hyk)
      · refine goW ?_
        refine ⟨xs.length - (k + 1), by omega, k + 1, hk', rfl, rfl, take_step hsame hxk hyk hc, ?_⟩
        simp [put_app, put_none, *]
    · have hk' : k = xs.length := by simp at hb; omega
      subst hk'
      refine goW ?_
      refine end_finG ?_; simp [put_app, put_none, *]
      rw [List.take_of_length_le (Nat.le_refl _), List.take_of_length_le (by omega)] at hsame
      exact hsame

theorem keptInts_ (H : Heap) (u v : V) (xs ys : List Int) (hu : Lent 1 intC H u xs [-7777, -8888]) (hv : Sl 1 intC H v ys) (lx : xs.length ≤ 2 ^ 47) : Call Try.prog 18 [u, v] H (.bool (decide (xs = ys))) H := by
  refine call_plain fit mixed Try.func18 rfl rfl rfl (by kernel_rfl) rfl ?_
  have hlx := hu.sl.len T22 rfl
  have hly := hv.len T22 rfl
  have hw : IntKind.i64.wrap ((xs.length : Int) + 2) = (xs.length : Int) + 2 := wrap_i64 (by omega) (by omega)
  have hw1 : IntKind.i64.wrap ((xs.length : Int) + 1) = (xs.length : Int) + 1 := wrap_i64 (by omega) (by omega)
  obtain ⟨f, hf, hfs⟩ := hu.full (n := (xs.length : Int) + 2) (by simp)
  have hsame := sameInts_ H u v xs ys hu.sl hv lx
  obtain ⟨b1, o1, _, hi1, rfl, _, hl1, _⟩ := hfs.get T22 rfl T3 rfl (k := xs.length) (x := -7777) (by simp)
  obtain ⟨b2, o2, _, hi2, rfl, _, hl2, _⟩ := hfs.get T22 rfl T3 rfl (k := xs.length + 1) (x := -8888) (by simp)
  have ho1 := loadV_one T3 rfl hl1
  have ho2 := loadV_one T3 rfl hl2
  simp only [Int.natCast_add, Int.cast_ofNat_Int] at hi2
  clear hl1 hl2 hfs lx hu hv
  refine goW ?_
  refine l_callG hsame ?_
  refine goW ?_
  first | refine l_partG (fun hb => ?_) (fun hb => ?_) | refine d_partG (fun hb => ?_) (fun hb => ?_)
  · have he : xs = ys := of_decide_eq_true hb
    rw [← he] at hly
    clear he
    refine goW ?_
    refine end_finG ?_; simp [put_app, put_none, *]
  · refine goW ?_
    refine end_finG ?_; simp [put_app, put_none, *]

theorem spoilInts_ (B H : Heap) (v : V) (xs : List Int) (hm : Mine 1 intC B H v xs) (lx : xs.length ≤ 2 ^ 47) : ∃ H', Call Try.prog 17 [v] H (.tup []) H' ∧ B <+: H' := by
  suffices h : ∃ u H', (u = .tup [] ∧ B <+: H') ∧ Call Try.prog 17 [v] H u H' by
    obtain ⟨_, H', ⟨rfl, h1⟩, h2⟩ := h
    exact ⟨H', h2, h1⟩
  refine call_wq fit mixed Try.func17 rfl rfl rfl (by kernel_rfl) ?_
  obtain ⟨n, hn⟩ : ∃ n, xs.length = n := ⟨_, rfl⟩
  refine goW ?_
  refine wq_loop (fun c ρ hp => ∃ k ys, k ≤ n ∧ c = n - k ∧ ys.length = n ∧ Mine 1 intC B hp v ys ∧ ρ 0 = v ∧ ρ 2 = .int .i64 (k : Nat)) ⟨0, xs, Nat.zero_le _, rfl, hn, hm, rfl, rfl⟩ ?_
  rintro _ ρ hp ⟨k, ys, hk, rfl, hys, hm, h0, h2⟩
  have hlen := hm.sl.len T22 rfl
  rw [hys] at hlen
  refine goW ?_
  refine cond_go (fun hb => ?_) (fun hb => ?_)
  · have hk' : k < n := by simpa using hb
    clear hb
    obtain ⟨x, hxk⟩ : ∃ e, ys[k]? = some e := ⟨ys[k]'(by omega), by simp⟩
    obtain ⟨b, o, cs, hi, rfl, _, hlo, _⟩ := hm.sl.get T22 rfl T3 rfl hxk
    have ho := loadV_one T3 rfl hlo
    obtain ⟨b2, o2, h1, h2'⟩ := hm.store T22 rfl T3 rfl (k := k) (by omega)
    rw [hi] at h1
    cases h1
    obtain ⟨H', hst, hm2⟩ := h2' (.int .i64 (IntKind.i64.wrap (-9 - x))) _ rfl rfl rfl
    have hw := wrap_succ (n := k) (by omega)
    clear hxk hlo hm h2'
    refine goW ?_
    refine ⟨n - (k + 1), by omega, k + 1, _, hk', rfl, by simpa using hys, hm2, ?_⟩
    simp [put_app, put_none, *]
  · clear hb
    have hp' := hm.1
    refine goW ?_
    refine end_normal (by simp only [resRf, resRs, resR]; first | done | rfl) ⟨rfl, hp'⟩
end Go.Proofs.Ytiekbfjmoemdgaa.VM

/- Layer 12: the document's Rank. -/
namespace Go.Proofs.Ytiekbfjmoemdgaa.VM
open Go
set_option linter.unusedVariables false
set_option linter.unusedSimpArgs false
attribute [local irreducible] wq wqL wqD wqE wqO Th Bk EndR
set_option maxHeartbeats 8000000

theorem upTo_r (H : Heap) (x a b : Int) : Call Try.prog 28 [.int .i64 x, .int .i64 a, .int .i64 b] H (.bool (within x a b)) H := by
  refine call_pure fit mixed Try.func28 rfl rfl rfl (by kernel_rfl) rfl fun hM => ?_
  unfold within
  obtain ⟨q, hq⟩ : ∃ q, decide (x ≥ a) = q := ⟨_, rfl⟩
  rw [hq]
  cases q
  · refine goM ?_
    exact end_1 (by first | exact .inl rfl | exact .inr rfl) ⟨rfl, hM.pre⟩
  · refine goM ?_
    refine end_1 (by first | exact .inl rfl | exact .inr rfl) ⟨?_, hM.pre⟩
    simp

theorem refRank_ (H : Heap) (sv : V) (ss : List Int) (hs : Sl 1 intC H sv ss) (hl : ss.length ≤ 2 ^ 47) : ∃ w H', Call Try.prog 14 [sv] H w H' ∧ ∃ u, w = .tup [u, .int .i64 (rankE ss)] ∧ Mem H H' [.own 1 natC u (rankL ss)] := by
  have s0 := hs.cells
  have hlen := hs.len T22 rfl
  have c1 := refVecMay_ H sv ss hs hl
  refine call_mem fit mixed Try.func14 rfl rfl rfl (by kernel_rfl) fun hM => ?_
  unfold rankE rankL rankMay
  obtain ⟨n, hn⟩ : ∃ n, ss.length = n := ⟨_, rfl⟩
  have c0 := upTo_r H (n : Int) 1 8
  have hw8 : within (n : Int) 1 8 = (decide (1 ≤ n) && decide (n ≤ 8)) := by apply Bool.eq_iff_iff.2; simp [within]; omega
  rw [hw8] at c0
  rw [hn] at hlen hl ⊢
  obtain ⟨q1, hq1⟩ : ∃ q, (decide (1 ≤ n) && decide (n ≤ 8)) = q := ⟨_, rfl⟩
  rw [hq1] at c0 ⊢
  obtain ⟨q2, hq2⟩ : ∃ q, vecMay ss = q := ⟨_, rfl⟩
  rw [hq2] at c1 ⊢
  clear hw8
  refine goM ?_
  refine l_callG c0 ?_
  cases q1 with
  | false =>
    refine goM ?_
    exact end_2 (by first | exact .inl rfl | exact .inr rfl) ⟨.nils, rfl, hM.nil 1 natC⟩
  | true =>
    refine goM ?_
    refine l_callG c1 ?_
    cases q2 with
    | false =>
      refine goM ?_
      exact end_2 (by first | exact .inl rfl | exact .inr rfl) ⟨.nils, rfl, hM.nil 1 natC⟩
    | true =>
      have h18 : 1 ≤ n ∧ n ≤ 8 := by simpa using hq1
      simp only [Bool.true_and, if_true]
      clear c0 c1 hq1 hq2
      refine goM ?_
      refine wq_loop (fun m ρ hp => ∃ (i : Nat) (u : V), i ≤ n ∧ m = n - i ∧ Mem H hp [.own 1 natC u (rankN (scoreAt ss) i)] ∧ ρ 0 = sv ∧ ρ 4 = u ∧ ρ 5 = .int .i64 (i : Nat)) ⟨0, .nils, Nat.zero_le _, rfl, hM.nil 1 natC, rfl, rfl, rfl⟩ ?_
      clear hM
      rintro _ ρ hp ⟨i, u, hi, rfl, hM, h0, h4, h5⟩
      have hul := (hM.sl .here).len T22 rfl
      rw [rankN_len] at hul
      refine goM ?_
      refine cond_go (fun hb => ?_) (fun hb => ?_)
      · have hi' : i < n := by simpa using hb
        clear hb
        have hrl := rankN_len (scoreAt ss) i
        have hrm := rankN_mem (scoreAt ss) i
        have hwi := wrap_succ (n := i) (by omega)
        have hnext : rankN (scoreAt ss) (i + 1) = insR (scoreAt ss) i (rankN (scoreAt ss) i) := rfl
        rw [insR, hrl] at hnext
        refine goM ?_
        refine l_sliceM natC [i] [.int .i64 (i : Int)] T22 rfl T3 rfl (Cells.one (sz := 1) rfl rfl) (by decide) fun e1 H1 hM => ?_
        refine goM ?_
        refine l_appM (hM.sl .here) (xs := rankN (scoreAt ss) i) (hb := by rw [hrl]; simp only [List.length_cons, List.length_nil]; omega) fun u2 H2 hM => ?_
        replace hM : Mem H H2 [.own 1 natC u2 (rankN (scoreAt ss) i ++ [i])] := hM.subG
        rw [← mid_end, hrl] at hM
        generalize rankN (scoreAt ss) i = row at *
        have s2 := (hM.sl .here).cells
        clear hul
        refine goM ?_
        refine wq_loop (fun m ρ hp => ∃ k y : Nat, k ≤ i ∧ m = k ∧ insPos (scoreAt ss) i row i = insPos (scoreAt ss) i row k ∧ Mem H hp [.own 1 natC u2 (mid row k y [])] ∧ ρ 0 = sv ∧ ρ 4 = u2 ∧ ρ 5 = .int .i64 (i : Nat) ∧ ρ 6 = .int .i64 (k : Nat)) ⟨i, i, Nat.le_refl _, rfl, rfl, hM, by simp [put_app, put_none, *], by simp [put_app, put_none, *], by simp [put_app, put_none, *], by simp [put_app, put_none, *]⟩ ?_
        clear hM h0 h4 h5
        clear ρ
        rintro k ρ hp ⟨_, y, hk, rfl, hpos, hM, h0, h4, h5, h6⟩
        -- what comes behind the inner loop
        have leave : (k = 0 ∨ ¬ scoreAt ss (row.getD (k - 1) 0) > scoreAt ss i) → ∃ b o H3, idxV T 22 u2 (k : Int) = some (.ptr b o) ∧ storeV T 3 hp b o (.int .i64 (i : Int)) = some H3 ∧ Mem H H3 [.own 1 natC u2 (rankN (scoreAt ss) (i + 1))] := fun h => by
          have e : insPos (scoreAt ss) i row i = k := by rw [hpos, insPos_stop h]
          obtain ⟨b3, hi3, put1⟩ := hM.elem .here T22 rfl T3 rfl (k := k) (by rw [mid_len _ _ (by omega)]; omega)
          obtain ⟨H3, st1, hM1⟩ := put1 (.int .i64 (i : Int)) i rfl rfl rfl
          rw [mid_put _ _ _ (by omega), ← e, ← hnext] at hM1
          exact ⟨b3, _, H3, hi3, st1, hM1⟩
        cases k with
        | zero =>
          obtain ⟨b3, o3, H3, hi3, st1, hM2⟩ := leave (.inl rfl)
          clear leave hM
          have hd : decide (((0 : Nat) : Int) > 0) = false := rfl
          refine goM ?_
          refine l_stM st1 ?_
          refine goM ?_
          exact ⟨n - (i + 1), by omega, i + 1, u2, hi', rfl, hM2, by simp [put_app, put_none, *]⟩
        | succ k =>
          have hd : decide (((k + 1 : Nat) : Int) > 0) = true := decide_eq_true (by omega)
          have hw1 : IntKind.i64.wrap (((k + 1 : Nat) : Int) - 1) = (k : Int) := by rw [wrap_i64 (by omega) (by omega)]; omega
          have hki : k < row.length := by omega
          obtain ⟨x, hx⟩ : ∃ x, row.getD k 0 = x := ⟨_, rfl⟩
          have hxn : x < n := by
            have : x ∈ row := by rw [← hx, List.getD_eq_getElem?_getD, List.getElem?_eq_getElem hki]; exact List.getElem_mem _
            have := (hrm x).1 this; omega
          have g2 := mid_low y [] (Nat.lt_succ_self k) (by omega : k + 1 ≤ row.length)
          rw [hx] at g2
          obtain ⟨b2, o2, _, hi2', rfl, _, hlo2, _⟩ := (hM.sl .here).get T22 rfl T3 rfl g2
          have ho2 := loadV_one T3 rfl hlo2
          obtain ⟨b4, o4, _, hi4', rfl, _, hlo4, _⟩ := (hs.mono hM.pre).get T22 rfl T3 rfl (getDI (xs := ss) (k := x) (by omega))
          have ho4 := loadV_one T3 rfl hlo4
          obtain ⟨b5, o5, _, hi5', rfl, _, hlo5, _⟩ := (hs.mono hM.pre).get T22 rfl T3 rfl (getDI (xs := ss) (k := i) (by omega))
          have ho5 := loadV_one T3 rfl hlo5
          obtain ⟨b3, hi3, put1⟩ := hM.elem .here T22 rfl T3 rfl (k := k + 1) (by rw [mid_len _ _ (by omega)]; omega)
          obtain ⟨H1, st1, hM1⟩ := put1 (.int .i64 (x : Int)) x rfl rfl rfl
          rw [← hx, mid_move _ _ hki, hx] at hM1
          have hpos2 : decide (ss.getD x 0 > ss.getD i 0) = true → insPos (scoreAt ss) i row (k + 1) = insPos (scoreAt ss) i row k := fun h => insPos_succ (by rw [hx]; simpa [scoreAt] using h)
          have hleave2 : decide (ss.getD x 0 > ss.getD i 0) = false → _ := fun h => leave (.inr (by rw [Nat.add_sub_cancel, hx]; simpa [scoreAt] using h))
          obtain ⟨t, ht⟩ : ∃ t, decide (ss.getD x 0 > ss.getD i 0) = t := ⟨_, rfl⟩
          rw [ht] at hleave2 hpos2
          clear leave put1 hlo2 hlo4 hlo5 g2 hnext
          cases t with
          | false =>
            obtain ⟨b6, o6, H3, hi6, st6, hM2⟩ := hleave2 rfl
            rw [hi3] at hi6
            cases hi6
            clear hleave2 hpos2 hM hM1
            refine goM ?_
            refine l_stM st6 ?_
            refine goM ?_
            exact ⟨n - (i + 1), by omega, i + 1, u2, hi', rfl, hM2, by simp [put_app, put_none, *]⟩
          | true =>
            have hpos3 := hpos2 rfl
            clear hleave2 hpos2 hM
            refine goM ?_
            refine l_stM st1 ?_
            refine goM ?_
            exact ⟨k, by omega, k, x, by omega, rfl, by rw [hpos, hpos3], hM1, by simp [put_app, put_none, *]⟩
      · have hi' : i = n := by have : ¬ i < n := by simpa using hb
                               omega
        subst hi'
        clear hb
        refine goM ?_
        exact end_2 (by first | exact .inl rfl | exact .inr rfl) ⟨u, rfl, hM⟩
end Go.Proofs.Ytiekbfjmoemdgaa.VM

/- The statements' helpers: rows of data that are copied and compared. -/
namespace Go.Proofs.Ytiekbfjmoemdgaa.VM
open Go
set_option linter.unusedVariables false
set_option linter.unusedSimpArgs false
attribute [local irreducible] wq wqL wqD wqE wqO Th Bk EndR
set_option maxHeartbeats 8000000

def rowC (cs : List V) (p : V × Int) : Prop := cs = [p.1, .int .i64 p.2]
def RowAt (H : Heap) (p : V × Int) (r : List Int × Int) : Prop := Sl 1 intC H p.1 r.1 ∧ p.2 = r.2
def RowsAt (H : Heap) (rv : List (V × Int)) (rs : List (List Int × Int)) : Prop := rv.length = rs.length ∧ ∀ (k : Nat) p r, rv[k]? = some p → rs[k]? = some r → RowAt H p r
/-- rows of data lie there -/
def Rows (H : Heap) (v : V) (rs : List (List Int × Int)) : Prop := ∃ rv, Sl 2 rowC H v rv ∧ RowsAt H rv rs

theorem RowAt.mono {H H' : Heap} {p : V × Int} {r : List Int × Int} (hp : H <+: H') (h : RowAt H p r) : RowAt H' p r := ⟨h.1.mono hp, h.2⟩
theorem RowsAt.mono {H H' : Heap} {rv : List (V × Int)} {rs : List (List Int × Int)} (hp : H <+: H') (h : RowsAt H rv rs) : RowsAt H' rv rs := ⟨h.1, fun k p r a b => (h.2 k p r a b).mono hp⟩
theorem Rows.mono {H H' : Heap} {v : V} {rs : List (List Int × Int)} (hp : H <+: H') (h : Rows H v rs) : Rows H' v rs := by
  obtain ⟨rv, h1, h2⟩ := h
  exact ⟨rv, h1.mono hp, h2.mono hp⟩

end Go.Proofs.Ytiekbfjmoemdgaa.VM

/- The statements' helpers: rows of data that are compared; rows and shapes that are handed in. -/
namespace Go.Proofs.Ytiekbfjmoemdgaa.VM
open Go
set_option linter.unusedVariables false
set_option linter.unusedSimpArgs false
attribute [local irreducible] wq wqL wqD wqE wqO Th Bk EndR
set_option maxHeartbeats 8000000

theorem rd_ints {K : Heap} {D : Type} {v : V} {d : DataW D} (h : RdV T K 22 v d) : ∃ xs, Sl 1 intC K v xs ∧ xs.length * 8 ≤ reachBytes :=
  (h.plain T22 rfl).isSlice T22 rfl T3 fun cs x hx => by
    obtain ⟨n, h1, _⟩ := hx.isInt T3 rfl
    exact ⟨n, h1⟩
end Go.Proofs.Ytiekbfjmoemdgaa.VM

/- Chapter 12: what every program answers; the statement Ranks. -/
namespace Go.Proofs.Ytiekbfjmoemdgaa.VM
open Go
set_option linter.unusedVariables false
set_option linter.unusedSimpArgs false
attribute [local irreducible] wq wqL wqD wqE wqO Th Bk EndR
set_option maxHeartbeats 8000000

/-- a fact that is kept from simp -/
def Held (p : Prop) : Prop := p
theorem ints_cells (xs : List Int) : Cells 1 intC (xs.flatMap fun x => [V.int .i64 x]) xs := cells_of (R := intC) (fun x => [V.int .i64 x]) (fun x => ⟨rfl, rfl⟩) xs
theorem slInts {H : Heap} {v : V} {xs : List Nat} (h : Sl 1 natC H v xs) : Sl 1 intC H v (xs.map fun (k : Nat) => (k : Int)) := by
  rcases h with ⟨rfl, rfl⟩ | ⟨b, off, cap, t, cs, wr, rfl, h1, h2, h3, h4⟩
  · exact .inl ⟨rfl, rfl⟩
  · refine .inr ⟨b, off, cap, t, cs, wr, by rw [List.length_map], by rw [List.length_map]; exact h1, h2, by rw [List.length_map]; exact h3, fun k y hy => ?_⟩
    rw [List.getElem?_map] at hy
    cases hx : xs[k]? with
    | none => rw [hx] at hy; cases hy
    | some x => rw [hx] at hy; cases hy; exact h4 k x hx
theorem ownInts {H : Heap} {b : Nat} {v : V} {xs : List Nat} (h : Own 1 natC H b v xs) : Own 1 intC H b v (xs.map fun (k : Nat) => (k : Int)) := by
  obtain ⟨cap, t, cs, rfl, h1, h2, h3, h4⟩ := h
  refine ⟨cap, t, cs, by rw [List.length_map], by rw [List.length_map]; exact h1, h2, h3, by rw [List.length_map]; exact h4.1, ?_, fun k y hy => ?_⟩
  · rw [List.length_map]; exact h4.2.1
  · rw [List.length_map]
    rw [List.getElem?_map] at hy
    cases hx : xs[k]? with
    | none => rw [hx] at hy; cases hy
    | some x => rw [hx] at hy; cases hy; exact h4.2.2 k x hx
theorem Mem.mineInts {B H : Heap} {v : V} {xs : List Nat} {L : List Res} {f : Res → List Res} (h : Mem B H L) (hh : Has L (.own 1 natC v xs) f) : Mine 1 intC B H v (xs.map fun (k : Nat) => (k : Int)) := by
  have hm := h.mine hh
  exact ⟨hm.1, hm.2.imp (fun h => ⟨h.1, by rw [h.2]; rfl⟩) fun ⟨b, h1, h2⟩ => ⟨b, h1, ownInts h2⟩⟩

theorem awake_ (K : Heap) : Call Try.prog 19 [] K (.bool true) K := by
  have e1 : rankE [5, -3, 5, 0] = 0 := by decide +kernel
  have e2 : rankL [5, -3, 5, 0] = [1, 3, 0, 2] := by decide +kernel
  have e3 : rankE [] = 1200 := by decide +kernel
  have e4 : rankE [1073741825] = 1200 := by decide +kernel
  refine call_pure fit mixed Try.func19 rfl rfl rfl (by kernel_rfl) rfl fun hM => ?_
  refine goM ?_
  refine l_sliceM intC [5, -3, 5, 0] [.int .i64 5, .int .i64 (-3), .int .i64 5, .int .i64 0] T22 rfl T3 rfl (ints_cells [5, -3, 5, 0]) (by decide) fun v1 H1 hM => ?_
  obtain ⟨_, H2, c1, u1, rfl, m1⟩ := rankOf_ H1 v1 [5, -3, 5, 0] (hM.sl .here) (by decide)
  rw [e1] at c1
  rw [e2] at m1
  refine l_callG c1 ?_
  replace hM := hM.call1 m1
  clear c1 m1
  refine goM ?_
  obtain ⟨_, H3, c1, u2, rfl, m1⟩ := rankOf_ H2 .nils [] (.inl ⟨rfl, rfl⟩) (by decide)
  rw [e3] at c1
  refine l_callG c1 ?_
  replace hM := hM.call1 m1
  clear c1 m1
  refine goM ?_
  refine l_sliceM intC [1073741825] [.int .i64 1073741825] T22 rfl T3 rfl (ints_cells [1073741825]) (by decide) fun v2 H4 hM => ?_
  obtain ⟨_, H5, c1, u3, rfl, m1⟩ := rankOf_ H4 v2 [1073741825] (hM.sl .here) (by decide)
  rw [e4] at c1
  refine l_callG c1 ?_
  replace hM := hM.call1 m1
  clear c1 m1
  refine goM ?_
  refine l_sliceM intC [1, 3, 0, 2] [.int .i64 1, .int .i64 3, .int .i64 0, .int .i64 2] T22 rfl T3 rfl (ints_cells [1, 3, 0, 2]) (by decide) fun v3 H6 hM => ?_
  have c1 := sameInts_ H6 u1 v3 [1, 3, 0, 2] [1, 3, 0, 2] (slInts (xs := [1, 3, 0, 2]) (hM.slG)) (hM.sl .here) (by decide)
  rw [decide_eq_true rfl] at c1
  refine l_callG c1 ?_
  refine goM ?_
  refine l_callG (num_ _ _) ?_
  refine goM ?_
  refine l_callG (num_ _ _) ?_
  refine goM ?_
  refine l_callG (num_ _ _) ?_
  refine goM ?_
  exact end_1 (by first | exact .inl rfl | exact .inr rfl) ⟨rfl, hM.pre⟩

theorem law_ranks {D : Type} (K : Heap) (vs : List V) (ds : List (DataW D)) (ro : Ro K) (h : RdAll T K [22] vs ds) : ∃ K', Call Try.prog 3 vs K (.bool true) K' := by
  obtain ⟨v1, vs, d1, ds, rfl, rfl, hv1, h⟩ := rdAll_cons h
  obtain ⟨rfl, rfl⟩ := rdAll_nil h
  obtain ⟨ss, hs, lw⟩ := rd_ints hv1
  replace lw : ss.length * 8 ≤ 140737488351232 := lw
  clear hv1 h
  refine ⟨K, ?_⟩
  have s1 := hs.cells
  refine call_pure fit mixed Try.func3 rfl rfl rfl (by kernel_rfl) rfl fun hM => ?_
  obtain ⟨us, H1, c1, p1, hlent⟩ := lendInts_ K v1 ss hs (by omega)
  refine goM ?_
  refine l_callG c1 ?_
  replace hM := hM.grow p1
  clear c1
  have s2 := hlent.sl.cells
  refine goM ?_
  obtain ⟨_, H2, c1, u1, rfl, m1⟩ := rankOf_ H1 us ss hlent.sl (by omega)
  refine l_callG c1 ?_
  have hk2 := hlent.pre m1.pre
  have s3 := (m1.sl .here).cells
  replace hM := hM.call1 m1
  have hMs := m1
  clear c1 m1
  refine goM ?_
  obtain ⟨_, H3, c1, u2, rfl, m1⟩ := refRank_ H2 v1 ss (hs.mono hM.pre) (by omega)
  refine l_callG c1 ?_
  have s4 := (m1.sl .here).cells
  have hMt := hMs.call1 m1
  replace hM := hM.call1 m1
  clear c1 m1
  refine goM ?_
  have c1 := sameInts_ H3 u1 u2 _ _ (slInts (hM.sl (v := u1) (xs := rankL ss) (by (repeat (first | exact Has.here | apply Has.there))))) (slInts (hM.sl (v := u2) (xs := rankL ss) .here)) (by
    rw [List.length_map]
    unfold rankL
    split
    · rw [rankN_len]; omega
    · simp)
  rw [decide_eq_true rfl] at c1
  refine l_callG c1 ?_
  clear c1
  refine goM ?_
  refine l_callG (num_ _ _) ?_
  refine goM ?_
  obtain ⟨H4, c1, p4⟩ := spoilInts_ H1 H3 u1 _ (hMt.mineInts (xs := rankL ss) (v := u1) (by (repeat (first | exact Has.here | apply Has.there)))) (by
    rw [List.length_map]
    unfold rankL
    split
    · rw [rankN_len]; omega
    · simp)
  refine l_callG c1 ?_
  clear c1
  refine goM ?_
  have c1 := keptInts_ H4 us v1 ss ss (hlent.pre p4) (hs.mono (p1.trans p4)) (by omega)
  rw [decide_eq_true rfl] at c1
  refine l_callG c1 ?_
  refine goM ?_
  refine l_callG (awake_ _) ?_
  refine goM ?_
  exact end_1 (by first | exact .inl rfl | exact .inr rfl) ⟨rfl, p1.trans p4⟩
end Go.Proofs.Ytiekbfjmoemdgaa.VM

/- Layer 13: the program's Donor. -/
namespace Go.Proofs.Ytiekbfjmoemdgaa.VM
open Go
set_option linter.unusedVariables false
set_option linter.unusedSimpArgs false
attribute [local irreducible] wq wqL wqD wqE wqO Th Bk EndR
set_option maxHeartbeats 8000000

theorem Sl.ints {H : Heap} {v : V} {xs : List Nat} (h : Sl 1 natC H v xs) : Sl 1 intC H v (xs.map fun (k : Nat) => (k : Int)) := by
  rcases h with ⟨rfl, rfl⟩ | ⟨b, off, cap, t, cs, wr, rfl, h1, h2, h3, h4⟩
  · exact .inl ⟨rfl, rfl⟩
  · refine .inr ⟨b, off, cap, t, cs, wr, by rw [List.length_map], by rw [List.length_map]; exact h1, h2, by rw [List.length_map]; exact h3, fun k y hy => ?_⟩
    rw [List.getElem?_map] at hy
    cases hx : xs[k]? with
    | none => rw [hx] at hy; cases hy
    | some x => rw [hx] at hy; cases hy; exact h4 k x hx

theorem index_ (H : Heap) (v : V) (xs : List Int) (x : Int) (hs : Sl 1 intC H v xs) (hl : xs.length ≤ 2 ^ 47) : ∃ w H', Call Try.prog 37 [v, .int .i64 x] H w H' ∧ H <+: H' ∧ ∃ r, w = .int .i64 r ∧ decide (r ≥ 0) = decide (x ∈ xs) := by
  have hlen := hs.len T22 rfl
  obtain ⟨n, hn⟩ : ∃ n, xs.length = n := ⟨_, rfl⟩
  rw [hn] at hlen hl
  refine call_mem fit mixed Try.func37 rfl rfl rfl (by kernel_rfl) fun hM => ?_
  clear hM
  refine goM ?_
  refine wq_loop (fun m ρ hp => ∃ k : Nat, k ≤ n ∧ m = n - k ∧ hp = H ∧ (∀ j : Nat, j < k → xs[j]? ≠ some x) ∧ ρ 0 = v ∧ ρ 1 = .int .i64 x ∧ ρ 7 = .int .i64 (n : Int) ∧ ρ 8 = .int .i64 (k : Nat)) ⟨0, Nat.zero_le _, rfl, rfl, fun j h => absurd h (Nat.not_lt_zero _), rfl, rfl, rfl, rfl⟩ ?_
  rintro _ ρ hp ⟨k, hk, rfl, hpe, hno, h0, h1, h7, h8⟩
  subst hpe
  refine goM ?_
  refine cond_go (fun hb => ?_) (fun hb => ?_)
  · have hk' : k < n := by simpa using hb
    clear hb
    have hg : xs[k]? = some (xs.getD k 0) := getDI (by omega)
    obtain ⟨b1, o1, _, hi1, rfl, _, hlo1, _⟩ := hs.get T22 rfl T3 rfl hg
    have ho1 := loadV_one T3 rfl hlo1
    have hw := wrap_succ (n := k) (by omega)
    generalize xs.getD k 0 = y at *
    refine goM ?_
    refine cond_go (fun hb => ?_) (fun hb => ?_)
    · have he : x = y := by simpa using hb
      subst he
      clear hb
      have hm : x ∈ xs := List.mem_iff_getElem?.2 ⟨k, hg⟩
      refine goM ?_
      refine end_1 (by first | exact .inl rfl | exact .inr rfl) ⟨List.prefix_refl _, (k : Int), rfl, ?_⟩
      rw [decide_eq_true hm]; simp
    · have he : x ≠ y := by simpa using hb
      clear hb
      have hno' : ∀ j : Nat, j < k + 1 → xs[j]? ≠ some x := fun j hj hx => by
        by_cases hjk : j = k
        · subst hjk; rw [hg] at hx; cases hx; exact he rfl
        · exact hno j (by omega) hx
      clear he hno
      refine goM ?_
      exact ⟨n - (k + 1), by omega, k + 1, hk', rfl, rfl, hno', by simp [put_app, put_none, *]⟩
  · have hk' : k = n := by have : ¬ k < n := by simpa using hb
                           omega
    subst hk'
    clear hb
    have hm : ¬ x ∈ xs := fun h => by
      obtain ⟨j, hj⟩ := List.mem_iff_getElem?.1 h
      exact hno j (by have := (List.getElem?_eq_some_iff.1 hj).1; omega) hj
    clear hno
    refine goM ?_
    refine end_1 (by first | exact .inl rfl | exact .inr rfl) ⟨List.prefix_refl _, -1, rfl, ?_⟩
    rw [decide_eq_false hm]; rfl

theorem contains_ (H : Heap) (v : V) (xs : List Int) (x : Int) (hs : Sl 1 intC H v xs) (hl : xs.length ≤ 2 ^ 47) : Call Try.prog 30 [v, .int .i64 x] H (.bool (decide (x ∈ xs))) H := by
  obtain ⟨_, H1, c1, p1, r, rfl, hr⟩ := index_ H v xs x hs hl
  generalize decide (x ∈ xs) = q at *
  refine call_pure fit mixed Try.func30 rfl rfl rfl (by kernel_rfl) rfl fun hM => ?_
  refine goM ?_
  refine l_callG c1 ?_
  refine goM ?_
  exact end_1 (by first | exact .inl rfl | exact .inr rfl) ⟨rfl, p1⟩

def donorOk (ss : List Int) (m cut x : Int) : Bool := rankMay ss && (!decide (m < 0) && (!decide (m ≥ (ss.length : Int)) && (!decide (cut < 1) && (!decide (cut > ((ss.length / 2 : Nat) : Int)) && (!decide (x < 0) && !decide (x ≥ 65536))))))
def lastOnes (ss : List Int) (cut : Int) : List Int := ((rankL ss).drop (ss.length - cut.toNat)).map fun (k : Nat) => (k : Int)
def donorR (ss : List Int) (m cut x : Int) : Int × Bool × Int :=
  if donorOk ss m cut x then (if decide (m ∈ lastOnes ss cut) then (((rankL ss).getD (x.toNat * cut.toNat / 65536) 0 : Nat), true, 0) else (0, false, 0)) else (0, false, 1300)
theorem rankL_len {ss : List Int} (h : rankMay ss = true) : (rankL ss).length = ss.length ∧ 1 ≤ ss.length ∧ ss.length ≤ 8 := by
  have h' := h
  unfold rankMay at h'
  simp only [Bool.and_eq_true, decide_eq_true_eq] at h'
  unfold rankL
  rw [if_pos h]
  exact ⟨rankN_len _ _, h'.1.1, h'.1.2⟩

theorem donor_ (H : Heap) (sv : V) (ss : List Int) (m cut x : Int) (hs : Sl 1 intC H sv ss) (hl : ss.length ≤ 2 ^ 47) :
    Call Try.prog 20 [sv, .int .i64 m, .int .i64 cut, .int .i64 x] H (.tup [.int .i64 (donorR ss m cut x).1, .bool (donorR ss m cut x).2.1, .int .i64 (donorR ss m cut x).2.2]) H := by
  refine call_pure fit mixed Try.func20 rfl rfl rfl (by kernel_rfl) rfl fun hM => ?_
  obtain ⟨_, H1, c1, u, rfl, m1⟩ := rankOf_ H sv ss hs hl
  have s1 := (m1.sl .here).cells
  have hM1 := hM.call1 m1
  have hsl := m1.sl .here
  have hlen := hsl.len T22 rfl
  clear hM m1
  refine goM ?_
  refine l_callG c1 ?_
  clear c1
  unfold donorR donorOk
  unfold rankE
  cases hmay : rankMay ss with
  | false =>
    have hv : (V.tup [.int .i64 0, .bool false, .int .i64 1300]) = V.tup [.int .i64 0, .bool false, .int .i64 1300] := rfl
    simp only [Bool.false_and, Bool.false_eq_true, if_false]
    refine goM ?_
    exact end_3 (by first | exact .inl rfl | exact .inr rfl) ⟨rfl, hM1.pre⟩
  | true =>
    obtain ⟨hrl, hn1, hn8⟩ := rankL_len hmay
    obtain ⟨n, hn⟩ : ∃ n, ss.length = n := ⟨_, rfl⟩
    rw [hrl, hn] at hlen
    rw [hn] at hrl hn1 hn8
    have hq : IntKind.i64.wrap ((n : Int).tdiv 2) = ((n / 2 : Nat) : Int) := by
      rw [show (n : Int).tdiv 2 = ((n / 2 : Nat) : Int) from (Int.ofNat_tdiv n 2).symm]; exact wrap_nat (by omega)
    have hla : lastOnes ss cut = ((rankL ss).drop (n - cut.toNat)).map fun (k : Nat) => (k : Int) := by unfold lastOnes; rw [hn]
    simp only [Bool.true_and, if_true, hn]
    obtain ⟨q1, e1⟩ : ∃ q, decide (m < 0) = q := ⟨_, rfl⟩
    obtain ⟨q2, e2⟩ : ∃ q, decide (m ≥ (n : Int)) = q := ⟨_, rfl⟩
    obtain ⟨q3, e3⟩ : ∃ q, decide (cut < 1) = q := ⟨_, rfl⟩
    obtain ⟨q4, e4⟩ : ∃ q, decide (cut > ((n / 2 : Nat) : Int)) = q := ⟨_, rfl⟩
    obtain ⟨q5, e5⟩ : ∃ q, decide (x < 0) = q := ⟨_, rfl⟩
    obtain ⟨q6, e6⟩ : ∃ q, decide (x ≥ 65536) = q := ⟨_, rfl⟩
    rw [e1, e2, e3, e4, e5, e6]
    cases q1
    rotate_left
    · simp only [Bool.not_true, Bool.false_and, Bool.false_eq_true, if_false]
      refine goM ?_
      exact end_3 (by first | exact .inl rfl | exact .inr rfl) ⟨rfl, hM1.pre⟩
    cases q2
    rotate_left
    · simp only [Bool.not_true, Bool.not_false, Bool.true_and, Bool.false_and, Bool.false_eq_true, if_false]
      refine goM ?_
      exact end_3 (by first | exact .inl rfl | exact .inr rfl) ⟨rfl, hM1.pre⟩
    cases q3
    rotate_left
    · simp only [Bool.not_true, Bool.not_false, Bool.true_and, Bool.false_and, Bool.false_eq_true, if_false]
      refine goM ?_
      exact end_3 (by first | exact .inl rfl | exact .inr rfl) ⟨rfl, hM1.pre⟩
    cases q4
    rotate_left
    · simp only [Bool.not_true, Bool.not_false, Bool.true_and, Bool.false_and, Bool.false_eq_true, if_false]
      refine goM ?_
      exact end_3 (by first | exact .inl rfl | exact .inr rfl) ⟨rfl, hM1.pre⟩
    cases q5
    rotate_left
    · simp only [Bool.not_true, Bool.not_false, Bool.true_and, Bool.false_and, Bool.false_eq_true, if_false]
      refine goM ?_
      exact end_3 (by first | exact .inl rfl | exact .inr rfl) ⟨rfl, hM1.pre⟩
    cases q6
    rotate_left
    · simp only [Bool.not_true, Bool.not_false, Bool.true_and, Bool.false_and, Bool.false_eq_true, if_false]
      refine goM ?_
      exact end_3 (by first | exact .inl rfl | exact .inr rfl) ⟨rfl, hM1.pre⟩
    simp only [Bool.not_false, Bool.true_and, if_true]
    have i3 := of_decide_eq_false e3
    have i4 := of_decide_eq_false e4
    have i5 := of_decide_eq_false e5
    have i6 := of_decide_eq_false e6
    obtain ⟨c, hc⟩ : ∃ c : Nat, cut = c := ⟨cut.toNat, by omega⟩
    obtain ⟨y, hy⟩ : ∃ y : Nat, x = y := ⟨x.toNat, by omega⟩
    subst hc; subst hy
    simp only [Int.toNat_natCast] at hla ⊢
    have hw1 : IntKind.i64.wrap ((n : Int) - (c : Int)) = ((n - c : Nat) : Int) := by rw [wrap_i64 (by omega) (by omega)]; omega
    obtain ⟨w, hsl1, hsl2⟩ := hsl.rest (l := n - c) (by omega)
    replace hsl1 : sliceV 1 u (some (.int .i64 ((n - c : Nat) : Int))) none none = some w := hsl1
    have c2 := contains_ H1 w _ m hsl2.ints (by rw [List.length_map, List.length_drop]; omega)
    rw [← hla] at c2
    have hyc : y * c ≤ 65535 * c := Nat.mul_le_mul_right _ (by omega)
    have hq2 : y * c / 65536 < n := by omega
    have hw2 : IntKind.i64.wrap ((y : Int) * (c : Int)) = ((y * c : Nat) : Int) := by rw [← Int.natCast_mul]; exact wrap_nat (by omega)
    have hw3 : IntKind.i64.wrap (((y * c : Nat) : Int).tdiv 65536) = ((y * c / 65536 : Nat) : Int) := by
      rw [show ((y * c : Nat) : Int).tdiv 65536 = ((y * c / 65536 : Nat) : Int) from (Int.ofNat_tdiv (y * c) 65536).symm]; exact wrap_nat (by omega)
    have hg : (rankL ss)[y * c / 65536]? = some ((rankL ss).getD (y * c / 65536) 0) := by simp [List.getD_eq_getElem?_getD, hrl, hq2]
    obtain ⟨b1, o1, _, hi1, rfl, _, hlo1, _⟩ := hsl.get T22 rfl T3 rfl hg
    have ho1 := loadV_one T3 rfl hlo1
    have hpre := hM1.pre
    generalize (rankL ss).getD (y * c / 65536) 0 = d at *
    generalize y * c / 65536 = q at *
    obtain ⟨t, ht⟩ : ∃ t, decide (m ∈ lastOnes ss (c : Int)) = t := ⟨_, rfl⟩
    rw [ht] at c2 ⊢
    clear i3 i4 i5 i6 hla hyc hq2 hg hlo1 hsl2 hsl ht
    cases t with
    | false =>
      refine goM ?_
      refine l_callG c2 ?_
      refine goM ?_
      exact end_3 (by first | exact .inl rfl | exact .inr rfl) ⟨rfl, hpre⟩
    | true =>
      refine goM ?_
      refine l_callG c2 ?_
      refine goM ?_
      exact end_3 (by first | exact .inl rfl | exact .inr rfl) ⟨rfl, hpre⟩
end Go.Proofs.Ytiekbfjmoemdgaa.VM

/- Layer 13: the document's Donor. -/
namespace Go.Proofs.Ytiekbfjmoemdgaa.VM
open Go
set_option linter.unusedVariables false
set_option linter.unusedSimpArgs false
attribute [local irreducible] wq wqL wqD wqE wqO Th Bk EndR
set_option maxHeartbeats 8000000

theorem donorOk_eq {ss : List Int} {m cut x : Int} (h : rankMay ss = true) : donorOk ss m cut x = (within m 0 ((ss.length : Int) - 1) && (within cut 1 ((ss.length / 2 : Nat) : Int) && within x 0 65535)) := by
  unfold donorOk within
  rw [h, Bool.true_and]
  apply Bool.eq_iff_iff.2
  simp only [Bool.and_eq_true, Bool.not_eq_true', decide_eq_true_eq, decide_eq_false_iff_not]
  omega
theorem lastOnes_mem {ss : List Int} {cut m : Int} : m ∈ lastOnes ss cut ↔ ∃ (t c : Nat), ss.length - cut.toNat ≤ t ∧ (rankL ss)[t]? = some c ∧ (c : Int) = m := by
  unfold lastOnes
  rw [List.mem_map]
  constructor
  · rintro ⟨c, hc, rfl⟩
    obtain ⟨j, hj⟩ := List.mem_iff_getElem?.1 hc
    rw [List.getElem?_drop] at hj
    exact ⟨_, c, Nat.le_add_right _ _, hj, rfl⟩
  · rintro ⟨t, c, ht, hc, rfl⟩
    refine ⟨c, List.mem_iff_getElem?.2 ⟨t - (ss.length - cut.toNat), ?_⟩, rfl⟩
    rw [List.getElem?_drop, show ss.length - cut.toNat + (t - (ss.length - cut.toNat)) = t by omega]
    exact hc

theorem refDonor_ (H : Heap) (sv : V) (ss : List Int) (m cut x : Int) (hs : Sl 1 intC H sv ss) (hl : ss.length ≤ 2 ^ 47) :
    Call Try.prog 21 [sv, .int .i64 m, .int .i64 cut, .int .i64 x] H (.tup [.int .i64 (donorR ss m cut x).1, .bool (donorR ss m cut x).2.1, .int .i64 (donorR ss m cut x).2.2]) H := by
  refine call_pure fit mixed Try.func21 rfl rfl rfl (by kernel_rfl) rfl fun hM => ?_
  obtain ⟨_, H1, c1, u, rfl, m1⟩ := refRank_ H sv ss hs hl
  have s1 := (m1.sl .here).cells
  have hM1 := hM.call1 m1
  have hsl := m1.sl .here
  have hlen := hsl.len T22 rfl
  have hlen0 := hs.len T22 rfl
  clear hM m1
  refine goM ?_
  refine l_callG c1 ?_
  clear c1
  unfold donorR
  unfold rankE
  cases hmay : rankMay ss with
  | false =>
    have e : donorOk ss m cut x = false := by unfold donorOk; rw [hmay]; rfl
    simp only [e, Bool.false_eq_true, if_false]
    refine goM ?_
    exact end_3 (by first | exact .inl rfl | exact .inr rfl) ⟨rfl, hM1.pre⟩
  | true =>
    obtain ⟨hrl, hn1, hn8⟩ := rankL_len hmay
    rw [donorOk_eq hmay]
    have hmem := lastOnes_mem (ss := ss) (cut := cut) (m := m)
    obtain ⟨n, hn⟩ : ∃ n, ss.length = n := ⟨_, rfl⟩
    rw [hrl] at hlen
    rw [hn] at hrl hn1 hn8 hlen hlen0 hmem ⊢
    have hq : IntKind.i64.wrap ((n : Int).tdiv 2) = ((n / 2 : Nat) : Int) := by
      rw [show (n : Int).tdiv 2 = ((n / 2 : Nat) : Int) from (Int.ofNat_tdiv n 2).symm]; exact wrap_nat (by omega)
    have hw0 : IntKind.i64.wrap ((n : Int) - 1) = (n : Int) - 1 := wrap_i64 (by omega) (by omega)
    have c2 := upTo_r H1 m 0 ((n : Int) - 1)
    have c3 := upTo_r H1 cut 1 ((n / 2 : Nat) : Int)
    have c4 := upTo_r H1 x 0 65535
    simp only [if_true]
    cases h2 : within m 0 ((n : Int) - 1) with
    | false =>
      rw [h2] at c2
      simp only [Bool.false_and, Bool.false_eq_true, if_false]
      refine goM ?_
      refine l_callG c2 ?_
      refine goM ?_
      exact end_3 (by first | exact .inl rfl | exact .inr rfl) ⟨rfl, hM1.pre⟩
    | true =>
      rw [h2] at c2
      cases h3 : within cut 1 ((n / 2 : Nat) : Int) with
      | false =>
        rw [h3] at c3
        simp only [Bool.true_and, Bool.false_and, Bool.false_eq_true, if_false]
        refine goM ?_
        refine l_callG c2 ?_
        refine goM ?_
        refine l_callG c3 ?_
        refine goM ?_
        exact end_3 (by first | exact .inl rfl | exact .inr rfl) ⟨rfl, hM1.pre⟩
      | true =>
        rw [h3] at c3
        cases h4 : within x 0 65535 with
        | false =>
          rw [h4] at c4
          simp only [Bool.true_and, Bool.and_false, Bool.false_eq_true, if_false]
          refine goM ?_
          refine l_callG c2 ?_
          refine goM ?_
          refine l_callG c3 ?_
          refine goM ?_
          refine l_callG c4 ?_
          refine goM ?_
          exact end_3 (by first | exact .inl rfl | exact .inr rfl) ⟨rfl, hM1.pre⟩
        | true =>
          rw [h4] at c4
          rw [within_iff] at h2 h3 h4
          simp only [Bool.true_and, if_true]
          obtain ⟨c, hc⟩ : ∃ c : Nat, cut = c := ⟨cut.toNat, by omega⟩
          obtain ⟨y, hy⟩ : ∃ y : Nat, x = y := ⟨x.toNat, by omega⟩
          subst hc; subst hy
          simp only [Int.toNat_natCast] at hmem ⊢
          have hw1 : IntKind.i64.wrap ((n : Int) - (c : Int)) = ((n - c : Nat) : Int) := by rw [wrap_i64 (by omega) (by omega)]; omega
          have hyc : y * c ≤ 65535 * c := Nat.mul_le_mul_right _ (by omega)
          have hq2 : y * c / 65536 < n := by omega
          have hw2 : IntKind.i64.wrap ((y : Int) * (c : Int)) = ((y * c : Nat) : Int) := by rw [← Int.natCast_mul]; exact wrap_nat (by omega)
          have hw3 : vbin T .shr 3 (.int .i64 ((y * c : Nat) : Int)) (.int .u64 16) = some (.int .i64 ((y * c / 65536 : Nat) : Int)) := by
            have e : ((y * c : Nat) : Int).fdiv (2 ^ (min ((16 : Int).toNat) IntKind.i64.bits)) = ((y * c / 65536 : Nat) : Int) := by
              rw [show (2 : Int) ^ (min ((16 : Int).toNat) IntKind.i64.bits) = ((65536 : Nat) : Int) by decide]
              exact (Int.ofNat_fdiv (y * c) 65536).symm
            simp only [vbin, shiftBin]
            rw [if_neg (by omega), e]
          have hg : (rankL ss)[y * c / 65536]? = some ((rankL ss).getD (y * c / 65536) 0) := by simp [List.getD_eq_getElem?_getD, hrl, hq2]
          obtain ⟨b1, o1, _, hi1, rfl, _, hlo1, _⟩ := hsl.get T22 rfl T3 rfl hg
          have ho1 := loadV_one T3 rfl hlo1
          have hpre := hM1.pre
          have hc1 : 1 ≤ c ∧ c ≤ n := by omega
          generalize (rankL ss).getD (y * c / 65536) 0 = d at *
          generalize y * c / 65536 = q at *
          generalize y * c = yc at *
          clear h2 h3 h4 hyc hq2 hg hlo1 hM1
          generalize rankL ss = row at *
          refine goM ?_
          refine l_callG c2 ?_
          refine goM ?_
          refine l_callG c3 ?_
          refine goM ?_
          refine l_callG c4 ?_
          clear c2 c3 c4
          refine goM ?_
          refine wq_loop (fun k ρ hp => ∃ j : Nat, n - c ≤ j ∧ j ≤ n ∧ k = n - j ∧ hp = H1 ∧ (∀ (t e : Nat), n - c ≤ t → t < j → row[t]? = some e → (e : Int) ≠ m) ∧ ρ 1 = .int .i64 m ∧ ρ 2 = .int .i64 (c : Int) ∧ ρ 3 = .int .i64 (y : Int) ∧ ρ 11 = u ∧ ρ 13 = .int .i64 (j : Int)) ⟨n - c, Nat.le_refl _, Nat.sub_le _ _, rfl, rfl, fun t e h1 h2 => absurd h1 (by omega), rfl, rfl, rfl, rfl, rfl⟩ ?_
          rintro _ ρ hp ⟨j, hj1, hj, rfl, hpe, hno, g1, g2, g3, g11, g13⟩
          subst hpe
          refine goM ?_
          refine cond_go (fun hb => ?_) (fun hb => ?_)
          · have hj' : j < n := by simpa using hb
            clear hb
            obtain ⟨e, he⟩ : ∃ e, row[j]? = some e := ⟨row[j]'(by omega), by simp⟩
            obtain ⟨b2, o2, _, hi2, rfl, _, hlo2, _⟩ := hsl.get T22 rfl T3 rfl he
            have ho2 := loadV_one T3 rfl hlo2
            have hwj := wrap_succ (n := j) (by omega)
            clear hlo2
            cases hem : ((e : Int) == m) with
            | true =>
              have hin : decide (m ∈ lastOnes ss (c : Int)) = true := decide_eq_true (hmem.2 ⟨j, e, hj1, he, by simpa using hem⟩)
              rw [hin]
              clear hmem hno hin
              simp only [if_true]
              repeat (first | (refine l_pl ?_; refine l_step (s_bin eLk eLk hw3) ?_) | (refine l_pl ?_; refine l_goM ?_) | (refine d_pl ?_; refine d_goM ?_) | (refine l_gd ?_; first | refine l_onG ?_ | refine l_offG ?_ | refine l_offU ?_) | (refine d_gd ?_; first | refine d_onG ?_ | refine d_offG ?_ | refine d_offU ?_) | (refine cond_pl ?_; first | refine cond_yes ?_ | refine cond_no ?_) | refine wq_seq ?_ | refine wq_line ?_ | refine wq_draw (by decide +kernel) ?_ | refine wq_block ?_ | refine l_nil ?_ | refine d_nil ?_ | refine wq_skip ?_ | refine wq_ret ?_ | refine wq_exit ?_ | refine th_normal ?_ | refine th_ret ?_ | refine th_exit ?_ | refine bk_normal ?_ | refine bk_ret ?_ | refine bk_exit ?_ | refine bk_other rfl ?_)
              exact end_3 (by first | exact .inl rfl | exact .inr rfl) ⟨rfl, hpre⟩
            | false =>
              have hno' : ∀ (t e : Nat), n - c ≤ t → t < j + 1 → row[t]? = some e → (e : Int) ≠ m := fun t e' h1 h2 h3 => by
                by_cases ht : t = j
                · subst ht; rw [he] at h3; cases h3; simpa using hem
                · exact hno t e' h1 (by omega) h3
              clear hno hmem
              refine goM ?_
              exact ⟨n - (j + 1), by omega, j + 1, by omega, hj', rfl, rfl, hno', by simp [put_app, put_none, *]⟩
          · have hj' : j = n := by have : ¬ j < n := by simpa using hb
                                   omega
            subst hj'
            clear hb
            have hin : decide (m ∈ lastOnes ss (c : Int)) = false := decide_eq_false fun h => by
              obtain ⟨t, e, h1, h2, h3⟩ := hmem.1 h
              exact hno t e h1 (by have := (List.getElem?_eq_some_iff.1 h2).1; omega) h2 h3
            rw [hin]
            clear hno hmem hin
            simp only [Bool.false_eq_true, if_false]
            refine goM ?_
            exact end_3 (by first | exact .inl rfl | exact .inr rfl) ⟨rfl, hpre⟩
end Go.Proofs.Ytiekbfjmoemdgaa.VM
