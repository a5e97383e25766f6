/- Chapter 7: gradients of any input; what every program answers that is one. -/
import Derived.Test.YtjageapgbpdlhaaNetI
import Derived.Test.YtjageapgbpdlhaaRowB
namespace Go.Proofs.Ytjageapgbpdlhaa.VM
open Go
set_option linter.unusedVariables false
set_option linter.unusedSimpArgs false
attribute [local irreducible] wq wqL wqD wqE wqO Th Bk EndR
set_option maxHeartbeats 8000000

def gradOk (i h : Int) (ws xs : List Int) (y : Int) : Bool := fits i h ws && feeds i xs && fixMay y
def gradE (i h : Int) (ws xs : List Int) (y : Int) : Int := if gradOk i h ws xs y then 0 else 700
def gradL (i h : Int) (ws xs : List Int) (y : Int) : List Int := if gradOk i h ws xs y then grad i.toNat h.toNat ws xs y else []

theorem gradOk_split {i h : Int} {ws xs : List Int} {y : Int} (hok : gradOk i h ws xs y = true) : ∃ i' h' : Nat, i = i' ∧ h = h' ∧ fits i' h' ws = true ∧ feeds i' xs = true ∧ fixMay y = true := by
  simp only [gradOk, Bool.and_eq_true] at hok
  obtain ⟨⟨h1, h2⟩, h3⟩ := hok
  obtain ⟨_, _, i', h', rfl, rfl, _⟩ := fits_split h1
  exact ⟨i', h', rfl, rfl, h1, h2, h3⟩

theorem grad_any (H : Heap) (i h y : Int) (w x : V) (ws xs : List Int) (hw : Sl 1 intC H w ws) (hx : Sl 1 intC H x xs) (lw : ws.length ≤ 2 ^ 47) (lx : xs.length ≤ 2 ^ 47) :
    ∃ u H', Call Try.prog 15 [.agg [.int .i64 i, .int .i64 h], w, .agg [x, .int .i64 y]] H (.tup [u, .int .i64 (gradE i h ws xs y)]) H' ∧ Mine 1 intC H H' u (gradL i h ws xs y) := by
  unfold gradE gradL
  cases hok : gradOk i h ws xs y with
  | false => exact ⟨.nils, H, grad_bad H i h y w x ws xs hw hx lw lx hok, Mine.nil (List.prefix_refl _)⟩
  | true =>
    obtain ⟨i, h, rfl, rfl, h1, h2, h3⟩ := gradOk_split hok
    exact grad_good H i h y w x ws xs hw hx h1 h2 h3

theorem refGrad_any (H : Heap) (i h y : Int) (w x : V) (ws xs : List Int) (hw : Sl 1 intC H w ws) (hx : Sl 1 intC H x xs) (lw : ws.length ≤ 2 ^ 47) (lx : xs.length ≤ 2 ^ 47) :
    ∃ u H', Call Try.prog 16 [.agg [.int .i64 i, .int .i64 h], w, .agg [x, .int .i64 y]] H (.tup [u, .int .i64 (gradE i h ws xs y)]) H' ∧ Mine 1 intC H H' u (gradL i h ws xs y) := by
  unfold gradE gradL
  cases hok : gradOk i h ws xs y with
  | false => exact ⟨.nils, H, refGrad_bad H i h y w x ws xs hw hx lw lx hok, Mine.nil (List.prefix_refl _)⟩
  | true =>
    obtain ⟨i, h, rfl, rfl, h1, h2, h3⟩ := gradOk_split hok
    exact refGrad_good H i h y w x ws xs hw hx h1 h2 h3

theorem grad_len {i h : Nat} {ws xs : List Int} {y : Int} (hx : xs.length = i) : (grad i h ws xs y).length = netSize i h := by
  unfold grad
  have hrl : ∀ e us k, (gradRow i h ws xs e us k).length = i + 1 := fun e us k => by simp [gradRow, hx]
  simp only [List.length_append, flat_len (hrl _ _), List.length_map, List.length_cons, List.length_nil, acts, units, List.length_range]
  unfold netSize; omega
theorem gradL_len (i h : Int) (ws xs : List Int) (y : Int) : (gradL i h ws xs y).length ≤ 16 := by
  unfold gradL
  split
  · rename_i hok
    obtain ⟨i, h, rfl, rfl, h1, h2, h3⟩ := gradOk_split hok
    obtain ⟨_, _, i', h', hi', hh', _, hi2, _, hh2, _⟩ := fits_split h1
    simp only [Int.toNat_natCast]
    rw [grad_len (Int.ofNat_inj.1 (feeds_split h2).1)]
    have : i = i' := Int.ofNat_inj.1 hi'
    have : h = h' := Int.ofNat_inj.1 hh'
    have := small_size (i := i) (h := h) (by omega) (by omega)
    unfold netSize; omega
  · simp

def givenW : List Int := [65536, -65536, 100, 5, 32768, -200, 65536, 131072, 7]

theorem ints_cells : ∀ xs : List Int, Cells 1 intC (xs.map (V.int .i64)) xs
  | [] => Cells.nil
  | x :: xs => Cells.cons (cs := [.int .i64 x]) rfl rfl (ints_cells xs)

theorem given_ (H : Heap) : ∃ w H', Call Try.prog 24 [] H (.tup [.agg [.int .i64 2, .int .i64 2], w]) H' ∧ Mine 1 intC H H' w givenW := by
  suffices h : ∃ u H', (∃ w, u = .tup [.agg [.int .i64 2, .int .i64 2], w] ∧ Mine 1 intC H H' w givenW) ∧ Call Try.prog 24 [] H u H' by
    obtain ⟨_, H', ⟨w, rfl, h1⟩, h2⟩ := h
    exact ⟨w, H', h2, h1⟩
  refine call_wq fit mixed Try.func24 rfl rfl rfl (by kernel_rfl) ?_
  have hm : Mine 1 intC H (H ++ [.row [.int .i64 2, .int .i64 2] true] ++ [.row (givenW.map (V.int .i64)) true]) (.slc (H ++ [.row [.int .i64 2, .int .i64 2] true] : Heap).length 0 9 9 true 1) givenW := mine_make (List.prefix_append _ _) (ints_cells givenW)
  rw [List.append_assoc, len_row H _ (.row [.int .i64 0, .int .i64 0] true)] at hm
  repeat (first | refine l_go ?_ | refine d_go ?_ | refine l_onG ?_ | refine l_offG ?_ | refine d_onG ?_ | refine d_offG ?_ | refine wq_seq ?_ | refine wq_line ?_ | refine wq_draw (by decide +kernel) ?_ | refine wq_block ?_ | refine l_nil ?_ | refine d_nil ?_ | refine wq_skip ?_ | refine wq_ret ?_ | refine wq_exit ?_ | refine th_normal ?_ | refine th_ret ?_ | refine th_exit ?_ | refine bk_normal ?_ | refine bk_ret ?_ | refine bk_exit ?_ | refine bk_other rfl ?_)
  refine end_heap (h' := H ++ ([.row [.int .i64 2, .int .i64 2] true] ++ [.row (givenW.map (V.int .i64)) true])) rfl ?_
  refine end_ret (v := .tup [.agg [.int .i64 2, .int .i64 2], .slc (H ++ [.row [.int .i64 0, .int .i64 0] true] : Heap).length 0 9 9 true 1]) ?_ ⟨_, rfl, hm⟩
  simp only [resRf, resRs, resR, put_app, put_none, Nat.reduceEqDiff, reduceIte, Option.some.injEq, reduceCtorEq, T23, loadN_app0]
  rfl

theorem awake7_ (H : Heap) : Call Try.prog 22 [] H (.bool true) H := by
  refine call_plain fit mixed Try.func22 rfl rfl rfl (by kernel_rfl) rfl ?_
  obtain ⟨w, H1, c1, m1⟩ := given_ H
  obtain ⟨H2, hH2⟩ : ∃ H2, H1 ++ [.row [.int .i64 2, .int .i64 2] true] = H2 := ⟨_, rfl⟩
  have p2 : H1 <+: H2 := by rw [← hH2]; exact List.prefix_append _ _
  obtain ⟨H3, hH3⟩ : ∃ H3, H2 ++ [.row [.int .i64 1000, .int .i64 400] true] = H3 := ⟨_, rfl⟩
  have p3 : H2 <+: H3 := by rw [← hH3]; exact List.prefix_append _ _
  have mx : Mine 1 intC H2 H3 (.slc H2.length 0 2 2 true 1) [1000, 400] := by rw [← hH3]; exact mine_make (List.prefix_refl _) (ints_cells [1000, 400])
  have q : ∀ B, H2 <+: B → loadV T 23 B H1.length 0 = some (.agg [.int .i64 2, .int .i64 2]) := fun B hp => by
    refine loadV_agg T23 rfl (loadN_pre hp ?_)
    rw [← hH2, loadN_app0]; rfl
  obtain ⟨a, H4, c2, m4⟩ := grad_any H3 2 2 (-64829) w (.slc H2.length 0 2 2 true 1) givenW [1000, 400] (m1.sl.mono (p2.trans p3)) mx.sl (by decide) (by decide)
  obtain ⟨b, H5, c3, m5⟩ := grad_any H4 2 2 0 w .nils givenW [] (m1.sl.mono (p2.trans (p3.trans m4.1))) (.inl ⟨rfl, rfl⟩) (by decide) (by decide)
  have e2 : gradE 2 2 givenW [1000, 400] (-64829) = 0 := by decide +kernel
  have l2 : gradL 2 2 givenW [1000, 400] (-64829) = [1000, 400, 65536, 2000, 800, 131072, 700, 0, 65536] := by decide +kernel
  have e3 : gradE 2 2 givenW [] 0 = 700 := by decide +kernel
  rw [e2] at c2
  rw [l2] at m4
  rw [e3] at c3
  have l0 := q H2 (List.prefix_refl _)
  have l4 := q H4 (p3.trans m4.1)
  obtain ⟨H6, hH6⟩ : ∃ H6, H5 ++ [.row ([1000, 400, 65536, 2000, 800, 131072, 700, 0, 65536].map (V.int .i64)) true] = H6 := ⟨_, rfl⟩
  have p6 : H5 <+: H6 := by rw [← hH6]; exact List.prefix_append _ _
  have m6 : Mine 1 intC H5 H6 (.slc H5.length 0 9 9 true 1) [1000, 400, 65536, 2000, 800, 131072, 700, 0, 65536] := by rw [← hH6]; exact mine_make (List.prefix_refl _) (ints_cells _)
  have c4 := sameInts_ H6 a (.slc H5.length 0 9 9 true 1) _ _ (m4.sl.mono (m5.1.trans p6)) m6.sl (by decide)
  rw [decide_eq_true rfl] at c4
  have pend : H <+: H6 := m1.1.trans (p2.trans (p3.trans (m4.1.trans (m5.1.trans p6))))
  clear m1 p2 p3 mx q m4 m5 e2 l2 e3 p6 m6
  repeat (first | refine l_go ?_ | refine d_go ?_ | refine l_onG ?_ | refine l_offG ?_ | refine d_onG ?_ | refine d_offG ?_ | refine wq_seq ?_ | refine wq_line ?_ | refine wq_draw (by decide +kernel) ?_ | refine wq_block ?_ | refine l_nil ?_ | refine d_nil ?_ | refine wq_skip ?_ | refine wq_ret ?_ | refine wq_exit ?_ | refine th_normal ?_ | refine th_ret ?_ | refine th_exit ?_ | refine bk_normal ?_ | refine bk_ret ?_ | refine bk_exit ?_ | refine bk_other rfl ?_)
  refine l_callG c1 ?_
  repeat (first | refine l_goB ?_ | refine d_goB ?_ | refine l_onG ?_ | refine l_offG ?_ | refine d_onG ?_ | refine d_offG ?_ | refine wq_seq ?_ | refine wq_line ?_ | refine wq_draw (by decide +kernel) ?_ | refine wq_block ?_ | refine l_nil ?_ | refine d_nil ?_ | refine wq_skip ?_ | refine wq_ret ?_ | refine wq_exit ?_ | refine th_normal ?_ | refine th_ret ?_ | refine th_exit ?_ | refine bk_normal ?_ | refine bk_ret ?_ | refine bk_exit ?_ | refine bk_other rfl ?_)
  refine l_heap (h' := H2) hH2 ?_
  repeat (first | refine l_go ?_ | refine d_go ?_ | refine l_onG ?_ | refine l_offG ?_ | refine d_onG ?_ | refine d_offG ?_ | refine wq_seq ?_ | refine wq_line ?_ | refine wq_draw (by decide +kernel) ?_ | refine wq_block ?_ | refine l_nil ?_ | refine d_nil ?_ | refine wq_skip ?_ | refine wq_ret ?_ | refine wq_exit ?_ | refine th_normal ?_ | refine th_ret ?_ | refine th_exit ?_ | refine bk_normal ?_ | refine bk_ret ?_ | refine bk_exit ?_ | refine bk_other rfl ?_)
  refine l_heap (h' := H3) hH3 ?_
  refine l_callG c2 ?_
  repeat (first | refine l_go ?_ | refine d_go ?_ | refine l_onG ?_ | refine l_offG ?_ | refine d_onG ?_ | refine d_offG ?_ | refine wq_seq ?_ | refine wq_line ?_ | refine wq_draw (by decide +kernel) ?_ | refine wq_block ?_ | refine l_nil ?_ | refine d_nil ?_ | refine wq_skip ?_ | refine wq_ret ?_ | refine wq_exit ?_ | refine th_normal ?_ | refine th_ret ?_ | refine th_exit ?_ | refine bk_normal ?_ | refine bk_ret ?_ | refine bk_exit ?_ | refine bk_other rfl ?_)
  refine l_callG c3 ?_
  repeat (first | refine l_go ?_ | refine d_go ?_ | refine l_onG ?_ | refine l_offG ?_ | refine d_onG ?_ | refine d_offG ?_ | refine wq_seq ?_ | refine wq_line ?_ | refine wq_draw (by decide +kernel) ?_ | refine wq_block ?_ | refine l_nil ?_ | refine d_nil ?_ | refine wq_skip ?_ | refine wq_ret ?_ | refine wq_exit ?_ | refine th_normal ?_ | refine th_ret ?_ | refine th_exit ?_ | refine bk_normal ?_ | refine bk_ret ?_ | refine bk_exit ?_ | refine bk_other rfl ?_)
  refine l_heap (h' := H6) hH6 ?_
  refine l_callG c4 ?_
  repeat (first | refine l_go ?_ | refine d_go ?_ | refine l_onG ?_ | refine l_offG ?_ | refine d_onG ?_ | refine d_offG ?_ | refine wq_seq ?_ | refine wq_line ?_ | refine wq_draw (by decide +kernel) ?_ | refine wq_block ?_ | refine l_nil ?_ | refine d_nil ?_ | refine wq_skip ?_ | refine wq_ret ?_ | refine wq_exit ?_ | refine th_normal ?_ | refine th_ret ?_ | refine th_exit ?_ | refine bk_normal ?_ | refine bk_ret ?_ | refine bk_exit ?_ | refine bk_other rfl ?_)
  refine l_callG (num_ _ _) ?_
  repeat (first | refine l_go ?_ | refine d_go ?_ | refine l_onG ?_ | refine l_offG ?_ | refine d_onG ?_ | refine d_offG ?_ | refine wq_seq ?_ | refine wq_line ?_ | refine wq_draw (by decide +kernel) ?_ | refine wq_block ?_ | refine l_nil ?_ | refine d_nil ?_ | refine wq_skip ?_ | refine wq_ret ?_ | refine wq_exit ?_ | refine th_normal ?_ | refine th_ret ?_ | refine th_exit ?_ | refine bk_normal ?_ | refine bk_ret ?_ | refine bk_exit ?_ | refine bk_other rfl ?_)
  refine l_callG (num_ _ _) ?_
  repeat (first | refine l_go ?_ | refine d_go ?_ | refine l_onG ?_ | refine l_offG ?_ | refine d_onG ?_ | refine d_offG ?_ | refine wq_seq ?_ | refine wq_line ?_ | refine wq_draw (by decide +kernel) ?_ | refine wq_block ?_ | refine l_nil ?_ | refine d_nil ?_ | refine wq_skip ?_ | refine wq_ret ?_ | refine wq_exit ?_ | refine th_normal ?_ | refine th_ret ?_ | refine th_exit ?_ | refine bk_normal ?_ | refine bk_ret ?_ | refine bk_exit ?_ | refine bk_other rfl ?_)
  refine end_ret (by simp only [resRf, resRs, resR]; first | done | rfl) ⟨?_, pend⟩
  simp [put_app, put_none]
end Go.Proofs.Ytjageapgbpdlhaa.VM
