/- Layer 6: what comes out of a net: the program's. -/
import Derived.Test.YtjageapgbpdlhaaNetC
namespace Go.Proofs.Ytjageapgbpdlhaa.VM
open Go
set_option linter.unusedVariables false
set_option linter.unusedSimpArgs false
attribute [local irreducible] wq wqL wqD wqE wqO Th Bk EndR
set_option maxHeartbeats 8000000

theorem unit_end {i h k : Nat} (hk : k < h) : k * (i + 1) + i < h * (i + 1) := by
  have := Nat.mul_le_mul_right (i + 1) (Nat.succ_le_of_lt hk)
  rw [Nat.succ_mul] at this
  omega
theorem small_size {i h : Nat} (hi : i ≤ 3) (hh : h ≤ 3) : h * (i + 1) ≤ 12 := Nat.le_trans (Nat.mul_le_mul hh (Nat.add_le_add_right hi 1)) (by decide)

theorem getD_some {xs : List Int} {k : Nat} (h : k < xs.length) : xs[k]? = some (xs.getD k 0) := by simp [List.getD_eq_getElem?_getD, h]

theorem unit_ (H : Heap) (b : Nat) (i h k : Nat) (w : V) (ws : List Int) (hn : NetAt H b i h w) (hw : Sl 1 intC H w ws) (hs : ws.length = netSize i h) (hi : i ≤ 3) (hh : h ≤ 3) (hk : k < h) :
    ∃ u, Call Try.prog 76 [.ptr b 0, .int .i64 k] H (.tup [u, .int .i64 (ws.getD (k * (i + 1) + i) 0)]) H ∧ Sl 1 intC H u ((ws.drop (k * (i + 1))).take i) := by
  have hsm := small_size hi hh
  have hue := unit_end (i := i) hk
  have hns : netSize i h = h * (i + 1) + h + 1 := rfl
  obtain ⟨a, ha⟩ : ∃ a, k * (i + 1) = a := ⟨_, rfl⟩
  rw [ha] at hue ⊢
  obtain ⟨u, hu, hus⟩ := hw.part (l := a) (k := a + i) (by omega) (by omega)
  rw [List.drop_take, Nat.add_sub_cancel_left] at hus
  refine ⟨u, ?_, hus⟩
  have hget := getD_some (xs := ws) (k := a + i) (by omega)
  obtain ⟨b2, o2, _, hi2, rfl, _, hlo2, _⟩ := hw.get T24 rfl T3 rfl hget
  have ho2 := loadV_one T3 rfl hlo2
  have l0 := loadV_one T3 rfl hn.a0
  have l2 := loadV_one T24 rfl hn.a2
  have w1 : IntKind.i64.wrap ((i : Int) + 1) = ((i + 1 : Nat) : Int) := wrap_succ (by omega)
  have w2 : IntKind.i64.wrap ((k : Int) * ((i + 1 : Nat) : Int)) = (a : Int) := by rw [← Int.natCast_mul, ha]; exact wrap_nat (by omega)
  have w3 : IntKind.i64.wrap ((a : Int) + (i : Int)) = ((a + i : Nat) : Int) := by rw [← Int.natCast_add]; exact wrap_nat (by omega)
  obtain ⟨r, hr⟩ : ∃ r, ws.getD (a + i) 0 = r := ⟨_, rfl⟩
  rw [hr] at ho2 ⊢
  clear hsm hue hns ha hus hget hr hs hi hh hk hlo2 hw hn
  suffices hh : ∃ v H', (v = .tup [u, .int .i64 r] ∧ H' = H) ∧ Call Try.prog 76 [.ptr b 0, .int .i64 k] H v H' by
    obtain ⟨v, H', ⟨rfl, rfl⟩, h4⟩ := hh
    exact h4
  refine call_wq fit mixed Try.func76 rfl rfl rfl (by kernel_rfl) ?_
  repeat (first | refine l_go ?_ | refine d_go ?_ | refine l_onG ?_ | refine l_offG ?_ | refine d_onG ?_ | refine d_offG ?_ | refine wq_seq ?_ | refine wq_line ?_ | refine wq_draw (by decide +kernel) ?_ | refine wq_block ?_ | refine l_nil ?_ | refine d_nil ?_ | refine wq_skip ?_ | refine wq_ret ?_ | refine wq_exit ?_ | refine th_normal ?_ | refine th_ret ?_ | refine th_exit ?_ | refine bk_normal ?_ | refine bk_ret ?_ | refine bk_exit ?_ | refine bk_other rfl ?_)
  refine end_ret (by simp only [resRf, resRs, resR]; first | done | rfl) ⟨?_, rfl⟩
  simp [put_app, put_none]

theorem last_ (H : Heap) (b : Nat) (i h : Nat) (w : V) (ws : List Int) (hn : NetAt H b i h w) (hw : Sl 1 intC H w ws) (hs : ws.length = netSize i h) (hi : i ≤ 3) (hh : h ≤ 3) :
    ∃ u, Call Try.prog 47 [.ptr b 0] H (.tup [u, .int .i64 (ws.getD (h * (i + 1) + h) 0)]) H ∧ Sl 1 intC H u ((ws.drop (h * (i + 1))).take h) := by
  have hsm := small_size hi hh
  have hns : netSize i h = h * (i + 1) + h + 1 := rfl
  obtain ⟨a, ha⟩ : ∃ a, h * (i + 1) = a := ⟨_, rfl⟩
  rw [ha] at hsm hns ⊢
  obtain ⟨u, hu, hus⟩ := hw.part (l := a) (k := a + h) (by omega) (by omega)
  rw [List.drop_take, Nat.add_sub_cancel_left] at hus
  refine ⟨u, ?_, hus⟩
  have hget := getD_some (xs := ws) (k := a + h) (by omega)
  obtain ⟨b2, o2, _, hi2, rfl, _, hlo2, _⟩ := hw.get T24 rfl T3 rfl hget
  have ho2 := loadV_one T3 rfl hlo2
  have l0 := loadV_one T3 rfl hn.a0
  have l1 := loadV_one T3 rfl hn.a1
  have l2 := loadV_one T24 rfl hn.a2
  have w1 : IntKind.i64.wrap ((i : Int) + 1) = ((i + 1 : Nat) : Int) := wrap_succ (by omega)
  have w2 : IntKind.i64.wrap ((h : Int) * ((i + 1 : Nat) : Int)) = (a : Int) := by rw [← Int.natCast_mul, ha]; exact wrap_nat (by omega)
  have w3 : IntKind.i64.wrap ((a : Int) + (h : Int)) = ((a + h : Nat) : Int) := by rw [← Int.natCast_add]; exact wrap_nat (by omega)
  obtain ⟨r, hr⟩ : ∃ r, ws.getD (a + h) 0 = r := ⟨_, rfl⟩
  rw [hr] at ho2 ⊢
  clear hsm hns ha hus hget hr hs hi hh hlo2 hw hn
  suffices hh : ∃ v H', (v = .tup [u, .int .i64 r] ∧ H' = H) ∧ Call Try.prog 47 [.ptr b 0] H v H' by
    obtain ⟨v, H', ⟨rfl, rfl⟩, h4⟩ := hh
    exact h4
  refine call_wq fit mixed Try.func47 rfl rfl rfl (by kernel_rfl) ?_
  repeat (first | refine l_go ?_ | refine d_go ?_ | refine l_onG ?_ | refine l_offG ?_ | refine d_onG ?_ | refine d_offG ?_ | refine wq_seq ?_ | refine wq_line ?_ | refine wq_draw (by decide +kernel) ?_ | refine wq_block ?_ | refine l_nil ?_ | refine d_nil ?_ | refine wq_skip ?_ | refine wq_ret ?_ | refine wq_exit ?_ | refine th_normal ?_ | refine th_ret ?_ | refine th_exit ?_ | refine bk_normal ?_ | refine bk_ret ?_ | refine bk_exit ?_ | refine bk_other rfl ?_)
  refine end_ret (by simp only [resRf, resRs, resR]; first | done | rfl) ⟨?_, rfl⟩
  simp [put_app, put_none]

/-- a list that is filled from its beginning -/
def fillTo (f : Nat → Int) (n k : Nat) : List Int := (List.range k).map f ++ List.replicate (n - k) 0
theorem fillTo_len {f : Nat → Int} {n k : Nat} (h : k ≤ n) : (fillTo f n k).length = n := by simp [fillTo]; omega
theorem fillTo_set {f : Nat → Int} {n k : Nat} (h : k < n) : (fillTo f n k).set k (f k) = fillTo f n (k + 1) := by
  unfold fillTo
  rw [List.range_succ, List.map_append, List.append_assoc]
  obtain ⟨m, hm⟩ : ∃ m, n - k = m + 1 := ⟨n - k - 1, by omega⟩
  have h2 : n - (k + 1) = m := by omega
  rw [hm, h2, List.replicate_succ, List.set_append_right _ _ (by simp)]
  simp
theorem fillTo_zero (f : Nat → Int) (n : Nat) : fillTo f n 0 = List.replicate n 0 := by simp [fillTo]
theorem fillTo_all (f : Nat → Int) (n : Nat) : fillTo f n n = (List.range n).map f := by simp [fillTo]

theorem int_store {B H : Heap} {v : V} {xs : List Int} (h : Mine 1 intC B H v xs) {k : Nat} (hk : k < xs.length) (y : Int) :
    ∃ b o H', idxV T 24 v (k : Int) = some (.ptr b o) ∧ storeV T 3 H b o (.int .i64 y) = some H' ∧ Mine 1 intC B H' v (xs.set k y) := by
  obtain ⟨b, o, h1, h2⟩ := h.store T24 rfl T3 rfl hk
  obtain ⟨H', h3, h4⟩ := h2 (.int .i64 y) y rfl rfl rfl
  exact ⟨b, o, H', h1, h3, h4⟩
theorem int_make (H : Heap) (n : Nat) : Mine 1 intC H (H ++ [.row (zeros [.int .i64 0] n) true]) (.slc H.length 0 n n true 1) (List.replicate n 0) := by
  have := mine_make (t := true) (List.prefix_refl H) (cells_zeros (z := [.int .i64 0]) (R := intC) (x := 0) rfl rfl n)
  rw [List.length_replicate] at this
  exact this

theorem units_ (H : Heap) (b : Nat) (i h : Nat) (w x : V) (ws xs : List Int) (hn : NetAt H b i h w) (hw : Sl 1 intC H w ws) (hx : Sl 1 intC H x xs) (hs : ws.length = netSize i h) (hi : i ≤ 3) (hh : h ≤ 3) (hxs : xs.length = i) :
    ∃ u H', Call Try.prog 44 [.ptr b 0, x] H u H' ∧ Mine 1 intC H H' u (units i h ws xs) := by
  suffices hgoal : ∃ u H', Mine 1 intC H H' u (units i h ws xs) ∧ Call Try.prog 44 [.ptr b 0, x] H u H' by
    obtain ⟨u, H', h1, h2⟩ := hgoal
    exact ⟨u, H', h2, h1⟩
  refine call_wq fit mixed Try.func44 rfl rfl rfl (by kernel_rfl) ?_
  have l1 := loadV_one T3 rfl hn.a1
  have hm0 := int_make H h
  rw [← fillTo_zero (unit i ws xs)] at hm0
  have hlen := hm0.sl.len T24 rfl
  rw [fillTo_len (Nat.zero_le _)] at hlen
  repeat (first | refine l_go ?_ | refine d_go ?_ | refine l_onG ?_ | refine l_offG ?_ | refine d_onG ?_ | refine d_offG ?_ | refine wq_seq ?_ | refine wq_line ?_ | refine wq_draw (by decide +kernel) ?_ | refine wq_block ?_ | refine l_nil ?_ | refine d_nil ?_ | refine wq_skip ?_ | refine wq_ret ?_ | refine wq_exit ?_ | refine th_normal ?_ | refine th_ret ?_ | refine th_exit ?_ | refine bk_normal ?_ | refine bk_ret ?_ | refine bk_exit ?_ | refine bk_other rfl ?_)
  refine l_makeG T24 rfl T3 ?_
  refine l_heap (h' := H ++ [.row (zeros [.int .i64 0] h) true]) rfl ?_
  repeat (first | refine l_go ?_ | refine d_go ?_ | refine l_onG ?_ | refine l_offG ?_ | refine d_onG ?_ | refine d_offG ?_ | refine wq_seq ?_ | refine wq_line ?_ | refine wq_draw (by decide +kernel) ?_ | refine wq_block ?_ | refine l_nil ?_ | refine d_nil ?_ | refine wq_skip ?_ | refine wq_ret ?_ | refine wq_exit ?_ | refine th_normal ?_ | refine th_ret ?_ | refine th_exit ?_ | refine bk_normal ?_ | refine bk_ret ?_ | refine bk_exit ?_ | refine bk_other rfl ?_)
  refine wq_loop (fun c ρ hp => ∃ k, k ≤ h ∧ c = h - k ∧ Mine 1 intC H hp (.slc H.length 0 h h true 1) (fillTo (unit i ws xs) h k) ∧ ρ 0 = .ptr b 0 ∧ ρ 1 = x ∧ ρ 5 = .slc H.length 0 h h true 1 ∧ ρ 16 = .int .i64 h ∧ ρ 17 = .int .i64 (k : Nat)) ⟨0, Nat.zero_le _, rfl, hm0, rfl, rfl, rfl, rfl, rfl⟩ ?_
  rintro _ ρ hp ⟨k, hk, rfl, hm, h0, h1, h5, h16, h17⟩
  have hpre := hm.1
  repeat (first | refine l_go ?_ | refine d_go ?_ | refine l_onG ?_ | refine l_offG ?_ | refine d_onG ?_ | refine d_offG ?_ | refine wq_seq ?_ | refine wq_line ?_ | refine wq_draw (by decide +kernel) ?_ | refine wq_block ?_ | refine l_nil ?_ | refine d_nil ?_ | refine wq_skip ?_ | refine wq_ret ?_ | refine wq_exit ?_ | refine th_normal ?_ | refine th_ret ?_ | refine th_exit ?_ | refine bk_normal ?_ | refine bk_ret ?_ | refine bk_exit ?_ | refine bk_other rfl ?_)
  refine cond_go (fun hb => ?_) (fun hb => ?_)
  · have hk' : k < h := by simpa using hb
    clear hb
    obtain ⟨uu, c1, hu⟩ := unit_ hp b i h k w ws (hn.mono hpre) (hw.mono hpre) hs hi hh hk'
    have hul : ((ws.drop (k * (i + 1))).take i).length ≤ i := by simp; omega
    have c2 := vecSum_ hp uu x _ xs hu (hx.mono hpre) (by omega) (by omega)
    have c3 := fixAnd_ hp (ws.getD (k * (i + 1) + i) 0) (dot ((ws.drop (k * (i + 1))).take i) xs)
    obtain ⟨b2, o2, hq, hi2, hst, hm2⟩ := int_store hm (k := k) (by rw [fillTo_len hk]; exact hk') (unit i ws xs k)
    rw [fillTo_set hk'] at hm2
    have c4 : Call Try.prog 45 _ hp (.int .i64 (unit i ws xs k)) hp := c3
    have hw := wrap_succ (n := k) (by omega)
    clear c3 hul hpre hn hu hx l1
    repeat (first | refine l_go ?_ | refine d_go ?_ | refine l_onG ?_ | refine l_offG ?_ | refine d_onG ?_ | refine d_offG ?_ | refine wq_seq ?_ | refine wq_line ?_ | refine wq_draw (by decide +kernel) ?_ | refine wq_block ?_ | refine l_nil ?_ | refine d_nil ?_ | refine wq_skip ?_ | refine wq_ret ?_ | refine wq_exit ?_ | refine th_normal ?_ | refine th_ret ?_ | refine th_exit ?_ | refine bk_normal ?_ | refine bk_ret ?_ | refine bk_exit ?_ | refine bk_other rfl ?_)
    refine l_callG c1 ?_
    repeat (first | refine l_go ?_ | refine d_go ?_ | refine l_onG ?_ | refine l_offG ?_ | refine d_onG ?_ | refine d_offG ?_ | refine wq_seq ?_ | refine wq_line ?_ | refine wq_draw (by decide +kernel) ?_ | refine wq_block ?_ | refine l_nil ?_ | refine d_nil ?_ | refine wq_skip ?_ | refine wq_ret ?_ | refine wq_exit ?_ | refine th_normal ?_ | refine th_ret ?_ | refine th_exit ?_ | refine bk_normal ?_ | refine bk_ret ?_ | refine bk_exit ?_ | refine bk_other rfl ?_)
    refine l_callG c2 ?_
    repeat (first | refine l_go ?_ | refine d_go ?_ | refine l_onG ?_ | refine l_offG ?_ | refine d_onG ?_ | refine d_offG ?_ | refine wq_seq ?_ | refine wq_line ?_ | refine wq_draw (by decide +kernel) ?_ | refine wq_block ?_ | refine l_nil ?_ | refine d_nil ?_ | refine wq_skip ?_ | refine wq_ret ?_ | refine wq_exit ?_ | refine th_normal ?_ | refine th_ret ?_ | refine th_exit ?_ | refine bk_normal ?_ | refine bk_ret ?_ | refine bk_exit ?_ | refine bk_other rfl ?_)
    refine l_callG c4 ?_
    repeat (first | refine l_go ?_ | refine d_go ?_ | refine l_onG ?_ | refine l_offG ?_ | refine d_onG ?_ | refine d_offG ?_ | refine wq_seq ?_ | refine wq_line ?_ | refine wq_draw (by decide +kernel) ?_ | refine wq_block ?_ | refine l_nil ?_ | refine d_nil ?_ | refine wq_skip ?_ | refine wq_ret ?_ | refine wq_exit ?_ | refine th_normal ?_ | refine th_ret ?_ | refine th_exit ?_ | refine bk_normal ?_ | refine bk_ret ?_ | refine bk_exit ?_ | refine bk_other rfl ?_)
    refine ⟨h - (k + 1), by omega, k + 1, hk', rfl, hm2, ?_⟩
    simp [put_app, put_none, *]
  · have hk' : k = h := by have : ¬ k < h := by simpa using hb
                           omega
    subst hk'
    rw [fillTo_all] at hm
    clear hb
    repeat (first | refine l_go ?_ | refine d_go ?_ | refine l_onG ?_ | refine l_offG ?_ | refine d_onG ?_ | refine d_offG ?_ | refine wq_seq ?_ | refine wq_line ?_ | refine wq_draw (by decide +kernel) ?_ | refine wq_block ?_ | refine l_nil ?_ | refine d_nil ?_ | refine wq_skip ?_ | refine wq_ret ?_ | refine wq_exit ?_ | refine th_normal ?_ | refine th_ret ?_ | refine th_exit ?_ | refine bk_normal ?_ | refine bk_ret ?_ | refine bk_exit ?_ | refine bk_other rfl ?_)
    refine end_ret (by simp only [resRf, resRs, resR]; first | done | rfl) ?_
    simp only [put_app, put_none]
    simp only [Nat.reduceEqDiff, reduceIte, Option.some.injEq, reduceCtorEq, h5]
    exact hm

theorem acts_ (H : Heap) (x : V) (hs : List Int) (hx : Sl 1 intC H x hs) (hl : hs.length ≤ 2 ^ 40) :
    ∃ u H', Call Try.prog 50 [x] H u H' ∧ Mine 1 intC H H' u (acts hs) := by
  suffices hgoal : ∃ u H', Mine 1 intC H H' u (acts hs) ∧ Call Try.prog 50 [x] H u H' by
    obtain ⟨u, H', h1, h2⟩ := hgoal
    exact ⟨u, H', h2, h1⟩
  refine call_wq fit mixed Try.func50 rfl rfl rfl (by kernel_rfl) ?_
  obtain ⟨n, hn⟩ : ∃ n, hs.length = n := ⟨_, rfl⟩
  have hlen := hx.len T24 rfl
  rw [hn] at hlen
  obtain ⟨f, hf⟩ : ∃ f : Nat → Int, f = fun j => hard (hs.getD j 0) := ⟨_, rfl⟩
  have hall : (List.range n).map f = acts hs := by
    subst hf
    apply List.ext_getElem
    · simp [acts, hn]
    · intro j h1 h2
      simp [acts] at h2 ⊢
      simp [List.getD_eq_getElem?_getD, h2]
  have hm0 := int_make H n
  rw [← fillTo_zero f] at hm0
  repeat (first | refine l_go ?_ | refine d_go ?_ | refine l_onG ?_ | refine l_offG ?_ | refine d_onG ?_ | refine d_offG ?_ | refine wq_seq ?_ | refine wq_line ?_ | refine wq_draw (by decide +kernel) ?_ | refine wq_block ?_ | refine l_nil ?_ | refine d_nil ?_ | refine wq_skip ?_ | refine wq_ret ?_ | refine wq_exit ?_ | refine th_normal ?_ | refine th_ret ?_ | refine th_exit ?_ | refine bk_normal ?_ | refine bk_ret ?_ | refine bk_exit ?_ | refine bk_other rfl ?_)
  refine l_makeG T24 rfl T3 ?_
  refine l_heap (h' := H ++ [.row (zeros [.int .i64 0] n) true]) rfl ?_
  repeat (first | refine l_go ?_ | refine d_go ?_ | refine l_onG ?_ | refine l_offG ?_ | refine d_onG ?_ | refine d_offG ?_ | refine wq_seq ?_ | refine wq_line ?_ | refine wq_draw (by decide +kernel) ?_ | refine wq_block ?_ | refine l_nil ?_ | refine d_nil ?_ | refine wq_skip ?_ | refine wq_ret ?_ | refine wq_exit ?_ | refine th_normal ?_ | refine th_ret ?_ | refine th_exit ?_ | refine bk_normal ?_ | refine bk_ret ?_ | refine bk_exit ?_ | refine bk_other rfl ?_)
  refine wq_loop (fun c ρ hp => ∃ k, k ≤ n ∧ c = n - k ∧ Mine 1 intC H hp (.slc H.length 0 n n true 1) (fillTo f n k) ∧ ρ 3 = .slc H.length 0 n n true 1 ∧ ρ 9 = x ∧ ρ 10 = .int .i64 n ∧ ρ 11 = .int .i64 (k : Nat)) ⟨0, Nat.zero_le _, rfl, hm0, rfl, rfl, rfl, rfl⟩ ?_
  rintro _ ρ hp ⟨k, hk, rfl, hm, h3, h9, h10, h11⟩
  repeat (first | refine l_go ?_ | refine d_go ?_ | refine l_onG ?_ | refine l_offG ?_ | refine d_onG ?_ | refine d_offG ?_ | refine wq_seq ?_ | refine wq_line ?_ | refine wq_draw (by decide +kernel) ?_ | refine wq_block ?_ | refine l_nil ?_ | refine d_nil ?_ | refine wq_skip ?_ | refine wq_ret ?_ | refine wq_exit ?_ | refine th_normal ?_ | refine th_ret ?_ | refine th_exit ?_ | refine bk_normal ?_ | refine bk_ret ?_ | refine bk_exit ?_ | refine bk_other rfl ?_)
  refine cond_go (fun hb => ?_) (fun hb => ?_)
  · have hk' : k < n := by simpa using hb
    clear hb
    have hget := getD_some (xs := hs) (k := k) (by omega)
    obtain ⟨b, o, _, hi, rfl, _, hlo, _⟩ := (hx.mono hm.1).get T24 rfl T3 rfl hget
    have ho := loadV_one T3 rfl hlo
    obtain ⟨b2, o2, hq, hi2, hst, hm2⟩ := int_store hm (k := k) (by rw [fillTo_len hk]; exact hk') (f k)
    rw [fillTo_set hk'] at hm2
    have c1 := actHard_ hp (hs.getD k 0)
    have hfk : hard (hs.getD k 0) = f k := by rw [hf]
    rw [hfk] at c1
    have hw := wrap_succ (n := k) (by omega)
    clear hfk hf hall hx hget hlo hm0 hlen
    repeat (first | refine l_go ?_ | refine d_go ?_ | refine l_onG ?_ | refine l_offG ?_ | refine d_onG ?_ | refine d_offG ?_ | refine wq_seq ?_ | refine wq_line ?_ | refine wq_draw (by decide +kernel) ?_ | refine wq_block ?_ | refine l_nil ?_ | refine d_nil ?_ | refine wq_skip ?_ | refine wq_ret ?_ | refine wq_exit ?_ | refine th_normal ?_ | refine th_ret ?_ | refine th_exit ?_ | refine bk_normal ?_ | refine bk_ret ?_ | refine bk_exit ?_ | refine bk_other rfl ?_)
    refine l_callG c1 ?_
    repeat (first | refine l_go ?_ | refine d_go ?_ | refine l_onG ?_ | refine l_offG ?_ | refine d_onG ?_ | refine d_offG ?_ | refine wq_seq ?_ | refine wq_line ?_ | refine wq_draw (by decide +kernel) ?_ | refine wq_block ?_ | refine l_nil ?_ | refine d_nil ?_ | refine wq_skip ?_ | refine wq_ret ?_ | refine wq_exit ?_ | refine th_normal ?_ | refine th_ret ?_ | refine th_exit ?_ | refine bk_normal ?_ | refine bk_ret ?_ | refine bk_exit ?_ | refine bk_other rfl ?_)
    refine ⟨n - (k + 1), by omega, k + 1, hk', rfl, hm2, ?_⟩
    simp [put_app, put_none, *]
  · have hk' : k = n := by have : ¬ k < n := by simpa using hb
                           omega
    subst hk'
    rw [fillTo_all, hall] at hm
    clear hb hf
    repeat (first | refine l_go ?_ | refine d_go ?_ | refine l_onG ?_ | refine l_offG ?_ | refine d_onG ?_ | refine d_offG ?_ | refine wq_seq ?_ | refine wq_line ?_ | refine wq_draw (by decide +kernel) ?_ | refine wq_block ?_ | refine l_nil ?_ | refine d_nil ?_ | refine wq_skip ?_ | refine wq_ret ?_ | refine wq_exit ?_ | refine th_normal ?_ | refine th_ret ?_ | refine th_exit ?_ | refine bk_normal ?_ | refine bk_ret ?_ | refine bk_exit ?_ | refine bk_other rfl ?_)
    refine end_ret (by simp only [resRf, resRs, resR]; first | done | rfl) ?_
    simp only [put_app, put_none]
    simp only [Nat.reduceEqDiff, reduceIte, Option.some.injEq, reduceCtorEq, h3]
    exact hm

theorem tells_ (H : Heap) (b : Nat) (i h : Nat) (w x : V) (ws hs : List Int) (hn : NetAt H b i h w) (hw : Sl 1 intC H w ws) (hx : Sl 1 intC H x hs) (hsz : ws.length = netSize i h) (hi : i ≤ 3) (hh : h ≤ 3) (hxs : hs.length = h) :
    Call Try.prog 46 [.ptr b 0, x] H (.int .i64 (tells i h ws hs)) H := by
  refine call_plain fit mixed Try.func46 rfl rfl rfl (by kernel_rfl) rfl ?_
  obtain ⟨u, c1, hu⟩ := last_ H b i h w ws hn hw hsz hi hh
  obtain ⟨a, H1, c2, hm⟩ := acts_ H x hs hx (by omega)
  have c3 := vecSum_ H1 u a _ _ (hu.mono hm.1) hm.sl (by simp [acts]; omega) (by simp; omega)
  have c4 := fixAnd_ H1 (ws.getD (h * (i + 1) + h) 0) (dot ((ws.drop (h * (i + 1))).take h) (acts hs))
  have c5 : Call Try.prog 45 _ H1 (.int .i64 (tells i h ws hs)) H1 := c4
  have hp := hm.1
  clear c4 hm hn hw hx hsz hi hh hxs hu
  repeat (first | refine l_go ?_ | refine d_go ?_ | refine l_onG ?_ | refine l_offG ?_ | refine d_onG ?_ | refine d_offG ?_ | refine wq_seq ?_ | refine wq_line ?_ | refine wq_draw (by decide +kernel) ?_ | refine wq_block ?_ | refine l_nil ?_ | refine d_nil ?_ | refine wq_skip ?_ | refine wq_ret ?_ | refine wq_exit ?_ | refine th_normal ?_ | refine th_ret ?_ | refine th_exit ?_ | refine bk_normal ?_ | refine bk_ret ?_ | refine bk_exit ?_ | refine bk_other rfl ?_)
  refine l_callG c1 ?_
  repeat (first | refine l_go ?_ | refine d_go ?_ | refine l_onG ?_ | refine l_offG ?_ | refine d_onG ?_ | refine d_offG ?_ | refine wq_seq ?_ | refine wq_line ?_ | refine wq_draw (by decide +kernel) ?_ | refine wq_block ?_ | refine l_nil ?_ | refine d_nil ?_ | refine wq_skip ?_ | refine wq_ret ?_ | refine wq_exit ?_ | refine th_normal ?_ | refine th_ret ?_ | refine th_exit ?_ | refine bk_normal ?_ | refine bk_ret ?_ | refine bk_exit ?_ | refine bk_other rfl ?_)
  refine l_callG c2 ?_
  repeat (first | refine l_go ?_ | refine d_go ?_ | refine l_onG ?_ | refine l_offG ?_ | refine d_onG ?_ | refine d_offG ?_ | refine wq_seq ?_ | refine wq_line ?_ | refine wq_draw (by decide +kernel) ?_ | refine wq_block ?_ | refine l_nil ?_ | refine d_nil ?_ | refine wq_skip ?_ | refine wq_ret ?_ | refine wq_exit ?_ | refine th_normal ?_ | refine th_ret ?_ | refine th_exit ?_ | refine bk_normal ?_ | refine bk_ret ?_ | refine bk_exit ?_ | refine bk_other rfl ?_)
  refine l_callG c3 ?_
  repeat (first | refine l_go ?_ | refine d_go ?_ | refine l_onG ?_ | refine l_offG ?_ | refine d_onG ?_ | refine d_offG ?_ | refine wq_seq ?_ | refine wq_line ?_ | refine wq_draw (by decide +kernel) ?_ | refine wq_block ?_ | refine l_nil ?_ | refine d_nil ?_ | refine wq_skip ?_ | refine wq_ret ?_ | refine wq_exit ?_ | refine th_normal ?_ | refine th_ret ?_ | refine th_exit ?_ | refine bk_normal ?_ | refine bk_ret ?_ | refine bk_exit ?_ | refine bk_other rfl ?_)
  refine l_callG c5 ?_
  repeat (first | refine l_go ?_ | refine d_go ?_ | refine l_onG ?_ | refine l_offG ?_ | refine d_onG ?_ | refine d_offG ?_ | refine wq_seq ?_ | refine wq_line ?_ | refine wq_draw (by decide +kernel) ?_ | refine wq_block ?_ | refine l_nil ?_ | refine d_nil ?_ | refine wq_skip ?_ | refine wq_ret ?_ | refine wq_exit ?_ | refine th_normal ?_ | refine th_ret ?_ | refine th_exit ?_ | refine bk_normal ?_ | refine bk_ret ?_ | refine bk_exit ?_ | refine bk_other rfl ?_)
  refine end_ret (by simp only [resRf, resRs, resR]; first | done | rfl) ⟨?_, hp⟩
  simp [put_app, put_none]
end Go.Proofs.Ytjageapgbpdlhaa.VM
