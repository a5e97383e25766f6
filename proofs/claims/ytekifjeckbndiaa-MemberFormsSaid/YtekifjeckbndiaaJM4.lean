/- Joined texts: VmZ, RowA, RowB, VmZB, DrawA, DrawB, ConfA, ConfB, ConfC, NetD, NetE, OptA. -/
import Derived.Test.YtekifjeckbndiaaJM3
import Derived.ScopeJumps
/- THE SMALL MACHINE, part Z: append to a slice that was made here, with what it leaves as it was; single cells written. -/
namespace Go.Proofs.Ytekifjeckbndiaa.VM
open Go
set_option linter.unusedVariables false
set_option linter.unusedSimpArgs false

variable {P : Program} {T : Tab} {α β : Type}

/-- only v's block was turned -/
def Keep (v : V) (H H' : Heap) : Prop := H.length ≤ H'.length ∧ ∀ c, c < H.length → v.blk ≠ some c → H'[c]? = H[c]?
/-- v' lies where v lay, or behind all -/
def Moved (v : V) (H : Heap) (v' : V) : Prop := ∀ b, v'.blk = some b → v.blk = some b ∨ H.length ≤ b

theorem Own.blk {sz : Nat} {R : List V → α → Prop} {H : Heap} {b : Nat} {v : V} {xs : List α} (h : Own sz R H b v xs) : v.blk = some b := by
  obtain ⟨cap, t, cs, rfl, _⟩ := h; rfl

theorem Mine.app {sz : Nat} {R : List V → α → Prop} {B H : Heap} {v : V} {xs ys : List α} {news : List V} {ie : TI} (h : Mine sz R B H v xs) (hs : ie.size = sz) (hn : Cells sz R news ys)
    (hb : (xs.length + ys.length) * ie.bytes ≤ 2 ^ 47 ∧ xs.length + ys.length ≤ 2 ^ 47) : ∃ v' H', appendV ie v ys.length news H = some (v', H') ∧ Mine sz R B H' v' (xs ++ ys) ∧ Keep v H H' ∧ Moved v H v' := by
  obtain ⟨hp, h⟩ := h
  rcases h with ⟨rfl, rfl⟩ | ⟨b, hb1, ho⟩
  · by_cases h0 : ys.length = 0
    · have : ys = [] := List.length_eq_zero_iff.1 h0
      subst this
      have hn0 : news = [] := List.length_eq_zero_iff.1 (by rw [hn.1]; simp)
      subst hn0
      exact ⟨.nils, H, by simp [appendV], Mine.nil hp, ⟨Nat.le_refl _, fun _ _ _ => rfl⟩, fun b hb => by cases hb⟩
    · refine ⟨.slc H.length 0 ys.length ys.length false sz, H ++ [.row news true], ?_, mine_make hp hn, ⟨by simp, fun c hc _ => List.getElem?_append_left hc⟩, fun b hb => by cases hb; exact .inr (Nat.le_refl _)⟩
      unfold appendV
      rw [hs, if_neg (by rw [hn.1]; simp)]
      simp only
      rw [if_neg h0, if_pos (by simpa using hb)]
  · obtain ⟨v', b', H', h1, h2, h3, h4⟩ := own_append ho hs hn hb
    refine ⟨v', H', h1, ⟨h3.pre hp hb1, .inr ⟨b', ?_, h2⟩⟩, ⟨h3.1, fun c hc hne => h3.2 c hc fun e => hne (by rw [ho.blk, e])⟩, fun c hc => ?_⟩
    · have := hp.length_le; omega
    · rw [h2.blk] at hc
      cases hc
      rcases h4 with rfl | h4
      · exact .inl ho.blk
      · exact .inr h4

theorem Keep.sl {sz : Nat} {R : List V → β → Prop} {v u : V} {H H' : Heap} {zs : List β} (hk : Keep v H H') (h : Sl sz R H u zs) (ha : Apart v u) : Sl sz R H' u zs :=
  h.fr fun c hc hu => hk.2 c hc fun e => ha c c e hu rfl
theorem Moved.apart {sz : Nat} {R : List V → β → Prop} {v v' u : V} {H : Heap} {zs : List β} (hm : Moved v H v') (h : Sl sz R H u zs) (ha : Apart v u) : Apart v' u := fun b c hb hc => by
  rcases hm b hb with h1 | h1
  · exact ha b c h1 hc
  · have := h.lt hc; omega

theorem end_heap {rs : List ResultVar} {R : V → Heap → Prop} {x : Exit} {ρ : Rho} {h h' : Heap} (e : h = h') (w : EndR T rs R x ρ h') : EndR T rs R x ρ h := by subst e; exact w
theorem len_row (H : Heap) (a b : Blk) : (H ++ [a]).length = (H ++ [b]).length := by simp

/-- one cell of a block is written -/
theorem cell_store {t b off : Nat} {i : TI} {H : Heap} {cs : List V} {v : V} (hT : T t = some i) (hs : i.size = 1) (hb : H[b]? = some (.row cs true)) (ho : off < cs.length) (hv : v.cells = [v]) (ht : v.isTup = false) : storeV T t H b off v = some (H.set b (.row (cs.set off v) true)) := by
  unfold storeV
  split
  · cases ht
  · rename_i j hT' _
    rw [hT] at hT'
    obtain rfl := Option.some.inj hT'
    rw [if_pos (by rw [hv, hs]; rfl), hv]
    unfold Heap.storeN
    rw [hb]
    simp only
    rw [if_pos (by simp; omega)]
    rfl
  · rename_i hT'
    rw [hT] at hT'
    cases hT'
theorem ld_agg {t b : Nat} {i : TI} {H : Heap} {cs : List V} {w : Bool} (hT : T t = some i) (ha : i.k.agg = true) (hg : H[b]? = some (.row cs w)) (hl : cs.length = i.size) : loadV T t H b 0 = some (.agg cs) := by
  refine loadV_agg hT ha ?_
  unfold Heap.loadN
  rw [hg]
  simp only
  rw [if_pos (by omega), List.drop_zero, ← hl, List.take_of_length_le (Nat.le_refl _)]
theorem ld_cell {t b q : Nat} {i : TI} {H : Heap} {cs : List V} {w : Bool} {v : V} (hT : T t = some i) (ha : i.k.agg = false) (hg : H[b]? = some (.row cs w)) (hq : cs[q]? = some v) : loadV T t H b q = some v := by
  refine loadV_one hT ha ?_
  obtain ⟨hlt, rfl⟩ := List.getElem?_eq_some_iff.1 hq
  unfold Heap.loadN
  rw [hg]
  simp only
  rw [if_pos (by omega), List.drop_eq_getElem_cons hlt]
  rfl
theorem pre_set {B H : Heap} {b : Nat} {k : Blk} (hp : B <+: H) (hb : B.length ≤ b) : B <+: H.set b k := by
  refine List.prefix_iff_getElem?.2 fun i hi => ?_
  rw [List.getElem?_set_ne (by omega)]
  exact List.prefix_iff_getElem?.1 hp i hi
theorem pre_get {B H : Heap} {b : Nat} {k : Blk} (hp : B <+: H) (h : B[b]? = some k) : H[b]? = some k := by
  obtain ⟨l, rfl⟩ := hp
  rw [List.getElem?_append_left (List.getElem?_eq_some_iff.1 h).1]; exact h
theorem Sl.cells {sz : Nat} {R : List V → α → Prop} {H : Heap} {v : V} {xs : List α} (h : Sl sz R H v xs) : v.cells = [v] ∧ v.isTup = false := by
  rcases h.two with rfl | ⟨_, _, _, _, _, _, rfl⟩ <;> exact ⟨rfl, rfl⟩
end Go.Proofs.Ytekifjeckbndiaa.VM

/- The statements' helpers: rows of data that are copied and compared. -/
namespace Go.Proofs.Ytekifjeckbndiaa.VM
open Go
set_option linter.unusedVariables false
set_option linter.unusedSimpArgs false
attribute [local irreducible] wq wqL wqD wqE wqO Th Bk EndR
set_option maxHeartbeats 8000000

def rowC (cs : List V) (p : V × Int) : Prop := cs = [p.1, .int .i64 p.2]
def RowAt (H : Heap) (p : V × Int) (r : List Int × Int) : Prop := Sl 1 intC H p.1 r.1 ∧ p.2 = r.2
def RowsAt (H : Heap) (rv : List (V × Int)) (rs : List (List Int × Int)) : Prop := rv.length = rs.length ∧ ∀ (k : Nat) p r, rv[k]? = some p → rs[k]? = some r → RowAt H p r
/-- rows of data lie there -/
def Rows (H : Heap) (v : V) (rs : List (List Int × Int)) : Prop := ∃ rv, Sl 2 rowC H v rv ∧ RowsAt H rv rs

theorem RowAt.mono {H H' : Heap} {p : V × Int} {r : List Int × Int} (hp : H <+: H') (h : RowAt H p r) : RowAt H' p r := ⟨h.1.mono hp, h.2⟩
theorem RowsAt.mono {H H' : Heap} {rv : List (V × Int)} {rs : List (List Int × Int)} (hp : H <+: H') (h : RowsAt H rv rs) : RowsAt H' rv rs := ⟨h.1, fun k p r a b => (h.2 k p r a b).mono hp⟩
theorem Rows.mono {H H' : Heap} {v : V} {rs : List (List Int × Int)} (hp : H <+: H') (h : Rows H v rs) : Rows H' v rs := by
  obtain ⟨rv, h1, h2⟩ := h
  exact ⟨rv, h1.mono hp, h2.mono hp⟩

theorem row_append {B H : Heap} {v : V} {rv : List (V × Int)} (h : Mine 2 rowC B H v rv) (x : V) (y : Int) (hl : rv.length < 2 ^ 42) :
    ∃ v' H', newsOf T (T 64).get! 24 (.slc H.length 0 1 1 true 2) (H ++ [.row [x, .int .i64 y] true]) = some (1, [x, .int .i64 y]) ∧ appendV (T 64).get! v 1 [x, .int .i64 y] (H ++ [.row [x, .int .i64 y] true]) = some (v', H') ∧ Mine 2 rowC B H' v' (rv ++ [(x, y)]) ∧ Keep v (H ++ [.row [x, .int .i64 y] true]) H' ∧ Moved v (H ++ [.row [x, .int .i64 y] true]) v' := by
  obtain ⟨v', H', h1, h2, h3, h4⟩ := (h.pre (List.prefix_append H [.row [x, .int .i64 y] true])).app (ie := (T 64).get!) rfl (Cells.one (R := rowC) (cs := [x, .int .i64 y]) (x := (x, y)) rfl rfl) ⟨by show (rv.length + 1) * 32 ≤ _; omega, by simp; omega⟩
  exact ⟨v', H', news_row T24 rfl (by decide) rfl, h1, h2, h3, h4⟩

theorem copyRows_ (H : Heap) (v : V) (rs : List (List Int × Int)) (hv : Rows H v rs) (hl : rs.length < 2 ^ 42) (hx : ∀ r ∈ rs, r.1.length * 8 ≤ 2 ^ 47) : ∃ u H', Call Try.prog 47 [v] H u H' ∧ H <+: H' ∧ Rows H' u rs := by
  suffices h : ∃ u H', (H <+: H' ∧ Rows H' u rs) ∧ Call Try.prog 47 [v] H u H' by
    obtain ⟨u, H', h1, h2⟩ := h
    exact ⟨u, H', h2, h1⟩
  refine call_wq fit mixed Try.func47 rfl rfl rfl (by kernel_rfl) ?_
  obtain ⟨rv, hrv, hrl, hrr⟩ := hv
  obtain ⟨n, hn⟩ : ∃ n, rv.length = n := ⟨_, rfl⟩
  have hlen := hrv.len T24 rfl
  rw [hn] at hlen hrl
  replace hrl := hrl.symm
  refine goW ?_
  refine wq_loop (fun c ρ hp => ∃ k u out, k ≤ n ∧ c = n - k ∧ Mine 2 rowC H hp u out ∧ out.length = k ∧ (∀ (j : Nat) p r, out[j]? = some p → rs[j]? = some r → RowAt hp p r ∧ Apart u p.1) ∧ ρ 0 = v ∧ ρ 3 = u ∧ ρ 4 = .int .i64 (k : Nat)) ⟨0, .nils, [], Nat.zero_le _, rfl, Mine.nil (List.prefix_refl _), rfl, by simp, rfl, rfl, rfl⟩ ?_
  rintro _ ρ hp ⟨k, u, out, hk, rfl, hm, hol, hout, h0, h3, h4⟩
  refine goW ?_
  refine cond_go (fun hb => ?_) (fun hb => ?_)
  · have hk' : k < n := by simpa using hb
    clear hb
    obtain ⟨⟨px, y⟩, hpk⟩ : ∃ p, rv[k]? = some p := ⟨rv[k]'(by omega), by simp⟩
    obtain ⟨⟨xs, y'⟩, hrk⟩ : ∃ r, rs[k]? = some r := ⟨rs[k]'(by omega), by simp⟩
    obtain ⟨hxs, hy⟩ := hrr k _ _ hpk hrk
    obtain rfl : y = y' := hy
    have hxl := hx _ (List.mem_iff_getElem?.2 ⟨k, hrk⟩)
    obtain ⟨b, o, _, hi, rfl, _, hlo, _⟩ := (hrv.mono hm.1).get T24 rfl T64 rfl hpk
    have ho : loadV T 64 hp b o = some (.agg [px, .int .i64 y]) := loadV_agg T64 rfl hlo
    -- the row's own place
    obtain ⟨hp1, hhp1⟩ : ∃ hp1, hp ++ [.row [px, .int .i64 y] true] = hp1 := ⟨_, rfl⟩
    have q1 : hp <+: hp1 := by rw [← hhp1]; exact List.prefix_append _ _
    have hx1 : Sl 1 intC hp1 px xs := hxs.mono (hm.1.trans q1)
    obtain ⟨news, x', hp2, n1, a1, hm2, b', hb', hbl⟩ := int_copy hp1 px xs hx1 hxl
    have l1 : loadV T 27 (hp1 ++ [.row [] true]) hp.length 0 = some px := loadV_one T27 rfl (loadN_pre (List.prefix_append _ _) (by rw [← hhp1, loadN_app0]; rfl))
    have hg1 : hp1[hp.length]? = some (.row [px, .int .i64 y] true) := by rw [← hhp1]; simp
    have hg2 : hp2[hp.length]? = some (.row [px, .int .i64 y] true) := pre_get hm2.1 hg1
    obtain ⟨hc1, hc2⟩ := hm2.sl.cells
    have hst := cell_store (off := 0) T27 rfl hg2 (by simp) hc1 hc2
    obtain ⟨hp3, hhp3⟩ : ∃ hp3, hp2.set hp.length (.row ([px, .int .i64 y].set 0 x') true) = hp3 := ⟨_, rfl⟩
    rw [hhp3] at hst
    have q3 : hp <+: hp3 := by rw [← hhp3]; exact pre_set (q1.trans hm2.1) (Nat.le_refl _)
    have hlt : hp.length < hp2.length := (List.getElem?_eq_some_iff.1 hg2).1
    have hg3 : hp3[hp.length]? = some (.row [x', .int .i64 y] true) := by rw [← hhp3, List.getElem?_set_self hlt]; rfl
    have hll : hp1.length = hp.length + 1 := by rw [← hhp1]; simp
    have hl3 : hp3.length = hp2.length := by rw [← hhp3]; simp
    have hx3 : Sl 1 intC hp3 x' xs := hm2.sl.fr fun c hc hcb => by
      rw [hb'] at hcb
      cases hcb
      rw [← hhp3, List.getElem?_set_ne (by omega)]
    have l3 : loadV T 64 hp3 hp.length 0 = some (.agg [x', .int .i64 y]) := by
      refine loadV_agg T64 rfl ?_
      unfold Heap.loadN
      rw [hg3]; rfl
    obtain ⟨u', hp4, n2, a2, hm4, kp, mv⟩ := row_append (hm.pre q3) x' y (by omega)
    have hb2 : b' < hp2.length := hm2.sl.lt hb'
    have q4 := List.prefix_append hp3 [Blk.row [x', .int .i64 y] true]
    have hnew : RowAt hp4 (x', y) (xs, y) ∧ Apart u' x' := by
      have hap : Apart u x' := fun c1 c2 e1 e2 => by
        have := (hm.blk e1).2
        rw [hb'] at e2; cases e2; omega
      exact ⟨⟨kp.sl (hx3.mono q4) hap, rfl⟩, mv.apart (hx3.mono q4) hap⟩
    have hall : ∀ (j : Nat) p r, (out ++ [(x', y)])[j]? = some p → rs[j]? = some r → RowAt hp4 p r ∧ Apart u' p.1 := fun j p r hj hr => by
      by_cases hjk : j < k
      · rw [List.getElem?_append_left (by omega)] at hj
        obtain ⟨r1, r2⟩ := hout j p r hj hr
        have r3 := r1.mono (q3.trans q4)
        exact ⟨⟨kp.sl r3.1 r2, r3.2⟩, mv.apart r3.1 r2⟩
      · rw [List.getElem?_append_right (by omega)] at hj
        have hjj : j = k := by
          have := (List.getElem?_eq_some_iff.1 hj).1
          simp at this; omega
        subst hjj
        rw [hrk] at hr
        cases hr
        simp [hol] at hj
        subst hj
        exact hnew
    have hw := wrap_succ (n := k) (by omega)
    clear hnew hb2 hx3 hl3 hll hg3 hlt q3 q4 hg1 hg2 hhp3 hx1 q1 hlo hpk hrk hxs hxl hm kp mv hout
    refine goB ?_
    refine l_heap (h' := hp1) hhp1 ?_
    refine goW ?_
    refine l_appendG n1 a1 ?_
    refine l_go ?_
    refine l_step (s_store eLk eLk hst) ?_
    refine goW ?_
    refine l_appendG n2 a2 ?_
    refine goW ?_
    refine ⟨n - (k + 1), by omega, k + 1, u', _, hk', rfl, hm4, by simp [hol], hall, ?_⟩
    simp [put_app, put_none, *]
  · have hk' : k = n := by have : ¬ k < n := by simpa using hb
                           omega
    subst hk'
    clear hb
    have hp' := hm.1
    have hfin : Rows hp u rs := ⟨out, hm.sl, by omega, fun j p r a b => (hout j p r a b).1⟩
    clear hout hm
    refine goW ?_
    refine end_ret (by simp only [resRf, resRs, resR]; first | done | rfl) ⟨hp', ?_⟩
    simp only [put_app, put_none]
    simp only [Nat.reduceEqDiff, reduceIte, Option.some.injEq, reduceCtorEq, h3]
    exact hfin
end Go.Proofs.Ytekifjeckbndiaa.VM

/- The statements' helpers: rows of data that are compared; rows and shapes that are handed in. -/
namespace Go.Proofs.Ytekifjeckbndiaa.VM
open Go
set_option linter.unusedVariables false
set_option linter.unusedSimpArgs false
attribute [local irreducible] wq wqL wqD wqE wqO Th Bk EndR
set_option maxHeartbeats 8000000

theorem sameRows_ (H : Heap) (u v : V) (xs ys : List (List Int × Int)) (hx : Rows H u xs) (hy : Rows H v ys) (lx : xs.length ≤ 2 ^ 47) (l1 : ∀ r ∈ xs, r.1.length ≤ 2 ^ 47) : Call Try.prog 62 [u, v] H (.bool (decide (xs = ys))) H := by
  refine call_plain fit mixed Try.func62 rfl rfl rfl (by kernel_rfl) rfl ?_
  obtain ⟨xv, hxv, hxl, hxr⟩ := hx
  obtain ⟨yv, hyv, hyl, hyr⟩ := hy
  have hlx := hxv.len T24 rfl
  have hly := hyv.len T24 rfl
  rw [hxl] at hlx
  rw [hyl] at hly
  refine goW ?_
  refine cond_go (fun hb => ?_) (fun hb => ?_)
  · refine goW ?_
    refine end_finG ?_; simp [put_app, put_none, *]
    intro e
    subst e
    simp at hb
  · have hl : xs.length = ys.length := by simp at hb; omega
    refine goW ?_
    refine wq_loop (fun c ρ h => ∃ k, k ≤ xs.length ∧ c = xs.length - k ∧ h = H ∧ xs.take k = ys.take k ∧ ρ 0 = u ∧ ρ 1 = v ∧ ρ 5 = .int .i64 (k : Nat)) ⟨0, Nat.zero_le _, rfl, rfl, by simp, rfl, rfl, rfl⟩ ?_
    rintro _ ρ h ⟨k, hk, rfl, rfl, hsame, h0, h1, h5⟩
    clear hb
    refine goW ?_
    refine cond_go (fun hb => ?_) (fun hb => ?_)
    · have hk' : k < xs.length := by simp at hb; omega
      clear hb
      obtain ⟨⟨px, a⟩, hpk⟩ : ∃ p, xv[k]? = some p := ⟨xv[k]'(by omega), by simp⟩
      obtain ⟨⟨al, a'⟩, hxk⟩ : ∃ r, xs[k]? = some r := ⟨xs[k], by simp [hk']⟩
      obtain ⟨⟨qx, c⟩, hqk⟩ : ∃ p, yv[k]? = some p := ⟨yv[k]'(by omega), by simp⟩
      obtain ⟨⟨cs, c'⟩, hyk⟩ : ∃ r, ys[k]? = some r := ⟨ys[k]'(by omega), by simp⟩
      obtain ⟨s1, e1⟩ := hxr k _ _ hpk hxk
      obtain rfl : a = a' := e1
      obtain ⟨s2, e2⟩ := hyr k _ _ hqk hyk
      obtain rfl : c = c' := e2
      obtain ⟨b, o, _, hi, rfl, _, _, hlo⟩ := hxv.get T24 rfl T64 rfl hpk
      obtain ⟨b2, o2, _, hi2, rfl, _, _, hlo2⟩ := hyv.get T24 rfl T64 rfl hqk
      have q0 : loadV T 27 h b o = some px := loadV_one T27 rfl (hlo 0 _ rfl)
      have q1 : loadV T 3 h b (o + 1) = some (.int .i64 a) := loadV_one T3 rfl (hlo 1 _ rfl)
      have r0 : loadV T 27 h b2 o2 = some qx := loadV_one T27 rfl (hlo2 0 _ rfl)
      have r1 : loadV T 3 h b2 (o2 + 1) = some (.int .i64 c) := loadV_one T3 rfl (hlo2 1 _ rfl)
      have c1 := sameInts_ h px qx al cs s1 s2 (l1 _ (List.mem_iff_getElem?.2 ⟨k, hxk⟩))
      have hw := wrap_succ (n := k) (by omega)
      by_cases hac : a = c
      · subst hac
        by_cases hcs : al = cs
        · subst hcs
          rw [decide_eq_true rfl] at c1
          have hnext := take_step hsame hxk hyk rfl
          clear hlo hlo2 hxk hyk hpk hqk s1 s2 hsame
          refine goW ?_
          refine d_call0G c1 ?_
          refine goW ?_
          refine cond_go (fun hb => ?_) (fun hb => ?_)
          · cases hb
          · refine goW ?_
            refine ⟨xs.length - (k + 1), by omega, k + 1, hk', rfl, rfl, hnext, ?_⟩
            simp [put_app, put_none, *]
        · rw [decide_eq_false hcs] at c1
          have hno : decide (xs = ys) = false := decide_eq_false fun e => by
            subst e; rw [hxk] at hyk; cases hyk; exact hcs rfl
          clear hlo hlo2 hxk hyk hpk hqk s1 s2 hsame hcs
          refine goW ?_
          refine d_call0G c1 ?_
          refine goW ?_
          refine cond_go (fun hb => ?_) (fun hb => ?_)
          · refine goW ?_
            refine end_ret (by simp only [resRf, resRs, resR]; first | done | rfl) ⟨?_, by first | exact List.prefix_refl _ | exact List.prefix_append _ _ | assumption | (refine List.IsPrefix.trans (by assumption) (List.prefix_append _ _)) | (simp only [List.append_assoc, List.cons_append, List.nil_append, List.set_cons_zero, List.set_cons_succ]; exact ⟨_, by simp only [List.append_assoc, List.cons_append, List.nil_append]; rfl⟩)⟩
            rw [hno]
            simp [put_app, put_none]
          · cases hb
      · have hne : (a != c) = true := by simp [hac]
        have hno : decide (xs = ys) = false := decide_eq_false fun e => by
          subst e; rw [hxk] at hyk; cases hyk; exact hac rfl
        clear hlo hlo2 hxk hyk hpk hqk s1 s2 hsame c1 hac
        refine goW ?_
        refine cond_go (fun hb => ?_) (fun hb => ?_)
        · refine goW ?_
          refine end_ret (by simp only [resRf, resRs, resR]; first | done | rfl) ⟨?_, by first | exact List.prefix_refl _ | exact List.prefix_append _ _ | assumption | (refine List.IsPrefix.trans (by assumption) (List.prefix_append _ _)) | (simp only [List.append_assoc, List.cons_append, List.nil_append, List.set_cons_zero, List.set_cons_succ]; exact ⟨_, by simp only [List.append_assoc, List.cons_append, List.nil_append]; rfl⟩)⟩
          rw [hno]
          simp [put_app, put_none]
        · cases hb
    · have hk' : k = xs.length := by simp at hb; omega
      subst hk'
      clear hb
      refine goW ?_
      refine end_ret (by simp only [resRf, resRs, resR]; first | done | rfl) ⟨?_, by first | exact List.prefix_refl _ | exact List.prefix_append _ _ | assumption | (refine List.IsPrefix.trans (by assumption) (List.prefix_append _ _)) | (simp only [List.append_assoc, List.cons_append, List.nil_append, List.set_cons_zero, List.set_cons_succ]; exact ⟨_, by simp only [List.append_assoc, List.cons_append, List.nil_append]; rfl⟩)⟩
      rw [List.take_of_length_le (Nat.le_refl _), List.take_of_length_le (by omega)] at hsame
      rw [decide_eq_true hsame]
      simp [put_app, put_none]

-- what is handed in
theorem rd_ints {K : Heap} {D : Type} {v : V} {d : DataW D} (h : RdV T K 27 v d) : ∃ xs, Sl 1 intC K v xs ∧ xs.length * 8 ≤ reachBytes :=
  (h.plain T27 rfl).isSlice T27 rfl T3 fun cs x hx => by
    obtain ⟨n, h1, _⟩ := hx.isInt T3 rfl
    exact ⟨n, h1⟩
theorem rd_shape {K : Heap} {D : Type} {v : V} {d : DataW D} (h : RdV T K 23 v d) : ∃ i j, v = .agg [.int .i64 i, .int .i64 j] := by
  obtain ⟨vs, rfl, hr⟩ := h.agg T23 rfl
  obtain ⟨hl, hf⟩ := hr.field T23 rfl
  replace hl : vs.length = 2 := hl
  obtain ⟨x0, h0⟩ := hf 0 _ _ rfl T3
  obtain ⟨x1, h1⟩ := hf 1 _ _ rfl T3
  obtain ⟨n0, e0, _⟩ := h0.isInt T3 rfl
  obtain ⟨n1, e1, _⟩ := h1.isInt T3 rfl
  match vs, hl, e0, e1 with
  | [a, b], _, e0, e1 =>
    simp at e0 e1
    subst e0; subst e1
    exact ⟨n0, n1, rfl⟩
theorem rd_rowcells {K : Heap} {D : Type} {vs : List V} {d : DataW D} (hr : Rd T K 64 vs d) : ∃ x xs y, vs = [x, .int .i64 y] ∧ Sl 1 intC K x xs ∧ xs.length * 8 ≤ reachBytes := by
  obtain ⟨hl, hf⟩ := hr.field T64 rfl
  replace hl : vs.length = 2 := hl
  obtain ⟨x0, h0⟩ := hf 0 _ _ rfl T27
  obtain ⟨x1, h1⟩ := hf 1 _ _ rfl T3
  obtain ⟨n1, e1, _⟩ := h1.isInt T3 rfl
  match vs, hl, h0, e1 with
  | [a, b], _, h0, e1 =>
    simp at e1
    subst e1
    obtain ⟨xs, h2, h3⟩ := rd_ints ⟨_, T27, .inr ⟨rfl, h0⟩⟩
    exact ⟨a, xs, n1, rfl, h2, h3⟩
theorem rd_row {K : Heap} {D : Type} {v : V} {d : DataW D} (h : RdV T K 64 v d) : ∃ x xs y, v = .agg [x, .int .i64 y] ∧ Sl 1 intC K x xs ∧ xs.length * 8 ≤ reachBytes := by
  obtain ⟨vs, rfl, hr⟩ := h.agg T64 rfl
  obtain ⟨x, xs, y, rfl, h1, h2⟩ := rd_rowcells hr
  exact ⟨x, xs, y, rfl, h1, h2⟩
end Go.Proofs.Ytekifjeckbndiaa.VM

/- THE SMALL MACHINE, part ZB: a function whose body is one scope in which the run jumps back to one label. -/
namespace Go.Proofs.Ytekifjeckbndiaa.VM
open Go
set_option linter.unusedVariables false
set_option linter.unusedSimpArgs false
set_option linter.unusedSectionVars false

variable {P : Program} {T : Tab}

/-- by a goto to l: J; else as Q -/
def Jm (l : Nat) (J : Env → Heap → Prop) (Q : Exit → Env → Heap → Prop) : Exit → Env → Heap → Prop
  | .goto l', e, h => l' = l ∧ J e h
  | x, e, h => Q x e h
/-- at most n jumps -/
def wpJ (P : Program) (T : Tab) (l : Nat) (rest : Code) (Q : Exit → Env → Heap → Prop) : Nat → Code → Env → Heap → Prop
  | 0, c, e, h => wp P T c (Jm l (fun _ _ => False) Q) e h
  | n + 1, c, e, h => wp P T c (Jm l (wpJ P T l rest Q n rest) Q) e h

theorem least_of (p : Nat → Prop) : (∃ k, p k) → ∃ k, p k ∧ ∀ j, p j → k ≤ j := by
  rintro ⟨k, hk⟩
  induction k using Nat.strongRecOn with
  | _ k ih =>
    by_cases h : ∃ j, j < k ∧ p j
    · obtain ⟨j, hj, hp⟩ := h
      exact ih j hj hp
    · exact ⟨k, hk, fun j hj => Nat.le_of_not_lt fun hlt => h ⟨j, hlt, hj⟩⟩
noncomputable def leastOf (p : Nat → Prop) (h : ∃ k, p k) : Nat := Classical.choose (least_of p h)
theorem leastOf_spec (p : Nat → Prop) (h : ∃ k, p k) : p (leastOf p h) := (Classical.choose_spec (least_of p h)).1
theorem leastOf_min (p : Nat → Prop) (h : ∃ k, p k) {j : Nat} (hj : p j) : leastOf p h ≤ j := (Classical.choose_spec (least_of p h)).2 j hj

theorem wpJ_sim (fit : Fits P T) (hm : P.follows .mixedOrders = true) {l : Nat} {c rest : Code} (hl : findLabel c l = some rest) {Q : Exit → Env → Heap → Prop} {n : Nat} {e : Env} {h : Heap} (hw : wpJ P T l rest Q n c e h)
    {μ : Mu} {a : Act} {w : World} (s : Sim μ h w) (he : EnvR μ e a.tmps) (hd : a.defers = []) : (Code.scope c).wp P (Post Q μ h w) a w := by
  have hlt : ∀ b x, μ b = some x → b < h.length := fun b x hx => (s.lt b x hx).1
  -- what holds at a jump with at most k jumps to come
  let J : Nat → Act → World → Prop := fun k a' w' => ∃ e' h' μ', wpJ P T l rest Q k rest e' h' ∧ Sim μ' h' w' ∧ EnvR μ' e' a'.tmps ∧ a'.defers = [] ∧ Tr μ h w μ' h' w'
  -- one stretch of the run
  have stretch : ∀ (k : Option Nat) (c' : Code) (e1 : Env) (h1 : Heap) (μ1 : Mu) (a1 : Act) (w1 : World),
      wp P T c' (Jm l (match k with | none => fun _ _ => False | some k => wpJ P T l rest Q k rest) Q) e1 h1 → Sim μ1 h1 w1 → EnvR μ1 e1 a1.tmps → a1.defers = [] → Tr μ h w μ1 h1 w1 →
      c'.wp P (Exit.jump l (fun a' w' => ∃ k', k = some k' ∧ J k' a' w') (Post Q μ h w)) a1 w1 := by
    intro k c' e1 h1 μ1 a1 w1 hw1 s1 he1 hd1 t1
    refine Code.wp_mono ?_ (wp_sim fit hm c' _ _ _ hw1 μ1 a1 w1 s1 he1 hd1)
    intro x a2 w2 p
    obtain ⟨e2, h2, μ2, q, s2, he2, t2, hd2⟩ := p
    have t := t1.trans t2 hlt
    cases x with
    | goto l' =>
      obtain ⟨rfl, q⟩ := q
      refine ⟨rfl, ?_⟩
      cases k with
      | none => exact q.elim
      | some k => exact ⟨k, rfl, e2, h2, μ2, q, s2, he2, hd2, t⟩
    | normal => exact ⟨e2, h2, μ2, q, s2, he2, t, hd2⟩
    | exit id => exact ⟨e2, h2, μ2, q, s2, he2, t, hd2⟩
    | ret => exact ⟨e2, h2, μ2, q, s2, he2, t, hd2⟩
    | panic ch => exact ⟨e2, h2, μ2, q, s2, he2, t, hd2⟩
    | outgrown => exact ⟨e2, h2, μ2, q, s2, he2, t, hd2⟩
  classical
  refine wp_scope_jumps l (fun a w => ∃ k, J k a w) (fun a w => if hx : ∃ k, J k a w then leastOf _ hx else 0) hl ?_ ?_
  · have h0 : c.wp P (Exit.jump l (fun a' w' => ∃ k', (match n with | 0 => none | k + 1 => some k) = some k' ∧ J k' a' w') (Post Q μ h w)) a w := by
      cases n with
      | zero => exact stretch none c e h μ a w hw s he hd (Tr.refl _ _ _)
      | succ n => exact stretch (some n) c e h μ a w hw s he hd (Tr.refl _ _ _)
    refine Code.wp_mono ?_ h0
    intro x a' w' q
    cases x with
    | goto l' => exact ⟨q.1, let ⟨k', _, hj⟩ := q.2; ⟨k', hj⟩⟩
    | _ => exact q
  · intro a1 w1 hx
    have hmin := leastOf_spec _ hx
    obtain ⟨e1, h1, μ1, q1, s1, he1, hd1, t1⟩ := hmin
    have h0 : rest.wp P (Exit.jump l (fun a' w' => ∃ k', (match leastOf _ hx with | 0 => none | k + 1 => some k) = some k' ∧ J k' a' w') (Post Q μ h w)) a1 w1 := by
      cases hk : leastOf _ hx with
      | zero => rw [hk] at q1; exact stretch none rest e1 h1 μ1 a1 w1 q1 s1 he1 hd1 t1
      | succ k => rw [hk] at q1; exact stretch (some k) rest e1 h1 μ1 a1 w1 q1 s1 he1 hd1 t1
    refine Code.wp_mono ?_ h0
    intro x a' w' q
    cases x with
    | goto l' =>
      obtain ⟨k', hk', hj⟩ := q.2
      refine ⟨q.1, ⟨k', hj⟩, ?_⟩
      have hx' : ∃ k, J k a' w' := ⟨k', hj⟩
      show (if hx : ∃ k, J k a' w' then leastOf _ hx else 0) < (if hx : ∃ k, J k a1 w1 then leastOf _ hx else 0)
      rw [dif_pos hx', dif_pos hx]
      have hle : leastOf _ hx' ≤ k' := leastOf_min _ hx' hj
      cases hk : leastOf _ hx with
      | zero => rw [hk] at hk'; cases hk'
      | succ k => rw [hk] at hk'; cases hk'; omega
    | _ => exact q

theorem seqJ_sim (fit : Fits P T) (hm : P.follows .mixedOrders = true) {l : Nat} {b c rest : Code} (hl : findLabel c l = some rest) {Q : Exit → Env → Heap → Prop} {n : Nat} {e : Env} {h : Heap} (hw : wp P T b (Ex.then (wpJ P T l rest Q n c) Q) e h)
    {μ : Mu} {a : Act} {w : World} (s : Sim μ h w) (he : EnvR μ e a.tmps) (hd : a.defers = []) : (Code.seq b (.scope c)).wp P (Post Q μ h w) a w := by
  refine Go.wp_seq (Code.wp_mono ?_ (wp_sim fit hm b _ e h hw μ a w s he hd))
  intro ex a' w' p
  obtain ⟨e', h', μ', q, s', he', t', hd'⟩ := p
  cases ex with
  | normal =>
    refine Code.wp_mono (fun ex2 a2 w2 p2 => ?_) (wpJ_sim fit hm hl q s' he' hd')
    exact p2.trans t' (fun b x hx => (s.lt b x hx).1)
  | exit id => exact ⟨e', h', μ', q, s', he', t', hd'⟩
  | goto l => exact ⟨e', h', μ', q, s', he', t', hd'⟩
  | ret => exact ⟨e', h', μ', q, s', he', t', hd'⟩
  | panic ch => exact ⟨e', h', μ', q, s', he', t', hd'⟩
  | outgrown => exact ⟨e', h', μ', q, s', he', t', hd'⟩

/-- A CONTRACT, by a body that ends in a scope -/
theorem call_of_wpJ (fit : Fits P T) (hm : P.follows .mixedOrders = true) {f : Nat} {fn : Func} {b c rest : Code} {l n : Nat} {args : List V} {H H' : Heap} {v : V} (hf : P.funcs[f]? = some fn) (hb : fn.body = some (.seq b (.scope c))) (hn : (fn.name == "runtime.NumGoroutine") = false)
    (hl : findLabel c l = some rest) (h : wp P T b (Ex.then (wpJ P T l rest (Ends T fn v H') n c) (Ends T fn v H')) (args ++ List.replicate (fn.ntmps - args.length) V.undef) H) : Call P f args H v H' := by
  refine ⟨⟨fn, hf, by rw [hb]; rfl, hn⟩, fun μ w cargs s hargs => ?_⟩
  have hlen : cargs.size = args.length := by simpa using hargs.length
  have he : EnvR μ (args ++ List.replicate (fn.ntmps - args.length) V.undef) (cargs ++ Array.replicate (fn.ntmps - cargs.size) Go.undef) := by
    unfold EnvR
    rw [Array.toList_append, Array.toList_replicate, hlen]
    exact hargs.append (VRs.undefs _)
  refine calls_of_wp hf hb (Code.wp_mono ?_ (seqJ_sim fit hm hl h s he rfl))
  intro ex a' w' p
  obtain ⟨e', h', μ', q, s', he', t', hd'⟩ := p
  cases ex <;> simp only [Ends] at q
  case normal =>
    obtain ⟨q1, rfl⟩ := q
    obtain ⟨cv, k1, k2⟩ := resOf_sound fit s' he' q1
    exact ⟨hd', cv, k1, cv, μ', rfl, k2, s', t'⟩
  case ret =>
    obtain ⟨q1, rfl⟩ := q
    obtain ⟨cv, k1, k2⟩ := resOf_sound fit s' he' q1
    exact ⟨hd', cv, k1, cv, μ', rfl, k2, s', t'⟩

/-- the same with the temporaries as a function -/
def Jq (l : Nat) (J : Rho → Heap → Prop) (Q : Exit → Rho → Heap → Prop) : Exit → Rho → Heap → Prop
  | .goto l', ρ, h => l' = l ∧ J ρ h
  | x, ρ, h => Q x ρ h
def wqJ (P : Program) (T : Tab) (l : Nat) (rest : Code) (Q : Exit → Rho → Heap → Prop) : Nat → Code → Rho → Heap → Prop
  | 0, c, ρ, h => wq P T c (Jq l (fun _ _ => False) Q) ρ h
  | n + 1, c, ρ, h => wq P T c (Jq l (wqJ P T l rest Q n rest) Q) ρ h

theorem wqJ_ex {l : Nat} {rest : Code} {Q : Exit → Rho → Heap → Prop} : ∀ (n : Nat) (c : Code) {ρ : Rho} {h : Heap}, wqJ P T l rest Q n c ρ h → ∃ x ρ' h', Q x ρ' h' ∧ (∀ l', x ≠ .goto l') ∧ wqJ P T l rest (fun x1 ρ1 h1 => x1 = x ∧ ρ1 = ρ' ∧ h1 = h') n c ρ h
  | 0, c, ρ, h, hw => by
    obtain ⟨x, ρ', h', q, r⟩ := wq_ex c hw
    cases x with
    | goto l' => exact q.2.elim
    | _ => exact ⟨_, ρ', h', q, nofun, wq_mono c (fun x1 ρ1 h1 e => by obtain ⟨rfl, rfl, rfl⟩ := e; exact ⟨rfl, rfl, rfl⟩) r⟩
  | n + 1, c, ρ, h, hw => by
    obtain ⟨x, ρ', h', q, r⟩ := wq_ex c hw
    cases x with
    | goto l' =>
      obtain ⟨rfl, q⟩ := q
      obtain ⟨x2, ρ2, h2, q2, ng, r2⟩ := wqJ_ex n rest q
      exact ⟨x2, ρ2, h2, q2, ng, wq_mono c (fun x1 ρ1 h1 e => by obtain ⟨rfl, rfl, rfl⟩ := e; exact ⟨rfl, r2⟩) r⟩
    | _ => exact ⟨_, ρ', h', q, nofun, wq_mono c (fun x1 ρ1 h1 e => by obtain ⟨rfl, rfl, rfl⟩ := e; exact ⟨rfl, rfl, rfl⟩) r⟩

theorem wqJ_wp {m l : Nat} {rest : Code} (hrest : codeOk m rest = true) {Q : Exit → Rho → Heap → Prop} {Q' : Exit → Env → Heap → Prop} (hQ : ∀ x ρ e h, Agree m ρ e → Q x ρ h → Q' x e h) : ∀ (n : Nat) (c : Code), codeOk m c = true → ∀ (ρ : Rho) (e : Env) (h : Heap), Agree m ρ e → wqJ P T l rest Q n c ρ h → wpJ P T l rest Q' n c e h
  | 0, c, hc, ρ, e, h, ha, hw => wq_wp c hc _ _ (fun x ρ e h ha q => by
      cases x with
      | goto l' => exact q
      | _ => exact hQ _ ρ e h ha q) ρ e h ha hw
  | n + 1, c, hc, ρ, e, h, ha, hw => wq_wp c hc _ _ (fun x ρ e h ha q => by
      cases x with
      | goto l' => exact ⟨q.1, wqJ_wp hrest hQ n rest hrest ρ e h ha q.2⟩
      | _ => exact hQ _ ρ e h ha q) ρ e h ha hw

/-- A FUNCTION's CONTRACT, its body ends in a scope -/
theorem call_wqJ (fit : Fits P T) (hm : P.follows .mixedOrders = true) {f : Nat} {fn : Func} {b c rest : Code} {l : Nat} (n : Nat) {args : List V} {H : Heap} {R : V → Heap → Prop} {rs : List ResultVar} (hf : P.funcs[f]? = some fn) (hb : fn.body = some (.seq b (.scope c))) (hn : (fn.name == "runtime.NumGoroutine") = false)
    (hrs : fn.results = ⟨rs⟩) (hl : findLabel c l = some rest) (hok : funcOk fn b args.length = true) (hokc : codeOk fn.ntmps c = true) (hok2 : codeOk fn.ntmps rest = true) (h : wq P T b (Th (wqJ P T l rest (EndR T rs R) n c) (EndR T rs R)) (rho0 args) H) : ∃ v H', R v H' ∧ Call P f args H v H' := by
  obtain rfl : rs = fn.results.toList := by rw [hrs]
  simp only [funcOk, Bool.and_eq_true, decide_eq_true_eq] at hok
  obtain ⟨⟨hc, hr⟩, hk⟩ := hok
  have ha : Agree fn.ntmps (rho0 args) (args ++ List.replicate (fn.ntmps - args.length) V.undef) := by
    refine ⟨by simp; omega, fun t ht => ?_⟩
    unfold rho0
    by_cases hta : t < args.length
    · rw [List.getElem?_append_left hta]; simp [List.getD_eq_getElem?_getD, hta]
    · rw [List.getElem?_append_right (by omega)]
      simp [List.getD_eq_getElem?_getD, List.getElem?_replicate]
      rw [List.getElem?_eq_none (by omega)]
      exact ⟨by omega, rfl⟩
  obtain ⟨x0, ρ0, h0, q0, r0⟩ := wq_ex b h
  obtain ⟨x, ρ', h', q, r⟩ : ∃ x ρ' h', EndR T fn.results.toList R x ρ' h' ∧ wq P T b (Th (wqJ P T l rest (fun x1 ρ1 h1 => x1 = x ∧ ρ1 = ρ' ∧ h1 = h') n c) (fun x1 ρ1 h1 => x1 = x ∧ ρ1 = ρ' ∧ h1 = h')) (rho0 args) H := by
    cases x0 with
    | normal =>
      obtain ⟨x2, ρ2, h2, q2, _, r2⟩ := wqJ_ex n c q0
      exact ⟨x2, ρ2, h2, q2, wq_mono b (fun x1 ρ1 h1 e => by obtain ⟨rfl, rfl, rfl⟩ := e; exact r2) r0⟩
    | ret => exact ⟨.ret, ρ0, h0, q0, wq_mono b (fun x1 ρ1 h1 e => by obtain ⟨rfl, rfl, rfl⟩ := e; exact ⟨rfl, rfl, rfl⟩) r0⟩
    | exit id => exact False.elim q0
    | goto l => exact False.elim q0
    | panic ch => exact False.elim q0
    | outgrown => exact False.elim q0
  have q' : (x = .normal ∨ x = .ret) ∧ ∃ v, resRf T fn.results.toList ρ' h' = some v ∧ R v h' := by
    cases x <;> simp only [EndR] at q
    · exact ⟨.inl rfl, q⟩
    · exact ⟨.inr rfl, q⟩
  obtain ⟨hx, v, hv, hR⟩ := q'
  have key : ∀ x1 ρ1 e1 h1, Agree fn.ntmps ρ1 e1 → (x1 = x ∧ ρ1 = ρ' ∧ h1 = h') → Ends T fn v h' x1 e1 h1 := by
    intro x1 ρ1 e1 h1 ha1 hq
    obtain ⟨rfl, rfl, rfl⟩ := hq
    have : resOf T fn e1 h1 = some v := by
      unfold resOf
      rw [resR_eq ha1 hr]
      exact hv
    rcases hx with rfl | rfl <;> exact ⟨this, rfl⟩
  refine ⟨v, h', hR, call_of_wpJ (n := n) fit hm hf hb hn hl (wq_wp b hc _ _ (fun x1 ρ1 e1 h1 ha1 hq => ?_) _ _ H ha r)⟩
  cases x1 with
  | normal => exact wqJ_wp hok2 key n c hokc _ _ _ ha1 hq
  | _ => exact key _ _ _ _ ha1 hq
theorem call_plainJ (fit : Fits P T) (hm : P.follows .mixedOrders = true) {f : Nat} {fn : Func} {b c rest : Code} {l : Nat} (n : Nat) {args : List V} {H : Heap} {v : V} {rs : List ResultVar} (hf : P.funcs[f]? = some fn) (hb : fn.body = some (.seq b (.scope c))) (hn : (fn.name == "runtime.NumGoroutine") = false)
    (hrs : fn.results = ⟨rs⟩) (hl : findLabel c l = some rest) (hok : funcOk fn b args.length = true) (hokc : codeOk fn.ntmps c = true) (hok2 : codeOk fn.ntmps rest = true) (hv : v.plain = true) (h : wq P T b (Th (wqJ P T l rest (EndR T rs fun v' h' => v' = v ∧ H <+: h') n c) (EndR T rs fun v' h' => v' = v ∧ H <+: h')) (rho0 args) H) : Call P f args H v H := by
  obtain ⟨v', H', ⟨rfl, hp⟩, hc⟩ := call_wqJ fit hm n hf hb hn hrs hl hok hokc hok2 h
  exact hc.forget hp hv

section flow
variable {l : Nat} {J : Rho → Heap → Prop} {Q : Exit → Rho → Heap → Prop} {ρ : Rho} {h : Heap} {next : Rho → Heap → Prop}
theorem wq_label (hw : Q .normal ρ h) : wq P T (.label l) Q ρ h := hw
theorem wq_goto (hw : Q (.goto l) ρ h) : wq P T (.goto l) Q ρ h := hw
theorem th_goto (hw : Q (.goto l) ρ h) : Th next Q (.goto l) ρ h := hw
theorem bk_goto {id : Nat} (hw : Q (.goto l) ρ h) : Bk id Q (.goto l) ρ h := hw
theorem jq_goto (hw : J ρ h) : Jq l J Q (.goto l) ρ h := ⟨rfl, hw⟩
theorem jq_ret (hw : Q .ret ρ h) : Jq l J Q .ret ρ h := hw
theorem jq_normal (hw : Q .normal ρ h) : Jq l J Q .normal ρ h := hw
theorem jq_exit {id : Nat} (hw : Q (.exit id) ρ h) : Jq l J Q (.exit id) ρ h := hw
theorem wqJ_more {rest c : Code} {n : Nat} (hw : wq P T c (Jq l (wqJ P T l rest Q n rest) Q) ρ h) : wqJ P T l rest Q (n + 1) c ρ h := hw
theorem wqJ_last {rest c : Code} (hw : wq P T c (Jq l (fun _ _ => False) Q) ρ h) : wqJ P T l rest Q 0 c ρ h := hw
end flow
end Go.Proofs.Ytekifjeckbndiaa.VM

/- Layer 3: draws: the program's and the document's. -/
namespace Go.Proofs.Ytekifjeckbndiaa.VM
open Go
set_option linter.unusedVariables false
set_option linter.unusedSimpArgs false
attribute [local irreducible] wq wqL wqD wqE wqO Th Bk EndR
attribute [local irreducible] Jq wqJ
set_option maxHeartbeats 8000000

def mixN (x : Nat) : Nat := ((x ^^^ (x / 32768)) * 1103515 + 12345) % 2147483648
def seedN (s k : Nat) : Nat := (40503 * s + 30011 * k + 12345) % 2147483648
def drawN (s k : Nat) : Nat := mixN (mixN (mixN (seedN s k))) / 256 % 65536
def drawMay (s k : Int) : Bool := within s 0 65535 && within k 0 1048576

theorem mixN_lt (x : Nat) : mixN x < 2147483648 := Nat.mod_lt _ (by decide)
theorem xor_lt {x : Nat} (hx : x < 2147483648) : (x ^^^ (x / 32768)) < 2147483648 := Nat.xor_lt_two_pow (n := 31) hx (Nat.lt_of_le_of_lt (Nat.div_le_self _ _) hx)
theorem bv_nat {x : Nat} (hx : x < 2 ^ 63) : (BitVec.ofInt IntKind.i64.bits (x : Int)).toNat = x := by
  show (BitVec.ofInt 64 (x : Int)).toNat = x
  rw [BitVec.toNat_ofInt]
  omega
theorem f_xor {x y : Nat} (hx : x < 2147483648) (hy : y < 2147483648) : IntKind.i64.wrap ((BitVec.ofInt IntKind.i64.bits (x : Int) ^^^ BitVec.ofInt IntKind.i64.bits (y : Int)).toNat : Int) = ((x ^^^ y : Nat) : Int) := by
  rw [BitVec.toNat_xor, bv_nat (by omega), bv_nat (by omega)]
  have := Nat.xor_lt_two_pow (n := 31) hx hy
  exact wrap_nat (by omega)
theorem f_and {x : Nat} (hx : x < 2 ^ 62) : IntKind.i64.wrap ((BitVec.ofInt IntKind.i64.bits (x : Int) &&& BitVec.ofInt IntKind.i64.bits 2147483647).toNat : Int) = ((x % 2147483648 : Nat) : Int) := by
  have h : (BitVec.ofInt IntKind.i64.bits 2147483647).toNat = 2 ^ 31 - 1 := by decide
  rw [BitVec.toNat_and, bv_nat (by omega), h, Nat.and_two_pow_sub_one_eq_mod]
  exact wrap_nat (by omega)
theorem f_shr (x n : Nat) (hn : n ≤ 62) : ((x : Nat) : Int).fdiv (2 ^ min n IntKind.i64.bits) = ((x / 2 ^ n : Nat) : Int) := by
  have : min n IntKind.i64.bits = n := Nat.min_eq_left (by show n ≤ 64; omega)
  rw [this, Int.fdiv_eq_ediv_of_nonneg _ (by exact Int.le_of_lt (Int.pow_pos (by decide)))]
  push_cast
  rfl

theorem drawSeed_ (H : Heap) (x : Int) : Call Try.prog 80 [.int .i64 x] H (.bool (within x 0 65535)) H := by
  refine call_plain fit mixed Try.func80 rfl rfl rfl (by kernel_rfl) rfl ?_
  repeat' (first | (refine l_pl ?_; refine l_go ?_) | (refine d_pl ?_; refine d_go ?_) | (refine l_gd ?_; first | refine l_onG ?_ | refine l_offG ?_) | (refine d_gd ?_; first | refine d_onG ?_ | refine d_offG ?_) | refine wq_seq ?_ | refine wq_line ?_ | refine wq_draw (by decide +kernel) ?_ | refine wq_block ?_ | refine l_nil ?_ | refine d_nil ?_ | refine wq_skip ?_ | refine wq_ret ?_ | refine wq_exit ?_ | refine th_normal ?_ | refine th_ret ?_ | refine th_exit ?_ | refine bk_normal ?_ | refine bk_ret ?_ | refine bk_exit ?_ | refine bk_other rfl ?_ | first | refine l_partG (fun hb => ?_) (fun hb => ?_) | refine d_partG (fun hb => ?_) (fun hb => ?_))
  all_goals refine end_finG ?_; simp [put_app, put_none, *]
  all_goals simp_all [within]
  all_goals (first | done | omega)
theorem drawMay_ (H : Heap) (s k : Int) : Call Try.prog 82 [.int .i64 s, .int .i64 k] H (.bool (drawMay s k)) H := by
  refine call_plain fit mixed Try.func82 rfl rfl rfl (by kernel_rfl) rfl ?_
  repeat' (first | (refine l_pl ?_; refine l_go ?_) | (refine d_pl ?_; refine d_go ?_) | (refine l_gd ?_; first | refine l_onG ?_ | refine l_offG ?_) | (refine d_gd ?_; first | refine d_onG ?_ | refine d_offG ?_) | refine wq_seq ?_ | refine wq_line ?_ | refine wq_draw (by decide +kernel) ?_ | refine wq_block ?_ | refine l_nil ?_ | refine d_nil ?_ | refine wq_skip ?_ | refine wq_ret ?_ | refine wq_exit ?_ | refine th_normal ?_ | refine th_ret ?_ | refine th_exit ?_ | refine bk_normal ?_ | refine bk_ret ?_ | refine bk_exit ?_ | refine bk_other rfl ?_ | refine l_callG (drawSeed_ _ _) ?_ | first | refine l_partG (fun hb => ?_) (fun hb => ?_) | refine d_partG (fun hb => ?_) (fun hb => ?_))
  all_goals refine end_finG ?_; simp [put_app, put_none, *]
  all_goals simp_all [drawMay, within]
  all_goals (first | done | omega)

theorem drawOf_bad (H : Heap) (s k : Int) (hm : drawMay s k = false) : Call Try.prog 84 [.int .i64 s, .int .i64 k] H (.tup [.int .i64 0, .int .i64 300]) H := by
  refine call_plainJ fit mixed 0 Try.func84 rfl rfl rfl (l := 0) (by rfl) (by kernel_rfl) (by kernel_rfl) (by kernel_rfl) rfl ?_
  have c1 := drawMay_ H s k
  rw [hm] at c1
  clear hm
  refine goW ?_
  refine wqJ_last ?_
  repeat (first | (refine l_pl ?_; refine l_go ?_) | (refine d_pl ?_; refine d_go ?_) | (refine l_gd ?_; first | refine l_onG ?_ | refine l_offG ?_) | (refine d_gd ?_; first | refine d_onG ?_ | refine d_offG ?_) | refine wq_seq ?_ | refine wq_line ?_ | refine wq_draw (by decide +kernel) ?_ | refine wq_block ?_ | refine l_nil ?_ | refine d_nil ?_ | refine wq_skip ?_ | refine wq_ret ?_ | refine wq_exit ?_ | refine th_normal ?_ | refine th_ret ?_ | refine th_exit ?_ | refine bk_normal ?_ | refine bk_ret ?_ | refine bk_exit ?_ | refine bk_other rfl ?_ | refine wq_label ?_ | refine jq_ret ?_)
  refine l_callG c1 ?_
  repeat (first | (refine l_pl ?_; refine l_go ?_) | (refine d_pl ?_; refine d_go ?_) | (refine l_gd ?_; first | refine l_onG ?_ | refine l_offG ?_) | (refine d_gd ?_; first | refine d_onG ?_ | refine d_offG ?_) | refine wq_seq ?_ | refine wq_line ?_ | refine wq_draw (by decide +kernel) ?_ | refine wq_block ?_ | refine l_nil ?_ | refine d_nil ?_ | refine wq_skip ?_ | refine wq_ret ?_ | refine wq_exit ?_ | refine th_normal ?_ | refine th_ret ?_ | refine th_exit ?_ | refine bk_normal ?_ | refine bk_ret ?_ | refine bk_exit ?_ | refine bk_other rfl ?_ | refine wq_label ?_ | refine jq_ret ?_)
  refine cond_go (fun hb => ?_) (fun hb => ?_)
  · repeat (first | (refine l_pl ?_; refine l_go ?_) | (refine d_pl ?_; refine d_go ?_) | (refine l_gd ?_; first | refine l_onG ?_ | refine l_offG ?_) | (refine d_gd ?_; first | refine d_onG ?_ | refine d_offG ?_) | refine wq_seq ?_ | refine wq_line ?_ | refine wq_draw (by decide +kernel) ?_ | refine wq_block ?_ | refine l_nil ?_ | refine d_nil ?_ | refine wq_skip ?_ | refine wq_ret ?_ | refine wq_exit ?_ | refine th_normal ?_ | refine th_ret ?_ | refine th_exit ?_ | refine bk_normal ?_ | refine bk_ret ?_ | refine bk_exit ?_ | refine bk_other rfl ?_ | refine wq_label ?_ | refine jq_ret ?_)
    refine end_finG ?_; simp [put_app, put_none, *]
  · cases hb

/-- one mix, as the program does it -/
theorem mix_step {x : Nat} (hx : x < 2147483648) : ∃ a b c : Nat, ((x : Nat) : Int).fdiv (2 ^ min (Int.toNat 15) IntKind.i64.bits) = (a : Int) ∧ IntKind.i64.wrap ((BitVec.ofInt IntKind.i64.bits (x : Int) ^^^ BitVec.ofInt IntKind.i64.bits (a : Int)).toNat : Int) = (b : Int) ∧
    IntKind.i64.wrap ((b : Int) * 1103515) = ((b * 1103515 : Nat) : Int) ∧ IntKind.i64.wrap (((b * 1103515 : Nat) : Int) + 12345) = (c : Int) ∧ IntKind.i64.wrap ((BitVec.ofInt IntKind.i64.bits (c : Int) &&& BitVec.ofInt IntKind.i64.bits 2147483647).toNat : Int) = ((mixN x : Nat) : Int) ∧ c % 2147483648 = mixN x ∧ b < 2147483648 := by
  have h1 := f_shr x 15 (by decide)
  have hxl := xor_lt hx
  have h2 := f_xor hx (Nat.lt_of_le_of_lt (Nat.div_le_self x 32768) hx)
  refine ⟨x / 32768, x ^^^ (x / 32768), (x ^^^ (x / 32768)) * 1103515 + 12345, h1, h2, ?_, ?_, ?_, rfl, hxl⟩
  · rw [show ((x ^^^ (x / 32768) : Nat) : Int) * 1103515 = (((x ^^^ (x / 32768)) * 1103515 : Nat) : Int) by omega]
    exact wrap_nat (by omega)
  · rw [show (((x ^^^ (x / 32768)) * 1103515 : Nat) : Int) + 12345 = (((x ^^^ (x / 32768)) * 1103515 + 12345 : Nat) : Int) by omega]
    exact wrap_nat (by omega)
  · exact f_and (by omega)

theorem seed_step {s k : Nat} (hs : s ≤ 65535) (hk : k ≤ 1048576) : ∃ a b c d : Nat, IntKind.i64.wrap (40503 * (s : Int)) = (a : Int) ∧ IntKind.i64.wrap (30011 * (k : Int)) = (b : Int) ∧ IntKind.i64.wrap ((a : Int) + (b : Int)) = (c : Int) ∧ IntKind.i64.wrap ((c : Int) + 12345) = (d : Int) ∧
    IntKind.i64.wrap ((BitVec.ofInt IntKind.i64.bits (d : Int) &&& BitVec.ofInt IntKind.i64.bits 2147483647).toNat : Int) = ((seedN s k : Nat) : Int) ∧ d % 2147483648 = seedN s k := by
  refine ⟨40503 * s, 30011 * k, 40503 * s + 30011 * k, 40503 * s + 30011 * k + 12345, ?_, ?_, ?_, ?_, f_and (by omega), rfl⟩
  · rw [show 40503 * (s : Int) = ((40503 * s : Nat) : Int) by omega]; exact wrap_nat (by omega)
  · rw [show 30011 * (k : Int) = ((30011 * k : Nat) : Int) by omega]; exact wrap_nat (by omega)
  · rw [← Int.natCast_add]; exact wrap_nat (by omega)
  · rw [show ((40503 * s + 30011 * k : Nat) : Int) + 12345 = ((40503 * s + 30011 * k + 12345 : Nat) : Int) by omega]; exact wrap_nat (by omega)

theorem drawOf_good (H : Heap) (s k : Nat) (hm : drawMay s k = true) : Call Try.prog 84 [.int .i64 s, .int .i64 k] H (.tup [.int .i64 (drawN s k : Nat), .int .i64 0]) H := by
  refine call_plainJ fit mixed 2 Try.func84 rfl rfl rfl (l := 0) (by rfl) (by kernel_rfl) (by kernel_rfl) (by kernel_rfl) rfl ?_
  have c1 := drawMay_ H s k
  rw [hm] at c1
  simp only [drawMay, Bool.and_eq_true, within_iff] at hm
  have hs : s ≤ 65535 := by omega
  have hk : k ≤ 1048576 := by omega
  obtain ⟨a0, b0, c0, d0, e1, e2, e3, e4, e5, _⟩ := seed_step hs hk
  obtain ⟨x0, hx0⟩ : ∃ x0, seedN s k = x0 := ⟨_, rfl⟩
  have l0 : x0 < 2147483648 := by rw [← hx0]; exact Nat.mod_lt _ (by decide)
  obtain ⟨a1, b1, c1', f1, f2, f3, f4, f5, _, _⟩ := mix_step l0
  obtain ⟨x1, hx1⟩ : ∃ x1, mixN x0 = x1 := ⟨_, rfl⟩
  have l1 : x1 < 2147483648 := by rw [← hx1]; exact mixN_lt _
  obtain ⟨a2, b2, c2', g1, g2, g3, g4, g5, _, _⟩ := mix_step l1
  obtain ⟨x2, hx2⟩ : ∃ x2, mixN x1 = x2 := ⟨_, rfl⟩
  have l2 : x2 < 2147483648 := by rw [← hx2]; exact mixN_lt _
  obtain ⟨a3, b3, c3', i1, i2, i3, i4, i5, _, _⟩ := mix_step l2
  obtain ⟨x3, hx3⟩ : ∃ x3, mixN x2 = x3 := ⟨_, rfl⟩
  have hd : drawN s k = x3 / 256 % 65536 := by unfold drawN; rw [hx0, hx1, hx2, hx3]
  rw [hx0] at e5
  rw [hx1] at f5
  rw [hx2] at g5
  rw [hx3] at i5
  have j1 : ((x3 : Nat) : Int).fdiv (2 ^ min (Int.toNat 8) IntKind.i64.bits) = ((x3 / 2 ^ 8 : Nat) : Int) := f_shr x3 8 (by decide)
  have j2 : ((x3 / 2 ^ 8 : Nat) : Int).tmod 65536 = ((x3 / 256 % 65536 : Nat) : Int) := by rw [Int.tmod_eq_emod_of_nonneg (by omega)]; omega
  rw [hd]
  clear hd hx0 hx1 hx2 hx3 hm hs hk l0 l1 l2
  refine goW ?_
  refine wqJ_more ?_
  repeat (first | (refine l_pl ?_; refine l_go ?_) | (refine d_pl ?_; refine d_go ?_) | (refine l_gd ?_; first | refine l_onG ?_ | refine l_offG ?_) | (refine d_gd ?_; first | refine d_onG ?_ | refine d_offG ?_) | refine wq_seq ?_ | refine wq_line ?_ | refine wq_draw (by decide +kernel) ?_ | refine wq_block ?_ | refine l_nil ?_ | refine d_nil ?_ | refine wq_skip ?_ | refine wq_ret ?_ | refine wq_exit ?_ | refine th_normal ?_ | refine th_ret ?_ | refine th_exit ?_ | refine bk_normal ?_ | refine bk_ret ?_ | refine bk_exit ?_ | refine bk_other rfl ?_ | refine wq_label ?_ | refine jq_ret ?_)
  refine l_callG c1 ?_
  repeat (first | (refine l_pl ?_; refine l_go ?_) | (refine d_pl ?_; refine d_go ?_) | (refine l_gd ?_; first | refine l_onG ?_ | refine l_offG ?_) | (refine d_gd ?_; first | refine d_onG ?_ | refine d_offG ?_) | refine wq_seq ?_ | refine wq_line ?_ | refine wq_draw (by decide +kernel) ?_ | refine wq_block ?_ | refine l_nil ?_ | refine d_nil ?_ | refine wq_skip ?_ | refine wq_ret ?_ | refine wq_exit ?_ | refine th_normal ?_ | refine th_ret ?_ | refine th_exit ?_ | refine bk_normal ?_ | refine bk_ret ?_ | refine bk_exit ?_ | refine bk_other rfl ?_ | refine wq_label ?_ | refine jq_ret ?_)
  refine cond_go (fun hb => ?_) (fun hb => ?_)
  · cases hb
  clear hb
  repeat (first | (refine l_pl ?_; refine l_go ?_) | (refine d_pl ?_; refine d_go ?_) | (refine l_gd ?_; first | refine l_onG ?_ | refine l_offG ?_) | (refine d_gd ?_; first | refine d_onG ?_ | refine d_offG ?_) | refine wq_seq ?_ | refine wq_line ?_ | refine wq_draw (by decide +kernel) ?_ | refine wq_block ?_ | refine l_nil ?_ | refine d_nil ?_ | refine wq_skip ?_ | refine wq_ret ?_ | refine wq_exit ?_ | refine th_normal ?_ | refine th_ret ?_ | refine th_exit ?_ | refine bk_normal ?_ | refine bk_ret ?_ | refine bk_exit ?_ | refine bk_other rfl ?_ | refine wq_label ?_ | refine jq_ret ?_)
  refine cond_go (fun hb => ?_) (fun hb => ?_)
  · repeat (first | (refine l_pl ?_; refine l_go ?_) | (refine d_pl ?_; refine d_go ?_) | (refine l_gd ?_; first | refine l_onG ?_ | refine l_offG ?_) | (refine d_gd ?_; first | refine d_onG ?_ | refine d_offG ?_) | refine wq_seq ?_ | refine wq_line ?_ | refine wq_draw (by decide +kernel) ?_ | refine wq_block ?_ | refine l_nil ?_ | refine d_nil ?_ | refine wq_skip ?_ | refine wq_ret ?_ | refine wq_exit ?_ | refine th_normal ?_ | refine th_ret ?_ | refine th_exit ?_ | refine bk_normal ?_ | refine bk_ret ?_ | refine bk_exit ?_ | refine bk_other rfl ?_ | refine wq_label ?_ | refine jq_ret ?_ | refine wq_goto ?_ | refine th_goto ?_ | refine jq_goto ?_)
    refine wqJ_more ?_
    repeat (first | (refine l_pl ?_; refine l_go ?_) | (refine d_pl ?_; refine d_go ?_) | (refine l_gd ?_; first | refine l_onG ?_ | refine l_offG ?_) | (refine d_gd ?_; first | refine d_onG ?_ | refine d_offG ?_) | refine wq_seq ?_ | refine wq_line ?_ | refine wq_draw (by decide +kernel) ?_ | refine wq_block ?_ | refine l_nil ?_ | refine d_nil ?_ | refine wq_skip ?_ | refine wq_ret ?_ | refine wq_exit ?_ | refine th_normal ?_ | refine th_ret ?_ | refine th_exit ?_ | refine bk_normal ?_ | refine bk_ret ?_ | refine bk_exit ?_ | refine bk_other rfl ?_ | refine wq_label ?_ | refine jq_ret ?_ | refine wq_goto ?_ | refine th_goto ?_ | refine jq_goto ?_)
    refine cond_go (fun hb => ?_) (fun hb => ?_)
    · repeat (first | (refine l_pl ?_; refine l_go ?_) | (refine d_pl ?_; refine d_go ?_) | (refine l_gd ?_; first | refine l_onG ?_ | refine l_offG ?_) | (refine d_gd ?_; first | refine d_onG ?_ | refine d_offG ?_) | refine wq_seq ?_ | refine wq_line ?_ | refine wq_draw (by decide +kernel) ?_ | refine wq_block ?_ | refine l_nil ?_ | refine d_nil ?_ | refine wq_skip ?_ | refine wq_ret ?_ | refine wq_exit ?_ | refine th_normal ?_ | refine th_ret ?_ | refine th_exit ?_ | refine bk_normal ?_ | refine bk_ret ?_ | refine bk_exit ?_ | refine bk_other rfl ?_ | refine wq_label ?_ | refine jq_ret ?_ | refine wq_goto ?_ | refine th_goto ?_ | refine jq_goto ?_)
      refine wqJ_last ?_
      repeat (first | (refine l_pl ?_; refine l_go ?_) | (refine d_pl ?_; refine d_go ?_) | (refine l_gd ?_; first | refine l_onG ?_ | refine l_offG ?_) | (refine d_gd ?_; first | refine d_onG ?_ | refine d_offG ?_) | refine wq_seq ?_ | refine wq_line ?_ | refine wq_draw (by decide +kernel) ?_ | refine wq_block ?_ | refine l_nil ?_ | refine d_nil ?_ | refine wq_skip ?_ | refine wq_ret ?_ | refine wq_exit ?_ | refine th_normal ?_ | refine th_ret ?_ | refine th_exit ?_ | refine bk_normal ?_ | refine bk_ret ?_ | refine bk_exit ?_ | refine bk_other rfl ?_ | refine wq_label ?_ | refine jq_ret ?_ | refine wq_goto ?_ | refine th_goto ?_ | refine jq_goto ?_)
      refine cond_go (fun hb => ?_) (fun hb => ?_)
      · cases hb
      · repeat (first | (refine l_pl ?_; refine l_go ?_) | (refine d_pl ?_; refine d_go ?_) | (refine l_gd ?_; first | refine l_onG ?_ | refine l_offG ?_) | (refine d_gd ?_; first | refine d_onG ?_ | refine d_offG ?_) | refine wq_seq ?_ | refine wq_line ?_ | refine wq_draw (by decide +kernel) ?_ | refine wq_block ?_ | refine l_nil ?_ | refine d_nil ?_ | refine wq_skip ?_ | refine wq_ret ?_ | refine wq_exit ?_ | refine th_normal ?_ | refine th_ret ?_ | refine th_exit ?_ | refine bk_normal ?_ | refine bk_ret ?_ | refine bk_exit ?_ | refine bk_other rfl ?_ | refine wq_label ?_ | refine jq_ret ?_)
        refine end_ret (by simp only [resRf, resRs, resR]; first | done | rfl) ⟨?_, by first | exact List.prefix_refl _ | exact List.prefix_append _ _ | assumption | (refine List.IsPrefix.trans (by assumption) (List.prefix_append _ _)) | (simp only [List.append_assoc, List.cons_append, List.nil_append, List.set_cons_zero, List.set_cons_succ]; exact ⟨_, by simp only [List.append_assoc, List.cons_append, List.nil_append]; rfl⟩)⟩
        simp only [put_app, put_none]
        rfl
    · cases hb
  · cases hb
end Go.Proofs.Ytekifjeckbndiaa.VM

/- Layers 3 and 9: draws below a number; which row is taken. -/
namespace Go.Proofs.Ytekifjeckbndiaa.VM
open Go
set_option linter.unusedVariables false
set_option linter.unusedSimpArgs false
attribute [local irreducible] wq wqL wqD wqE wqO Th Bk EndR
set_option maxHeartbeats 8000000

def pickN (s k b : Nat) : Nat := drawN s k * b / 65536
theorem drawN_lt (s k : Nat) : drawN s k < 65536 := Nat.mod_lt _ (by decide)

theorem drawPick_ (H : Heap) (s k b : Nat) (hm : drawMay s k = true) (hb1 : 1 ≤ b) (hb2 : b ≤ 65536) : Call Try.prog 113 [.int .i64 s, .int .i64 k, .int .i64 b] H (.tup [.int .i64 (pickN s k b : Nat), .int .i64 0]) H := by
  refine call_plain fit mixed Try.func113 rfl rfl rfl (by kernel_rfl) rfl ?_
  have c1 := drawOf_good H s k hm
  have hlt := drawN_lt s k
  obtain ⟨x, hx⟩ : ∃ x, drawN s k = x := ⟨_, rfl⟩
  have hp : pickN s k b = x * b / 65536 := by unfold pickN; rw [hx]
  rw [hx] at c1 hlt
  rw [hp]
  have hxb : x * b ≤ 65536 * 65536 := Nat.mul_le_mul (by omega) hb2
  have d1 : decide ((b : Int) < 1) = false := decide_eq_false (by omega)
  have d2 : decide ((b : Int) > 65536) = false := decide_eq_false (by omega)
  have w1 : IntKind.i64.wrap ((x : Int) * (b : Int)) = ((x * b : Nat) : Int) := by rw [← Int.natCast_mul]; exact wrap_nat (by omega)
  have w2 : IntKind.i64.wrap (((x * b : Nat) : Int).tdiv 65536) = ((x * b / 65536 : Nat) : Int) := by
    rw [Int.tdiv_eq_ediv_of_nonneg (by omega)]
    have : ((x * b : Nat) : Int) / 65536 = ((x * b / 65536 : Nat) : Int) := by omega
    rw [this]; exact wrap_nat (by omega)
  clear hx hp hxb hm hb1 hb2 hlt
  refine goW ?_
  refine l_callG c1 ?_
  refine goW ?_
  refine cond_go (fun hb => ?_) (fun hb => ?_)
  · cases hb
  clear hb
  refine goW ?_
  refine end_ret (by simp only [resRf, resRs, resR]; first | done | rfl) ⟨?_, by first | exact List.prefix_refl _ | exact List.prefix_append _ _ | assumption | (refine List.IsPrefix.trans (by assumption) (List.prefix_append _ _)) | (simp only [List.append_assoc, List.cons_append, List.nil_append, List.set_cons_zero, List.set_cons_succ]; exact ⟨_, by simp only [List.append_assoc, List.cons_append, List.nil_append]; rfl⟩)⟩
  simp only [put_app, put_none]
  rfl

theorem sampleMember_ (H : Heap) (x : Int) : Call Try.prog 85 [.int .i64 x] H (.bool (within x 0 7)) H := by
  refine call_plain fit mixed Try.func85 rfl rfl rfl (by kernel_rfl) rfl ?_
  repeat' (first | (refine l_pl ?_; refine l_go ?_) | (refine d_pl ?_; refine d_go ?_) | (refine l_gd ?_; first | refine l_onG ?_ | refine l_offG ?_) | (refine d_gd ?_; first | refine d_onG ?_ | refine d_offG ?_) | refine wq_seq ?_ | refine wq_line ?_ | refine wq_draw (by decide +kernel) ?_ | refine wq_block ?_ | refine l_nil ?_ | refine d_nil ?_ | refine wq_skip ?_ | refine wq_ret ?_ | refine wq_exit ?_ | refine th_normal ?_ | refine th_ret ?_ | refine th_exit ?_ | refine bk_normal ?_ | refine bk_ret ?_ | refine bk_exit ?_ | refine bk_other rfl ?_ | first | refine l_partG (fun hb => ?_) (fun hb => ?_) | refine d_partG (fun hb => ?_) (fun hb => ?_))
  all_goals refine end_finG ?_; simp [put_app, put_none, *]
  all_goals simp_all [within]
  all_goals (first | done | omega)

def mixes : Nat → Nat → Nat
  | 0, x => x
  | j + 1, x => mixN (mixes j x)
theorem mixes_zero (x : Nat) : mixes 0 x = x := by rw [mixes]
theorem mixes_succ (j x : Nat) : mixes (j + 1) x = mixN (mixes j x) := by rw [mixes]
theorem mixes_three (x : Nat) : mixes 3 x = mixN (mixN (mixN x)) := by simp only [mixes]

-- the document's
theorem refDraw_ (H : Heap) (s k : Nat) (hs : s ≤ 65535) (hk : k ≤ 1048576) : Call Try.prog 90 [.int .i64 s, .int .i64 k] H (.tup [.int .i64 (drawN s k : Nat), .int .i64 0]) H := by
  refine call_plain fit mixed Try.func90 rfl rfl rfl (by kernel_rfl) rfl ?_
  have c1 := upTo1_ H s 0 65535
  have c2 := upTo1_ H k 0 1048576
  rw [within_iff.2 ⟨by omega, by omega⟩] at c1 c2
  obtain ⟨a0, b0, c0, d0, e1, e2, e3, e4, _, e5⟩ := seed_step hs hk
  have e6 : (d0 : Int).tmod 2147483648 = ((seedN s k : Nat) : Int) := by rw [Int.tmod_eq_emod_of_nonneg (by omega), ← e5]; omega
  have l0 : seedN s k < 2147483648 := Nat.mod_lt _ (by decide)
  clear hs hk e5
  refine goW ?_
  refine l_callG c1 ?_
  refine goW ?_
  refine l_callG c2 ?_
  refine goW ?_
  refine cond_go (fun hb => ?_) (fun hb => ?_)
  · cases hb
  clear hb c1 c2
  refine goW ?_
  refine wq_loop (fun c ρ h => ∃ j, j ≤ 3 ∧ c = 3 - j ∧ h = H ∧ ρ 6 = .int .i64 (mixes j (seedN s k) : Nat) ∧ ρ 7 = .int .i64 (j : Nat)) ⟨0, by decide, rfl, rfl, by rw [mixes_zero]; rfl, rfl⟩ ?_
  clear e1 e2 e3 e4 e6
  rintro _ ρ _ ⟨j, hj, rfl, rfl, h6, h7⟩
  obtain ⟨x, hx⟩ : ∃ x, mixes j (seedN s k) = x := ⟨_, rfl⟩
  rw [hx] at h6
  have hlt : x < 2147483648 := by
    rw [← hx]
    cases j with
    | zero => rw [mixes_zero]; exact l0
    | succ j => rw [mixes_succ]; exact mixN_lt _
  refine goW ?_
  refine cond_go (fun hb => ?_) (fun hb => ?_)
  · have hj' : j < 3 := by have : (j : Int) < 3 := by simpa using hb
                           omega
    clear hb
    obtain ⟨a1, b1, c1', f1, f2, f3, f4, _, f5, hb1⟩ := mix_step hlt
    have f6 : (c1' : Int).tmod 2147483648 = ((mixN x : Nat) : Int) := by rw [Int.tmod_eq_emod_of_nonneg (by omega), ← f5]; omega
    have hw := wrap_succ (n := j) (by omega)
    have hnext : mixes (j + 1) (seedN s k) = mixN x := by rw [mixes_succ, hx]
    clear f5 hlt hx
    refine goW ?_
    refine ⟨3 - (j + 1), by omega, j + 1, hj', rfl, rfl, ?_⟩
    rw [hnext]
    clear hnext
    simp [put_app, put_none, *]
  · have hj' : j = 3 := by have : ¬ (j : Int) < 3 := by simpa using hb
                           omega
    subst hj'
    clear hb
    have j1 : ((x : Nat) : Int).fdiv (2 ^ min (Int.toNat 8) IntKind.i64.bits) = ((x / 2 ^ 8 : Nat) : Int) := f_shr x 8 (by decide)
    have j2 : ((x / 2 ^ 8 : Nat) : Int).tmod 65536 = ((x / 256 % 65536 : Nat) : Int) := by rw [Int.tmod_eq_emod_of_nonneg (by omega)]; omega
    have hd : drawN s k = x / 256 % 65536 := by rw [← hx, mixes_three, drawN]
    rw [hd]
    clear hd hx hlt
    refine goW ?_
    refine end_ret (by simp only [resRf, resRs, resR]; first | done | rfl) ⟨?_, by first | exact List.prefix_refl _ | exact List.prefix_append _ _ | assumption | (refine List.IsPrefix.trans (by assumption) (List.prefix_append _ _)) | (simp only [List.append_assoc, List.cons_append, List.nil_append, List.set_cons_zero, List.set_cons_succ]; exact ⟨_, by simp only [List.append_assoc, List.cons_append, List.nil_append]; rfl⟩)⟩
    simp only [put_app, put_none]
    rfl

theorem refPick_ (H : Heap) (s k b : Nat) (hs : s ≤ 65535) (hk : k ≤ 1048576) (hb1 : 1 ≤ b) (hb2 : b ≤ 65536) : Call Try.prog 117 [.int .i64 s, .int .i64 k, .int .i64 b] H (.tup [.int .i64 (pickN s k b : Nat), .int .i64 0]) H := by
  refine call_plain fit mixed Try.func117 rfl rfl rfl (by kernel_rfl) rfl ?_
  have c1 := refDraw_ H s k hs hk
  have c2 := upTo1_ H b 1 65536
  rw [within_iff.2 ⟨by omega, by omega⟩] at c2
  have hlt := drawN_lt s k
  obtain ⟨x, hx⟩ : ∃ x, drawN s k = x := ⟨_, rfl⟩
  have hp : pickN s k b = x * b / 65536 := by unfold pickN; rw [hx]
  rw [hx] at c1 hlt
  rw [hp]
  have hxb : x * b ≤ 65536 * 65536 := Nat.mul_le_mul (by omega) hb2
  have w1 : IntKind.i64.wrap ((x : Int) * (b : Int)) = ((x * b : Nat) : Int) := by rw [← Int.natCast_mul]; exact wrap_nat (by omega)
  have w2 : ((x * b : Nat) : Int).fdiv (2 ^ min (Int.toNat 16) IntKind.i64.bits) = ((x * b / 65536 : Nat) : Int) := f_shr (x * b) 16 (by decide)
  clear hx hp hxb hs hk hb1 hb2 hlt
  refine goW ?_
  refine l_callG c1 ?_
  refine goW ?_
  refine l_callG c2 ?_
  refine goW ?_
  refine cond_go (fun hb => ?_) (fun hb => ?_)
  · cases hb
  clear hb
  refine goW ?_
  refine end_ret (by simp only [resRf, resRs, resR]; first | done | rfl) ⟨?_, by first | exact List.prefix_refl _ | exact List.prefix_append _ _ | assumption | (refine List.IsPrefix.trans (by assumption) (List.prefix_append _ _)) | (simp only [List.append_assoc, List.cons_append, List.nil_append, List.set_cons_zero, List.set_cons_succ]; exact ⟨_, by simp only [List.append_assoc, List.cons_append, List.nil_append]; rfl⟩)⟩
  simp only [put_app, put_none]
  rfl

end Go.Proofs.Ytekifjeckbndiaa.VM

/- Layers 8, 10, 11, 14, 19: hypers, rows, checkpoints, configs that may be: the program's. -/
namespace Go.Proofs.Ytekifjeckbndiaa.VM
open Go
set_option linter.unusedVariables false
set_option linter.unusedSimpArgs false
attribute [local irreducible] wq wqL wqD wqE wqO Th Bk EndR
set_option maxHeartbeats 8000000

def hyperMay (r m : Int) : Bool := within r 64 16384 && within m 0 58982

theorem optimMay (H : Heap) (r m : Int) : Call Try.prog 132 [.agg [.int .i64 r, .int .i64 m]] H (.bool (hyperMay r m)) H := by
  refine call_plain fit mixed Try.func132 rfl rfl rfl (by kernel_rfl) rfl ?_
  repeat' (first | (refine l_pl ?_; refine l_go ?_) | (refine d_pl ?_; refine d_go ?_) | (refine l_gd ?_; first | refine l_onG ?_ | refine l_offG ?_) | (refine d_gd ?_; first | refine d_onG ?_ | refine d_offG ?_) | refine wq_seq ?_ | refine wq_line ?_ | refine wq_draw (by decide +kernel) ?_ | refine wq_block ?_ | refine l_nil ?_ | refine d_nil ?_ | refine wq_skip ?_ | refine wq_ret ?_ | refine wq_exit ?_ | refine th_normal ?_ | refine th_ret ?_ | refine th_exit ?_ | refine bk_normal ?_ | refine bk_ret ?_ | refine bk_exit ?_ | refine bk_other rfl ?_ | first | refine l_partG (fun hb => ?_) (fun hb => ?_) | refine d_partG (fun hb => ?_) (fun hb => ?_))
  all_goals refine end_finG ?_; simp [put_app, put_none, *]
  all_goals simp_all [hyperMay, within]
  all_goals (first | done | omega)
theorem hyperMayP (H : Heap) (r m : Int) : Call Try.prog 115 [.agg [.int .i64 r, .int .i64 m]] H (.bool (hyperMay r m)) H := by
  refine call_plain fit mixed Try.func115 rfl rfl rfl (by kernel_rfl) rfl ?_
  refine goW ?_
  refine l_callG (optimMay _ r m) ?_
  refine goW ?_
  refine end_finG ?_; simp [put_app, put_none, *]
theorem confWithin_ (H : Heap) (x a b : Int) : Call Try.prog 78 [.int .i64 x, .int .i64 a, .int .i64 b] H (.bool (within x a b)) H := by
  refine call_plain fit mixed Try.func78 rfl rfl rfl (by kernel_rfl) rfl ?_
  repeat' (first | (refine l_pl ?_; refine l_go ?_) | (refine d_pl ?_; refine d_go ?_) | (refine l_gd ?_; first | refine l_onG ?_ | refine l_offG ?_) | (refine d_gd ?_; first | refine d_onG ?_ | refine d_offG ?_) | refine wq_seq ?_ | refine wq_line ?_ | refine wq_draw (by decide +kernel) ?_ | refine wq_block ?_ | refine l_nil ?_ | refine d_nil ?_ | refine wq_skip ?_ | refine wq_ret ?_ | refine wq_exit ?_ | refine th_normal ?_ | refine th_ret ?_ | refine th_exit ?_ | refine bk_normal ?_ | refine bk_ret ?_ | refine bk_exit ?_ | refine bk_other rfl ?_ | first | refine l_partG (fun hb => ?_) (fun hb => ?_) | refine d_partG (fun hb => ?_) (fun hb => ?_))
  all_goals refine end_finG ?_; simp [put_app, put_none, *]
  all_goals simp_all [within]
  all_goals (first | done | omega)

/-- rows of numbers, all as long as the first -/
def alike (n : Nat) (xss : List (List Int)) : Bool := xss.all fun xs => vecMay xs && decide (xs.length = n)
def oneC (cs : List V) (v : V) : Prop := cs = [v]

theorem alike_ (H : Heap) (v : V) (us : List V) (xss : List (List Int)) (n : Nat) (hv : Sl 1 oneC H v us) (hl : us.length = xss.length) (hl2 : us.length ≤ 2 ^ 40) (hall : ∀ (k : Nat) u xs, us[k]? = some u → xss[k]? = some xs → Sl 1 intC H u xs ∧ xs.length ≤ 2 ^ 47) (hn : ∀ xs, xss[0]? = some xs → xs.length = n) :
    Call Try.prog 114 [v] H (.bool (alike n xss)) H := by
  refine call_plain fit mixed Try.func114 rfl rfl rfl (by kernel_rfl) rfl ?_
  have hlen := hv.len T152 rfl
  replace hl := hl.symm
  refine goW ?_
  refine wq_loop (fun c ρ h => ∃ k, k ≤ us.length ∧ c = us.length - k ∧ h = H ∧ (∀ (j : Nat) xs, j < k → xss[j]? = some xs → (vecMay xs && decide (xs.length = n)) = true) ∧ ρ 0 = v ∧ ρ 5 = v ∧ ρ 6 = .int .i64 us.length ∧ ρ 7 = .int .i64 (k : Nat)) ⟨0, Nat.zero_le _, rfl, rfl, by intro j xs hj; omega, rfl, rfl, rfl, rfl⟩ ?_
  rintro _ ρ h ⟨k, hk, rfl, rfl, hgood, h0, h5, h6, h7⟩
  refine goW ?_
  refine cond_go (fun hb => ?_) (fun hb => ?_)
  · have hk' : k < us.length := by simpa using hb
    clear hb
    obtain ⟨u, huk⟩ : ∃ x, us[k]? = some x := ⟨us[k], by simp [hk']⟩
    obtain ⟨xs, hxk⟩ : ∃ x, xss[k]? = some x := ⟨xss[k]'(by omega), by simp⟩
    obtain ⟨u0, hu0⟩ : ∃ x, us[0]? = some x := ⟨us[0]'(by omega), by simp⟩
    obtain ⟨x0, hx0⟩ : ∃ x, xss[0]? = some x := ⟨xss[0]'(by omega), by simp⟩
    obtain ⟨s1, sl1⟩ := hall k _ _ huk hxk
    obtain ⟨s2, _⟩ := hall 0 _ _ hu0 hx0
    have hn0 := hn _ hx0
    obtain ⟨b, o, cs, hi, rfl, _, hlo, _⟩ := hv.get T152 rfl T27 rfl huk
    obtain ⟨b2, o2, cs, hi2, rfl, _, hlo2, _⟩ := hv.get T152 rfl T27 rfl hu0
    have ho := loadV_one T27 rfl hlo
    have ho2 := loadV_one T27 rfl hlo2
    replace hi2 : idxV T 152 v 0 = some (.ptr b2 o2) := hi2
    have c1 := vecMay_ h u xs s1 sl1
    have g1 := s1.len T27 rfl
    have g2 := s2.len T27 rfl
    rw [hn0] at g2
    have hw := wrap_succ (n := k) (by omega)
    have hno : (vecMay xs && decide (xs.length = n)) = false → alike n xss = false := fun hbad => by
      unfold alike
      rw [List.all_eq_false]
      exact ⟨xs, List.mem_iff_getElem?.2 ⟨k, hxk⟩, by rw [hbad]; decide⟩
    cases hvm : vecMay xs
    · rw [hvm] at c1
      have hfin := hno (by rw [hvm]; rfl)
      clear hno hgood hall hn hlo hlo2 s1 s2 hxk huk hx0 hu0
      refine goW ?_
      refine l_callG c1 ?_
      refine goW ?_
      refine cond_go (fun hb => ?_) (fun hb => ?_)
      · refine goW ?_
        refine end_ret (by simp only [resRf, resRs, resR]; first | done | rfl) ⟨?_, by first | exact List.prefix_refl _ | exact List.prefix_append _ _ | assumption | (refine List.IsPrefix.trans (by assumption) (List.prefix_append _ _)) | (simp only [List.append_assoc, List.cons_append, List.nil_append, List.set_cons_zero, List.set_cons_succ]; exact ⟨_, by simp only [List.append_assoc, List.cons_append, List.nil_append]; rfl⟩)⟩
        rw [hfin]
        simp [put_app, put_none]
      · cases hb
    · rw [hvm] at c1
      by_cases hln : xs.length = n
      · have hgk : (vecMay xs && decide (xs.length = n)) = true := by rw [hvm, hln]; simp
        have hall' : ∀ (j : Nat) ys, j < k + 1 → xss[j]? = some ys → (vecMay ys && decide (ys.length = n)) = true := fun j ys hj hy => by
          by_cases hjk : j = k
          · subst hjk; rw [hxk] at hy; cases hy; exact hgk
          · exact hgood j ys (by omega) hy
        rw [hln] at g1
        clear hgk hln hno hgood hall hn hlo hlo2 s1 s2 hxk huk hx0 hu0 hvm hn0
        refine goW ?_
        refine l_callG c1 ?_
        refine goW ?_
        refine cond_go (fun hb => ?_) (fun hb => ?_)
        · simp at hb
        clear hb
        refine goW ?_
        refine ⟨us.length - (k + 1), by omega, k + 1, hk', rfl, rfl, hall', ?_⟩
        simp [put_app, put_none, *]
      · have hfin := hno (by rw [hvm]; simp [hln])
        have hne : ((xs.length : Int) != (n : Int)) = true := by simp; omega
        clear hln hno hgood hall hn hlo hlo2 s1 s2 hxk huk hx0 hu0 hvm
        refine goW ?_
        refine l_callG c1 ?_
        refine goW ?_
        refine cond_go (fun hb => ?_) (fun hb => ?_)
        · refine goW ?_
          refine end_ret (by simp only [resRf, resRs, resR]; first | done | rfl) ⟨?_, by first | exact List.prefix_refl _ | exact List.prefix_append _ _ | assumption | (refine List.IsPrefix.trans (by assumption) (List.prefix_append _ _)) | (simp only [List.append_assoc, List.cons_append, List.nil_append, List.set_cons_zero, List.set_cons_succ]; exact ⟨_, by simp only [List.append_assoc, List.cons_append, List.nil_append]; rfl⟩)⟩
          rw [hfin]
          simp [put_app, put_none]
        · cases hb
  · have hk' : k = us.length := by have : ¬ k < us.length := by simpa using hb
                                   omega
    have hfin : alike n xss = true := List.all_eq_true.2 fun xs hx => by
      obtain ⟨j, hj⟩ := List.mem_iff_getElem?.1 hx
      exact hgood j xs (by have := (List.getElem?_eq_some_iff.1 hj).1; omega) hj
    clear hb hk' hgood hall hn
    refine goW ?_
    refine end_ret (by simp only [resRf, resRs, resR]; first | done | rfl) ⟨?_, by first | exact List.prefix_refl _ | exact List.prefix_append _ _ | assumption | (refine List.IsPrefix.trans (by assumption) (List.prefix_append _ _)) | (simp only [List.append_assoc, List.cons_append, List.nil_append, List.set_cons_zero, List.set_cons_succ]; exact ⟨_, by simp only [List.append_assoc, List.cons_append, List.nil_append]; rfl⟩)⟩
    rw [hfin]
    simp [put_app, put_none]

-- rows
def rowOk (i : Int) (r : List Int × Int) : Bool := feeds i r.1 && fixMay r.2
def lossMay (i h : Int) (rs : List (List Int × Int)) : Bool := shapeMay i h && (decide (1 ≤ rs.length) && decide (rs.length ≤ 8)) && rs.all (rowOk i)

theorem lossOdd_ (H : Heap) (b : Nat) (i h y : Int) (x : V) (xs : List Int) (hb : H.loadN b 0 2 = some [.int .i64 i, .int .i64 h]) (hx : Sl 1 intC H x xs) (hl : xs.length ≤ 2 ^ 47) : Call Try.prog 109 [.agg [x, .int .i64 y], .ptr b 0] H (.bool (!(rowOk i (xs, y)))) H := by
  refine call_plain fit mixed Try.func109 rfl rfl rfl (by kernel_rfl) rfl ?_
  obtain ⟨H1, hH1⟩ : ∃ H1, H ++ [.row [x, .int .i64 y] true] = H1 := ⟨_, rfl⟩
  have p1 : H <+: H1 := by rw [← hH1]; exact List.prefix_append _ _
  have l0 : loadV T 23 H1 b 0 = some (.agg [.int .i64 i, .int .i64 h]) := loadV_agg T23 rfl (loadN_pre p1 hb)
  have l1 : loadV T 27 H1 H.length 0 = some x := loadV_one T27 rfl (by rw [← hH1, loadN_app0]; rfl)
  have l2 : loadV T 3 H1 H.length 1 = some (.int .i64 y) := loadV_one T3 rfl (by rw [← hH1, loadN_app0]; rfl)
  have c1 := inputs_ H1 i h x xs (hx.mono p1) hl
  have c2 := fixMay_ H1 y
  have hfin : rowOk i (xs, y) = (feeds i xs && fixMay y) := rfl
  rw [hfin]
  obtain ⟨r1, e1⟩ : ∃ r, feeds i xs = r := ⟨_, rfl⟩
  rw [e1] at c1 ⊢
  clear hfin e1 hb hx hl
  cases r1
  · refine goW ?_
    refine l_heap (h' := H1) hH1 ?_
    refine goW ?_
    refine l_callG c1 ?_
    refine goW ?_
    refine end_ret (by simp only [resRf, resRs, resR]; first | done | rfl) ⟨?_, p1⟩
    simp [put_app, put_none]
  · refine goW ?_
    refine l_heap (h' := H1) hH1 ?_
    refine goW ?_
    refine l_callG c1 ?_
    refine goW ?_
    refine l_callG c2 ?_
    refine goW ?_
    refine end_ret (by simp only [resRf, resRs, resR]; first | done | rfl) ⟨?_, p1⟩
    simp [put_app, put_none]
end Go.Proofs.Ytekifjeckbndiaa.VM

/- Layers 10, 14, 19, 20: rows, checkpoints, configs that may be: the program's. -/
namespace Go.Proofs.Ytekifjeckbndiaa.VM
open Go
set_option linter.unusedVariables false
set_option linter.unusedSimpArgs false
attribute [local irreducible] wq wqL wqD wqE wqO Th Bk EndR
set_option maxHeartbeats 8000000

theorem indexRows_ (H : Heap) (b : Nat) (i h : Int) (v : V) (rs : List (List Int × Int)) (hs : H.loadN b 0 2 = some [.int .i64 i, .int .i64 h]) (hr : Rows H v rs) (hl : rs.length ≤ 2 ^ 47) (hxl : ∀ r ∈ rs, r.1.length ≤ 2 ^ 47) :
    ∃ r : Int, decide (r ≥ 0) = !(rs.all (rowOk i)) ∧ Call Try.prog 131 [v, .fn 109 [.ptr b 0]] H (.int .i64 r) H := by
  obtain ⟨k0, hk0, hgood, hend⟩ := first_bad (rowOk i) rs
  obtain ⟨r, hre⟩ : ∃ r : Int, r = if k0 = rs.length then -1 else (k0 : Int) := ⟨_, rfl⟩
  refine ⟨r, ?_, ?_⟩
  · rcases hend with ⟨h1, h2⟩ | ⟨h2, x, h3, _⟩
    · rw [hre, if_pos h1, h2]; rfl
    · have : k0 < rs.length := (List.getElem?_eq_some_iff.1 h3).1
      rw [hre, if_neg (by omega), h2]
      simp
  refine call_plain fit mixed Try.func131 rfl rfl rfl (by kernel_rfl) rfl ?_
  obtain ⟨rv, hrv, hrl, hrr⟩ := hr
  have hlen := hrv.len T24 rfl
  rw [hrl] at hlen
  refine goW ?_
  refine wq_loop (fun c ρ hp => ∃ k, k ≤ k0 ∧ c = rs.length - k ∧ hp = H ∧ ρ 0 = v ∧ ρ 1 = .fn 109 [.ptr b 0] ∧ ρ 7 = .int .i64 rs.length ∧ ρ 8 = .int .i64 (k : Nat)) ⟨0, Nat.zero_le _, rfl, rfl, rfl, rfl, rfl, rfl⟩ ?_
  rintro _ ρ hp ⟨k, hk, rfl, rfl, h0, h1, h7, h8⟩
  refine goW ?_
  refine cond_go (fun hb => ?_) (fun hb => ?_)
  · have hk' : k < rs.length := by simpa using hb
    clear hb
    obtain ⟨⟨x, y⟩, hpk⟩ : ∃ p, rv[k]? = some p := ⟨rv[k]'(by omega), by simp⟩
    obtain ⟨⟨xs, y'⟩, hxk⟩ : ∃ x, rs[k]? = some x := ⟨rs[k], by simp [hk']⟩
    obtain ⟨s1, e1⟩ := hrr k _ _ hpk hxk
    obtain rfl : y = y' := e1
    obtain ⟨b2, o, _, hi, rfl, _, hlo, _⟩ := hrv.get T24 rfl T64 rfl hpk
    have ho : loadV T 64 hp b2 o = some (.agg [x, .int .i64 y]) := loadV_agg T64 rfl hlo
    have hw := wrap_succ (n := k) (by omega)
    have hodd := lossOdd_ hp b i h y x xs hs s1 (hxl _ (List.mem_iff_getElem?.2 ⟨k, hxk⟩))
    by_cases hkk : k < k0
    · have hg : rowOk i (xs, y) = true := hgood k _ hkk hxk
      rw [hg] at hodd
      clear hend hg hxk hpk hlo s1 hrr hgood
      refine goW ?_
      refine l_callG hodd ?_
      refine goW ?_
      refine cond_go (fun hb => ?_) (fun hb => ?_)
      · cases hb
      · refine goW ?_
        refine ⟨rs.length - (k + 1), by omega, k + 1, hkk, rfl, rfl, ?_⟩
        simp [put_app, put_none, *]
    · have hkk' : k = k0 := by omega
      rcases hend with ⟨h2, _⟩ | ⟨_, z, h3, h4⟩
      · omega
      · rw [← hkk', hxk] at h3
        obtain rfl := Option.some.inj h3
        rw [h4] at hodd
        rw [if_neg (by omega), ← hkk'] at hre
        subst hre
        clear hgood h3 h4 hkk hkk' hk hk0 hxk hpk hlo s1 hrr
        refine goW ?_
        refine l_callG hodd ?_
        refine goW ?_
        refine cond_go (fun hb => ?_) (fun hb => ?_)
        · refine goW ?_
          refine end_ret (by simp only [resRf, resRs, resR]; first | done | rfl) ⟨?_, by first | exact List.prefix_refl _ | exact List.prefix_append _ _ | assumption | (refine List.IsPrefix.trans (by assumption) (List.prefix_append _ _)) | (simp only [List.append_assoc, List.cons_append, List.nil_append, List.set_cons_zero, List.set_cons_succ]; exact ⟨_, by simp only [List.append_assoc, List.cons_append, List.nil_append]; rfl⟩)⟩
          simp [put_app, put_none]
        · cases hb
  · have hk' : k = rs.length := by have : ¬ k < rs.length := by simpa using hb
                                   omega
    rw [if_pos (by omega)] at hre
    clear hb hgood hend hrr
    refine goW ?_
    refine end_ret (by simp only [resRf, resRs, resR]; first | done | rfl) ⟨?_, by first | exact List.prefix_refl _ | exact List.prefix_append _ _ | assumption | (refine List.IsPrefix.trans (by assumption) (List.prefix_append _ _)) | (simp only [List.append_assoc, List.cons_append, List.nil_append, List.set_cons_zero, List.set_cons_succ]; exact ⟨_, by simp only [List.append_assoc, List.cons_append, List.nil_append]; rfl⟩)⟩
    rw [hre]
    simp [put_app, put_none]

theorem lossMay_ (H : Heap) (i h : Int) (v : V) (rs : List (List Int × Int)) (hr : Rows H v rs) (hl : rs.length ≤ 2 ^ 47) (hxl : ∀ r ∈ rs, r.1.length ≤ 2 ^ 47) : Call Try.prog 79 [.agg [.int .i64 i, .int .i64 h], v] H (.bool (lossMay i h rs)) H := by
  refine call_plain fit mixed Try.func79 rfl rfl rfl (by kernel_rfl) rfl ?_
  obtain ⟨H1, hH1⟩ : ∃ H1, H ++ [.row [.int .i64 i, .int .i64 h] true] = H1 := ⟨_, rfl⟩
  have p1 : H <+: H1 := by rw [← hH1]; exact List.prefix_append _ _
  have hs : H1.loadN H.length 0 2 = some [.int .i64 i, .int .i64 h] := by rw [← hH1, loadN_app0]; rfl
  have l0 : loadV T 23 H1 H.length 0 = some (.agg [.int .i64 i, .int .i64 h]) := loadV_agg T23 rfl hs
  have hr1 := hr.mono p1
  obtain ⟨rv, hrv, hrl, _⟩ := hr
  have hlen := hrv.len T24 rfl
  rw [hrl] at hlen
  have c1 := shapeMay_ H1 i h
  obtain ⟨r, hr2, hidx⟩ := indexRows_ H1 H.length i h v rs hs hr1 hl hxl
  have hcon : Call Try.prog 112 [v, .fn 109 [.ptr H.length 0]] H1 (.bool (!(rs.all (rowOk i)))) H1 := by
    refine call_plain fit mixed Try.func112 rfl rfl rfl (by kernel_rfl) rfl ?_
    refine goW ?_
    refine l_callG hidx ?_
    refine goW ?_
    refine end_finG ?_; simp [put_app, put_none, *]
  obtain ⟨q, hq⟩ : ∃ q, rs.all (rowOk i) = q := ⟨_, rfl⟩
  have hfin : lossMay i h rs = (shapeMay i h && (decide (1 ≤ rs.length) && decide (rs.length ≤ 8)) && q) := by unfold lossMay; rw [hq]
  rw [hq] at hcon
  rw [hfin]
  obtain ⟨r1, e1⟩ : ∃ r, shapeMay i h = r := ⟨_, rfl⟩
  rw [e1] at c1 ⊢
  clear hr2 hidx hfin hq hs hr1 hrv hrl hxl e1
  cases r1
  · refine goW ?_
    refine l_heap (h' := H1) hH1 ?_
    refine goW ?_
    refine l_callG c1 ?_
    refine goW ?_
    refine end_ret (by simp only [resRf, resRs, resR]; first | done | rfl) ⟨?_, p1⟩
    simp [put_app, put_none]
  by_cases g1 : 1 ≤ rs.length
  · have d1 : decide ((rs.length : Int) ≥ 1) = true := decide_eq_true (by omega)
    by_cases g2 : rs.length ≤ 8
    · have d2 : decide ((rs.length : Int) ≤ 8) = true := decide_eq_true (by omega)
      have e3 : (decide (1 ≤ rs.length) && decide (rs.length ≤ 8)) = true := by simp [g1, g2]
      rw [e3]
      clear g1 g2 e3 hl
      refine goW ?_
      refine l_heap (h' := H1) hH1 ?_
      refine goW ?_
      refine l_callG c1 ?_
      refine goW ?_
      refine l_callG hcon ?_
      refine goW ?_
      refine end_ret (by simp only [resRf, resRs, resR]; first | done | rfl) ⟨?_, p1⟩
      simp [put_app, put_none]
    · have d2 : decide ((rs.length : Int) ≤ 8) = false := decide_eq_false (by omega)
      have e3 : (decide (1 ≤ rs.length) && decide (rs.length ≤ 8)) = false := by simp [g2]
      rw [e3]
      clear g1 g2 e3 hl
      refine goW ?_
      refine l_heap (h' := H1) hH1 ?_
      refine goW ?_
      refine l_callG c1 ?_
      refine goW ?_
      refine end_ret (by simp only [resRf, resRs, resR]; first | done | rfl) ⟨?_, p1⟩
      simp [put_app, put_none]
  · have d1 : decide ((rs.length : Int) ≥ 1) = false := decide_eq_false (by omega)
    have e3 : (decide (1 ≤ rs.length) && decide (rs.length ≤ 8)) = false := by simp [g1]
    rw [e3]
    clear g1 e3 hl
    refine goW ?_
    refine l_heap (h' := H1) hH1 ?_
    refine goW ?_
    refine l_callG c1 ?_
    refine goW ?_
    refine end_ret (by simp only [resRf, resRs, resR]; first | done | rfl) ⟨?_, p1⟩
    simp [put_app, put_none]

/-- a config -/
structure Cfg where
  m : Int
  i : Int
  h : Int
  rows : List (List Int × Int)
  seed : Int
  total : Int
  interval : Int
  cutn : Int
  pert : Bool
abbrev cfgC (c : Cfg) (rv : V) : List V := [.int .i64 c.m, .int .i64 c.i, .int .i64 c.h, rv, .int .i64 c.seed, .int .i64 c.total, .int .i64 c.interval, .int .i64 c.cutn, .bool c.pert]
def cfgMay (c : Cfg) : Bool := within c.m 2 8 && lossMay c.i c.h c.rows && within c.seed 0 65535 && within c.total 1 32 && within c.interval 1 8 && within c.cutn 1 (IntKind.i64.wrap (c.m.tdiv 2))

theorem confMay_ (H : Heap) (c : Cfg) (rv : V) (hr : Rows H rv c.rows) (hl : c.rows.length ≤ 2 ^ 47) (hxl : ∀ r ∈ c.rows, r.1.length ≤ 2 ^ 47) : Call Try.prog 48 [.agg (cfgC c rv)] H (.bool (cfgMay c)) H := by
  refine call_plain fit mixed Try.func48 rfl rfl rfl (by kernel_rfl) rfl ?_
  obtain ⟨H1, hH1⟩ : ∃ H1, H ++ [.row (cfgC c rv) true] = H1 := ⟨_, rfl⟩
  have p1 : H <+: H1 := by rw [← hH1]; exact List.prefix_append _ _
  have hg : H1[H.length]? = some (.row (cfgC c rv) true) := by rw [← hH1]; simp
  have l0 := ld_cell (q := 0) T3 rfl hg rfl
  have l3 := ld_cell (q := 3) T24 rfl hg rfl
  have l4 := ld_cell (q := 4) T3 rfl hg rfl
  have l5 := ld_cell (q := 5) T3 rfl hg rfl
  have l6 := ld_cell (q := 6) T3 rfl hg rfl
  have l7 := ld_cell (q := 7) T3 rfl hg rfl
  have l1 : loadV T 23 H1 H.length 1 = some (.agg [.int .i64 c.i, .int .i64 c.h]) := by
    refine loadV_agg T23 rfl ?_
    rw [← hH1, loadN_app0]; rfl
  have c1 := confWithin_ H1 c.m 2 8
  have c2 := lossMay_ H1 c.i c.h rv c.rows (hr.mono p1) hl hxl
  have c3 := drawSeed_ H1 c.seed
  have c4 := confWithin_ H1 c.total 1 32
  have c5 := confWithin_ H1 c.interval 1 8
  have c6 := confWithin_ H1 c.cutn 1 (IntKind.i64.wrap (c.m.tdiv 2))
  unfold cfgMay
  obtain ⟨r1, e1⟩ : ∃ r, within c.m 2 8 = r := ⟨_, rfl⟩
  obtain ⟨r2, e2⟩ : ∃ r, lossMay c.i c.h c.rows = r := ⟨_, rfl⟩
  obtain ⟨r3, e3⟩ : ∃ r, within c.seed 0 65535 = r := ⟨_, rfl⟩
  obtain ⟨r4, e4⟩ : ∃ r, within c.total 1 32 = r := ⟨_, rfl⟩
  obtain ⟨r5, e5⟩ : ∃ r, within c.interval 1 8 = r := ⟨_, rfl⟩
  rw [e1] at c1 ⊢
  rw [e2] at c2 ⊢
  rw [e3] at c3 ⊢
  rw [e4] at c4 ⊢
  rw [e5] at c5 ⊢
  clear e1 e2 e3 e4 e5 hr hl hxl hg
  refine goW ?_
  refine l_heap (h' := H1) hH1 ?_
  refine goW ?_
  refine l_callG c1 ?_
  cases r1
  · refine goW ?_
    refine end_ret (by simp only [resRf, resRs, resR]; first | done | rfl) ⟨?_, p1⟩
    simp [put_app, put_none]
  refine goW ?_
  refine l_callG c2 ?_
  cases r2
  · refine goW ?_
    refine end_ret (by simp only [resRf, resRs, resR]; first | done | rfl) ⟨?_, p1⟩
    simp [put_app, put_none]
  refine goW ?_
  refine l_callG c3 ?_
  cases r3
  · refine goW ?_
    refine end_ret (by simp only [resRf, resRs, resR]; first | done | rfl) ⟨?_, p1⟩
    simp [put_app, put_none]
  refine goW ?_
  refine l_callG c4 ?_
  cases r4
  · refine goW ?_
    refine end_ret (by simp only [resRf, resRs, resR]; first | done | rfl) ⟨?_, p1⟩
    simp [put_app, put_none]
  refine goW ?_
  refine l_callG c5 ?_
  cases r5
  · refine goW ?_
    refine end_ret (by simp only [resRf, resRs, resR]; first | done | rfl) ⟨?_, p1⟩
    simp [put_app, put_none]
  refine goW ?_
  refine l_callG c6 ?_
  refine goW ?_
  refine end_ret (by simp only [resRf, resRs, resR]; first | done | rfl) ⟨?_, p1⟩
  simp [put_app, put_none]
end Go.Proofs.Ytekifjeckbndiaa.VM

/- Layers 14, 19, 20: a member's number; checkpoints that may be and fit: the program's. -/
namespace Go.Proofs.Ytekifjeckbndiaa.VM
open Go
set_option linter.unusedVariables false
set_option linter.unusedSimpArgs false
attribute [local irreducible] wq wqL wqD wqE wqO Th Bk EndR
set_option maxHeartbeats 8000000

theorem confId_ (H : Heap) (b : Nat) (m id : Int) (hb : H.loadN b 0 1 = some [.int .i64 m]) : Call Try.prog 49 [.ptr b 0, .int .i64 id] H (.bool (within id 0 (IntKind.i64.wrap (m - 1)))) H := by
  refine call_plain fit mixed Try.func49 rfl rfl rfl (by kernel_rfl) rfl ?_
  have l0 := loadV_one T3 rfl hb
  refine goW ?_
  refine l_callG (confWithin_ _ _ _ _) ?_
  refine goW ?_
  refine end_finG ?_; simp [put_app, put_none, *]

theorem fill_two {u v : V} (h1 : u.cells = [u] ∧ u.isTup = false) (h2 : v.cells = [v] ∧ v.isTup = false) (z : V) : fillV (rowPlace 1 2) (zeros [z] 2) [(0, u), (1, v)] = some [u, v] := by
  simp [fillV, rowPlace, zeros, h1.1, h1.2, h2.1, h2.2, setL]
theorem fill_three {u v w : V} (h1 : u.cells = [u] ∧ u.isTup = false) (h2 : v.cells = [v] ∧ v.isTup = false) (h3 : w.cells = [w] ∧ w.isTup = false) (z : V) : fillV (rowPlace 1 3) (zeros [z] 3) [(0, u), (1, v), (2, w)] = some [u, v, w] := by
  simp [fillV, rowPlace, zeros, h1.1, h1.2, h2.1, h2.2, h3.1, h3.2, setL]

theorem one_cells : ∀ us : List V, Cells 1 oneC us us
  | [] => Cells.nil
  | u :: us => Cells.cons (cs := [u]) rfl rfl (one_cells us)

def chkMay (ws vs : List Int) (r m t : Int) : Bool := (((alike ws.length [ws, vs] && decide (ws.length > 0)) && hyperMay r m) && decide (t ≥ 0)) && decide (t ≤ 32)
abbrev chkC (w v : V) (r m t : Int) : List V := [w, v, .int .i64 r, .int .i64 m, .int .i64 t]

theorem chkMay_ (H : Heap) (w v : V) (ws vs : List Int) (r m t : Int) (hw : Sl 1 intC H w ws) (hv : Sl 1 intC H v vs) (lw : ws.length ≤ 2 ^ 47) (lv : vs.length ≤ 2 ^ 47) : Call Try.prog 87 [.agg (chkC w v r m t)] H (.bool (chkMay ws vs r m t)) H := by
  refine call_plain fit mixed Try.func87 rfl rfl rfl (by kernel_rfl) rfl ?_
  obtain ⟨H1, hH1⟩ : ∃ H1, H ++ [.row (chkC w v r m t) true] = H1 := ⟨_, rfl⟩
  have p1 : H <+: H1 := by rw [← hH1]; exact List.prefix_append _ _
  obtain ⟨H2, hH2⟩ : ∃ H2, H1 ++ [.row [w, v] true] = H2 := ⟨_, rfl⟩
  have p2 : H1 <+: H2 := by rw [← hH2]; exact List.prefix_append _ _
  have hg1 : H1[H.length]? = some (.row (chkC w v r m t) true) := by rw [← hH1]; simp
  have hg : H2[H.length]? = some (.row (chkC w v r m t) true) := pre_get p2 hg1
  have k0 := ld_cell (q := 0) T27 rfl hg1 rfl
  have k1 := ld_cell (q := 1) T27 rfl hg1 rfl
  have l0 := ld_cell (q := 0) T27 rfl hg rfl
  have l4 := ld_cell (q := 4) T3 rfl hg rfl
  have l2 : loadV T 29 H2 H.length 2 = some (.agg [.int .i64 r, .int .i64 m]) := by
    refine loadV_agg T29 rfl (loadN_pre p2 ?_)
    rw [← hH1, loadN_app0]; rfl
  have hfill := fill_two hw.cells hv.cells .nils
  have hlen := hw.len T27 rfl
  have hal : Sl 1 oneC H2 (.slc H1.length 0 2 2 true 1) [w, v] := by rw [← hH2]; exact (own_make H1 (one_cells [w, v])).sl
  have c1 := alike_ H2 _ [w, v] [ws, vs] ws.length hal rfl (by simp) (fun k u xs hu hx => by
    match k, hu, hx with
    | 0, hu, hx => simp at hu hx; subst hu; subst hx; exact ⟨hw.mono (p1.trans p2), lw⟩
    | 1, hu, hx => simp at hu hx; subst hu; subst hx; exact ⟨hv.mono (p1.trans p2), lv⟩
    | k + 2, hu, hx => simp at hu) (fun xs hx => by simp at hx; rw [hx])
  have c2 := hyperMayP H2 r m
  have pend := p1.trans p2
  unfold chkMay
  obtain ⟨r1, e1⟩ : ∃ q, alike ws.length [ws, vs] = q := ⟨_, rfl⟩
  obtain ⟨r2, e2⟩ : ∃ q, hyperMay r m = q := ⟨_, rfl⟩
  rw [e1] at c1 ⊢
  rw [e2] at c2 ⊢
  have hd : decide ((ws.length : Int) > 0) = decide (ws.length > 0) := by apply Bool.eq_iff_iff.2; simp
  obtain ⟨r3, e3⟩ : ∃ q, decide (ws.length > 0) = q := ⟨_, rfl⟩
  obtain ⟨r4, e4⟩ : ∃ q, decide (t ≥ 0) = q := ⟨_, rfl⟩
  obtain ⟨r5, e5⟩ : ∃ q, decide (t ≤ 32) = q := ⟨_, rfl⟩
  rw [e3] at hd ⊢
  rw [e4, e5]
  clear e1 e2 e3 hw hv lw lv hg hg1 hal p1 p2
  refine goW ?_
  refine l_heap (h' := H1) hH1 ?_
  refine goW ?_
  refine l_step (s_buildSlice (ie := (T 27).get!) T152 rfl T27 eLk (by decide) hfill) ?_
  refine l_heap (h' := H2) hH2 ?_
  refine l_callG c1 ?_
  cases r1
  · refine goW ?_
    refine end_ret (by simp only [resRf, resRs, resR]; first | done | rfl) ⟨?_, pend⟩
    simp [put_app, put_none]
  cases r3
  · refine goW ?_
    refine end_ret (by simp only [resRf, resRs, resR]; first | done | rfl) ⟨?_, pend⟩
    simp [put_app, put_none]
  refine goW ?_
  refine l_callG c2 ?_
  cases r2
  · refine goW ?_
    refine end_ret (by simp only [resRf, resRs, resR]; first | done | rfl) ⟨?_, pend⟩
    simp [put_app, put_none]
  cases r4
  · refine goW ?_
    refine end_ret (by simp only [resRf, resRs, resR]; first | done | rfl) ⟨?_, pend⟩
    simp [put_app, put_none]
  refine goW ?_
  refine end_ret (by simp only [resRf, resRs, resR]; first | done | rfl) ⟨?_, pend⟩
  simp [put_app, put_none]

/-- a checkpoint that may be and fits -/
def memFits (i h : Int) (ws vs : List Int) (r m t : Int) : Bool := chkMay ws vs r m t && fits i h ws

theorem memFits_ (H : Heap) (cb kb : Nat) (c : Cfg) (rv w v : V) (ws vs : List Int) (r m t : Int) (hc : H[cb]? = some (.row (cfgC c rv) true)) (hk : H[kb]? = some (.row (chkC w v r m t) true)) (hw : Sl 1 intC H w ws) (hv : Sl 1 intC H v vs) (lw : ws.length ≤ 2 ^ 47) (lv : vs.length ≤ 2 ^ 47) :
    Call Try.prog 57 [.ptr cb 0, .ptr kb 0] H (.bool (memFits c.i c.h ws vs r m t)) H := by
  refine call_plain fit mixed Try.func57 rfl rfl rfl (by kernel_rfl) rfl ?_
  have l0 := ld_agg T31 rfl hk rfl
  have l1 : loadV T 23 H cb 1 = some (.agg [.int .i64 c.i, .int .i64 c.h]) := by
    refine loadV_agg T23 rfl ?_
    unfold Heap.loadN
    rw [hc]; rfl
  have l2 := ld_cell (q := 0) T27 rfl hk rfl
  have c1 := chkMay_ H w v ws vs r m t hw hv lw lv
  have c2 := shapeFits_ H c.i c.h w ws hw lw
  unfold memFits
  obtain ⟨r1, e1⟩ : ∃ q, chkMay ws vs r m t = q := ⟨_, rfl⟩
  rw [e1] at c1 ⊢
  clear e1 hw hv lw lv hc hk
  cases r1
  · refine goW ?_
    refine d_call0G c1 ?_
    refine goW ?_
    refine end_finG ?_; simp [put_app, put_none, *]
  · refine goW ?_
    refine d_call0G c1 ?_
    refine goW ?_
    refine d_call0G c2 ?_
    refine goW ?_
    refine end_finG ?_; simp [put_app, put_none, *]
end Go.Proofs.Ytekifjeckbndiaa.VM

/- Layer 6: what comes out of a net: the program's. -/
namespace Go.Proofs.Ytekifjeckbndiaa.VM
open Go
set_option linter.unusedVariables false
set_option linter.unusedSimpArgs false
attribute [local irreducible] wq wqL wqD wqE wqO Th Bk EndR
set_option maxHeartbeats 8000000

theorem unit_end {i h k : Nat} (hk : k < h) : k * (i + 1) + i < h * (i + 1) := by
  have := Nat.mul_le_mul_right (i + 1) (Nat.succ_le_of_lt hk)
  rw [Nat.succ_mul] at this
  omega
theorem small_size {i h : Nat} (hi : i ≤ 3) (hh : h ≤ 3) : h * (i + 1) ≤ 12 := Nat.le_trans (Nat.mul_le_mul hh (Nat.add_le_add_right hi 1)) (by decide)

theorem getD_some {xs : List Int} {k : Nat} (h : k < xs.length) : xs[k]? = some (xs.getD k 0) := by simp [List.getD_eq_getElem?_getD, h]

theorem unit_ (H : Heap) (b : Nat) (i h k : Nat) (w : V) (ws : List Int) (hn : NetAt H b i h w) (hw : Sl 1 intC H w ws) (hs : ws.length = netSize i h) (hi : i ≤ 3) (hh : h ≤ 3) (hk : k < h) :
    ∃ u, Call Try.prog 123 [.ptr b 0, .int .i64 k] H (.tup [u, .int .i64 (ws.getD (k * (i + 1) + i) 0)]) H ∧ Sl 1 intC H u ((ws.drop (k * (i + 1))).take i) := by
  have hsm := small_size hi hh
  have hue := unit_end (i := i) hk
  have hns : netSize i h = h * (i + 1) + h + 1 := rfl
  obtain ⟨a, ha⟩ : ∃ a, k * (i + 1) = a := ⟨_, rfl⟩
  rw [ha] at hue ⊢
  obtain ⟨u, hu, hus⟩ := hw.part (l := a) (k := a + i) (by omega) (by omega)
  rw [List.drop_take, Nat.add_sub_cancel_left] at hus
  refine ⟨u, ?_, hus⟩
  have hget := getD_some (xs := ws) (k := a + i) (by omega)
  obtain ⟨b2, o2, _, hi2, rfl, _, hlo2, _⟩ := hw.get T27 rfl T3 rfl hget
  have ho2 := loadV_one T3 rfl hlo2
  have l0 := loadV_one T3 rfl hn.a0
  have l2 := loadV_one T27 rfl hn.a2
  have w1 : IntKind.i64.wrap ((i : Int) + 1) = ((i + 1 : Nat) : Int) := wrap_succ (by omega)
  have w2 : IntKind.i64.wrap ((k : Int) * ((i + 1 : Nat) : Int)) = (a : Int) := by rw [← Int.natCast_mul, ha]; exact wrap_nat (by omega)
  have w3 : IntKind.i64.wrap ((a : Int) + (i : Int)) = ((a + i : Nat) : Int) := by rw [← Int.natCast_add]; exact wrap_nat (by omega)
  obtain ⟨r, hr⟩ : ∃ r, ws.getD (a + i) 0 = r := ⟨_, rfl⟩
  rw [hr] at ho2 ⊢
  clear hsm hue hns ha hus hget hr hs hi hh hk hlo2 hw hn
  suffices hh : ∃ v H', (v = .tup [u, .int .i64 r] ∧ H' = H) ∧ Call Try.prog 123 [.ptr b 0, .int .i64 k] H v H' by
    obtain ⟨v, H', ⟨rfl, rfl⟩, h4⟩ := hh
    exact h4
  refine call_wq fit mixed Try.func123 rfl rfl rfl (by kernel_rfl) ?_
  refine goW ?_
  refine end_ret (by simp only [resRf, resRs, resR]; first | done | rfl) ⟨?_, rfl⟩
  simp [put_app, put_none]

theorem last_ (H : Heap) (b : Nat) (i h : Nat) (w : V) (ws : List Int) (hn : NetAt H b i h w) (hw : Sl 1 intC H w ws) (hs : ws.length = netSize i h) (hi : i ≤ 3) (hh : h ≤ 3) :
    ∃ u, Call Try.prog 120 [.ptr b 0] H (.tup [u, .int .i64 (ws.getD (h * (i + 1) + h) 0)]) H ∧ Sl 1 intC H u ((ws.drop (h * (i + 1))).take h) := by
  have hsm := small_size hi hh
  have hns : netSize i h = h * (i + 1) + h + 1 := rfl
  obtain ⟨a, ha⟩ : ∃ a, h * (i + 1) = a := ⟨_, rfl⟩
  rw [ha] at hsm hns ⊢
  obtain ⟨u, hu, hus⟩ := hw.part (l := a) (k := a + h) (by omega) (by omega)
  rw [List.drop_take, Nat.add_sub_cancel_left] at hus
  refine ⟨u, ?_, hus⟩
  have hget := getD_some (xs := ws) (k := a + h) (by omega)
  obtain ⟨b2, o2, _, hi2, rfl, _, hlo2, _⟩ := hw.get T27 rfl T3 rfl hget
  have ho2 := loadV_one T3 rfl hlo2
  have l0 := loadV_one T3 rfl hn.a0
  have l1 := loadV_one T3 rfl hn.a1
  have l2 := loadV_one T27 rfl hn.a2
  have w1 : IntKind.i64.wrap ((i : Int) + 1) = ((i + 1 : Nat) : Int) := wrap_succ (by omega)
  have w2 : IntKind.i64.wrap ((h : Int) * ((i + 1 : Nat) : Int)) = (a : Int) := by rw [← Int.natCast_mul, ha]; exact wrap_nat (by omega)
  have w3 : IntKind.i64.wrap ((a : Int) + (h : Int)) = ((a + h : Nat) : Int) := by rw [← Int.natCast_add]; exact wrap_nat (by omega)
  obtain ⟨r, hr⟩ : ∃ r, ws.getD (a + h) 0 = r := ⟨_, rfl⟩
  rw [hr] at ho2 ⊢
  clear hsm hns ha hus hget hr hs hi hh hlo2 hw hn
  suffices hh : ∃ v H', (v = .tup [u, .int .i64 r] ∧ H' = H) ∧ Call Try.prog 120 [.ptr b 0] H v H' by
    obtain ⟨v, H', ⟨rfl, rfl⟩, h4⟩ := hh
    exact h4
  refine call_wq fit mixed Try.func120 rfl rfl rfl (by kernel_rfl) ?_
  refine goW ?_
  refine end_ret (by simp only [resRf, resRs, resR]; first | done | rfl) ⟨?_, rfl⟩
  simp [put_app, put_none]

/-- a list that is filled from its beginning -/
def fillTo (f : Nat → Int) (n k : Nat) : List Int := (List.range k).map f ++ List.replicate (n - k) 0
theorem fillTo_len {f : Nat → Int} {n k : Nat} (h : k ≤ n) : (fillTo f n k).length = n := by simp [fillTo]; omega
theorem fillTo_set {f : Nat → Int} {n k : Nat} (h : k < n) : (fillTo f n k).set k (f k) = fillTo f n (k + 1) := by
  unfold fillTo
  rw [List.range_succ, List.map_append, List.append_assoc]
  obtain ⟨m, hm⟩ : ∃ m, n - k = m + 1 := ⟨n - k - 1, by omega⟩
  have h2 : n - (k + 1) = m := by omega
  rw [hm, h2, List.replicate_succ, List.set_append_right _ _ (by simp)]
  simp
theorem fillTo_zero (f : Nat → Int) (n : Nat) : fillTo f n 0 = List.replicate n 0 := by simp [fillTo]
theorem fillTo_all (f : Nat → Int) (n : Nat) : fillTo f n n = (List.range n).map f := by simp [fillTo]

theorem int_store {B H : Heap} {v : V} {xs : List Int} (h : Mine 1 intC B H v xs) {k : Nat} (hk : k < xs.length) (y : Int) :
    ∃ b o H', idxV T 27 v (k : Int) = some (.ptr b o) ∧ storeV T 3 H b o (.int .i64 y) = some H' ∧ Mine 1 intC B H' v (xs.set k y) := by
  obtain ⟨b, o, h1, h2⟩ := h.store T27 rfl T3 rfl hk
  obtain ⟨H', h3, h4⟩ := h2 (.int .i64 y) y rfl rfl rfl
  exact ⟨b, o, H', h1, h3, h4⟩
theorem int_make (H : Heap) (n : Nat) : Mine 1 intC H (H ++ [.row (zeros [.int .i64 0] n) true]) (.slc H.length 0 n n true 1) (List.replicate n 0) := by
  have := mine_make (t := true) (List.prefix_refl H) (cells_zeros (z := [.int .i64 0]) (R := intC) (x := 0) rfl rfl n)
  rw [List.length_replicate] at this
  exact this

theorem units_ (H : Heap) (b : Nat) (i h : Nat) (w x : V) (ws xs : List Int) (hn : NetAt H b i h w) (hw : Sl 1 intC H w ws) (hx : Sl 1 intC H x xs) (hs : ws.length = netSize i h) (hi : i ≤ 3) (hh : h ≤ 3) (hxs : xs.length = i) :
    ∃ u H', Call Try.prog 96 [.ptr b 0, x] H u H' ∧ Mine 1 intC H H' u (units i h ws xs) := by
  suffices hgoal : ∃ u H', Mine 1 intC H H' u (units i h ws xs) ∧ Call Try.prog 96 [.ptr b 0, x] H u H' by
    obtain ⟨u, H', h1, h2⟩ := hgoal
    exact ⟨u, H', h2, h1⟩
  refine call_wq fit mixed Try.func96 rfl rfl rfl (by kernel_rfl) ?_
  have l1 := loadV_one T3 rfl hn.a1
  have hm0 := int_make H h
  rw [← fillTo_zero (unit i ws xs)] at hm0
  have hlen := hm0.sl.len T27 rfl
  rw [fillTo_len (Nat.zero_le _)] at hlen
  refine goW ?_
  refine l_makeG T27 rfl T3 ?_
  refine l_heap (h' := H ++ [.row (zeros [.int .i64 0] h) true]) rfl ?_
  refine goW ?_
  refine wq_loop (fun c ρ hp => ∃ k, k ≤ h ∧ c = h - k ∧ Mine 1 intC H hp (.slc H.length 0 h h true 1) (fillTo (unit i ws xs) h k) ∧ ρ 0 = .ptr b 0 ∧ ρ 1 = x ∧ ρ 5 = .slc H.length 0 h h true 1 ∧ ρ 16 = .int .i64 h ∧ ρ 17 = .int .i64 (k : Nat)) ⟨0, Nat.zero_le _, rfl, hm0, rfl, rfl, rfl, rfl, rfl⟩ ?_
  rintro _ ρ hp ⟨k, hk, rfl, hm, h0, h1, h5, h16, h17⟩
  have hpre := hm.1
  refine goW ?_
  refine cond_go (fun hb => ?_) (fun hb => ?_)
  · have hk' : k < h := by simpa using hb
    clear hb
    obtain ⟨uu, c1, hu⟩ := unit_ hp b i h k w ws (hn.mono hpre) (hw.mono hpre) hs hi hh hk'
    have hul : ((ws.drop (k * (i + 1))).take i).length ≤ i := by simp; omega
    have c2 := vecSum_ hp uu x _ xs hu (hx.mono hpre) (by omega) (by omega)
    have c3 := fixAnd_ hp (ws.getD (k * (i + 1) + i) 0) (dot ((ws.drop (k * (i + 1))).take i) xs)
    obtain ⟨b2, o2, hq, hi2, hst, hm2⟩ := int_store hm (k := k) (by rw [fillTo_len hk]; exact hk') (unit i ws xs k)
    rw [fillTo_set hk'] at hm2
    have c4 : Call Try.prog 94 _ hp (.int .i64 (unit i ws xs k)) hp := c3
    have hw := wrap_succ (n := k) (by omega)
    clear c3 hul hpre hn hu hx l1
    refine goW ?_
    refine l_callG c1 ?_
    refine goW ?_
    refine l_callG c2 ?_
    refine goW ?_
    refine l_callG c4 ?_
    refine goW ?_
    refine ⟨h - (k + 1), by omega, k + 1, hk', rfl, hm2, ?_⟩
    simp [put_app, put_none, *]
  · have hk' : k = h := by have : ¬ k < h := by simpa using hb
                           omega
    subst hk'
    rw [fillTo_all] at hm
    clear hb
    refine goW ?_
    refine end_ret (by simp only [resRf, resRs, resR]; first | done | rfl) ?_
    simp only [put_app, put_none]
    simp only [Nat.reduceEqDiff, reduceIte, Option.some.injEq, reduceCtorEq, h5]
    exact hm

theorem acts_ (H : Heap) (x : V) (hs : List Int) (hx : Sl 1 intC H x hs) (hl : hs.length ≤ 2 ^ 40) :
    ∃ u H', Call Try.prog 122 [x] H u H' ∧ Mine 1 intC H H' u (acts hs) := by
  suffices hgoal : ∃ u H', Mine 1 intC H H' u (acts hs) ∧ Call Try.prog 122 [x] H u H' by
    obtain ⟨u, H', h1, h2⟩ := hgoal
    exact ⟨u, H', h2, h1⟩
  refine call_wq fit mixed Try.func122 rfl rfl rfl (by kernel_rfl) ?_
  obtain ⟨n, hn⟩ : ∃ n, hs.length = n := ⟨_, rfl⟩
  have hlen := hx.len T27 rfl
  rw [hn] at hlen
  obtain ⟨f, hf⟩ : ∃ f : Nat → Int, f = fun j => hard (hs.getD j 0) := ⟨_, rfl⟩
  have hall : (List.range n).map f = acts hs := by
    subst hf
    apply List.ext_getElem
    · simp [acts, hn]
    · intro j h1 h2
      simp [acts] at h2 ⊢
      simp [List.getD_eq_getElem?_getD, h2]
  have hm0 := int_make H n
  rw [← fillTo_zero f] at hm0
  refine goW ?_
  refine l_makeG T27 rfl T3 ?_
  refine l_heap (h' := H ++ [.row (zeros [.int .i64 0] n) true]) rfl ?_
  refine goW ?_
  refine wq_loop (fun c ρ hp => ∃ k, k ≤ n ∧ c = n - k ∧ Mine 1 intC H hp (.slc H.length 0 n n true 1) (fillTo f n k) ∧ ρ 3 = .slc H.length 0 n n true 1 ∧ ρ 9 = x ∧ ρ 10 = .int .i64 n ∧ ρ 11 = .int .i64 (k : Nat)) ⟨0, Nat.zero_le _, rfl, hm0, rfl, rfl, rfl, rfl⟩ ?_
  rintro _ ρ hp ⟨k, hk, rfl, hm, h3, h9, h10, h11⟩
  refine goW ?_
  refine cond_go (fun hb => ?_) (fun hb => ?_)
  · have hk' : k < n := by simpa using hb
    clear hb
    have hget := getD_some (xs := hs) (k := k) (by omega)
    obtain ⟨b, o, _, hi, rfl, _, hlo, _⟩ := (hx.mono hm.1).get T27 rfl T3 rfl hget
    have ho := loadV_one T3 rfl hlo
    obtain ⟨b2, o2, hq, hi2, hst, hm2⟩ := int_store hm (k := k) (by rw [fillTo_len hk]; exact hk') (f k)
    rw [fillTo_set hk'] at hm2
    have c1 := actHard_ hp (hs.getD k 0)
    have hfk : hard (hs.getD k 0) = f k := by rw [hf]
    rw [hfk] at c1
    have hw := wrap_succ (n := k) (by omega)
    clear hfk hf hall hx hget hlo hm0 hlen
    refine goW ?_
    refine l_callG c1 ?_
    refine goW ?_
    refine ⟨n - (k + 1), by omega, k + 1, hk', rfl, hm2, ?_⟩
    simp [put_app, put_none, *]
  · have hk' : k = n := by have : ¬ k < n := by simpa using hb
                           omega
    subst hk'
    rw [fillTo_all, hall] at hm
    clear hb hf
    refine goW ?_
    refine end_ret (by simp only [resRf, resRs, resR]; first | done | rfl) ?_
    simp only [put_app, put_none]
    simp only [Nat.reduceEqDiff, reduceIte, Option.some.injEq, reduceCtorEq, h3]
    exact hm

theorem tells_ (H : Heap) (b : Nat) (i h : Nat) (w x : V) (ws hs : List Int) (hn : NetAt H b i h w) (hw : Sl 1 intC H w ws) (hx : Sl 1 intC H x hs) (hsz : ws.length = netSize i h) (hi : i ≤ 3) (hh : h ≤ 3) (hxs : hs.length = h) :
    Call Try.prog 95 [.ptr b 0, x] H (.int .i64 (tells i h ws hs)) H := by
  refine call_plain fit mixed Try.func95 rfl rfl rfl (by kernel_rfl) rfl ?_
  obtain ⟨u, c1, hu⟩ := last_ H b i h w ws hn hw hsz hi hh
  obtain ⟨a, H1, c2, hm⟩ := acts_ H x hs hx (by omega)
  have c3 := vecSum_ H1 u a _ _ (hu.mono hm.1) hm.sl (by simp [acts]; omega) (by simp; omega)
  have c4 := fixAnd_ H1 (ws.getD (h * (i + 1) + h) 0) (dot ((ws.drop (h * (i + 1))).take h) (acts hs))
  have c5 : Call Try.prog 94 _ H1 (.int .i64 (tells i h ws hs)) H1 := c4
  have hp := hm.1
  clear c4 hm hn hw hx hsz hi hh hxs hu
  refine goW ?_
  refine l_callG c1 ?_
  refine goW ?_
  refine l_callG c2 ?_
  refine goW ?_
  refine l_callG c3 ?_
  refine goW ?_
  refine l_callG c5 ?_
  refine goW ?_
  refine end_ret (by simp only [resRf, resRs, resR]; first | done | rfl) ⟨?_, hp⟩
  simp [put_app, put_none]
end Go.Proofs.Ytekifjeckbndiaa.VM

/- Layer 6: what comes out of a net: the document's. -/
namespace Go.Proofs.Ytekifjeckbndiaa.VM
open Go
set_option linter.unusedVariables false
set_option linter.unusedSimpArgs false
attribute [local irreducible] wq wqL wqD wqE wqO Th Bk EndR
set_option maxHeartbeats 8000000

theorem vecMay_part {ws : List Int} (h : vecMay ws = true) (a n : Nat) : vecMay ((ws.drop a).take n) = true := by
  simp only [vecMay, Bool.and_eq_true, decide_eq_true_eq, List.all_eq_true] at h ⊢
  refine ⟨by simp; omega, fun x hx => h.2 x ?_⟩
  exact List.mem_of_mem_drop (List.mem_of_mem_take hx)
theorem vecMay_len {ws : List Int} (h : vecMay ws = true) : ws.length ≤ 16 := by
  simp only [vecMay, Bool.and_eq_true, decide_eq_true_eq] at h; exact h.1
theorem hard_may (x : Int) : fixMay (hard x) = true := by
  have := clip_mem x (a := -65536) (b := 65536) (by decide)
  unfold hard
  exact within_iff.2 ⟨by omega, by omega⟩
theorem vecMay_acts {hs : List Int} (h : hs.length ≤ 16) : vecMay (acts hs) = true := by
  simp only [vecMay, Bool.and_eq_true, decide_eq_true_eq, List.all_eq_true]
  refine ⟨by simpa [acts] using h, fun x hx => ?_⟩
  obtain ⟨y, _, rfl⟩ := List.mem_map.1 hx
  exact hard_may y
theorem fits_split {i h : Int} {ws : List Int} (hf : fits i h ws = true) : shapeMay i h = true ∧ vecMay ws = true ∧ ∃ i' h' : Nat, i = i' ∧ h = h' ∧ 1 ≤ i' ∧ i' ≤ 3 ∧ 1 ≤ h' ∧ h' ≤ 3 ∧ ws.length = netSize i' h' := by
  simp only [fits, Bool.and_eq_true, decide_eq_true_eq] at hf
  obtain ⟨⟨h1, h2⟩, h3⟩ := hf
  obtain ⟨i', h', rfl, rfl, a, b, c, d⟩ := shape_nat h1
  refine ⟨h1, h2, i', h', rfl, rfl, a, b, c, d, ?_⟩
  rw [← size_cast] at h3
  exact Int.ofNat_inj.1 h3
theorem feeds_split {i : Int} {xs : List Int} (hf : feeds i xs = true) : (xs.length : Int) = i ∧ vecMay xs = true := by
  simpa only [feeds, Bool.and_eq_true, decide_eq_true_eq] using hf

theorem refAct_ (H : Heap) (x : Int) (hx : fixMay x = true) : Call Try.prog 136 [.int .i64 x] H (.tup [.int .i64 (hard x), .int .i64 0]) H := by
  refine call_plain fit mixed Try.func136 rfl rfl rfl (by kernel_rfl) rfl ?_
  have c1 := refFixMay_ H x
  rw [hx] at c1
  have c2 := refWithin_ H x (-65536) 65536 (by decide)
  have c3 : Call Try.prog 127 _ H (.int .i64 (hard x)) H := c2
  clear hx c2
  refine goW ?_
  refine l_callG c1 ?_
  refine goW ?_
  refine cond_go (fun hb => ?_) (fun hb => ?_)
  · cases hb
  refine goW ?_
  refine l_callG c3 ?_
  refine goW ?_
  refine end_finG ?_; simp [put_app, put_none, *]

theorem int_append {B H : Heap} {v : V} {xs : List Int} (h : Mine 1 intC B H v xs) (y : Int) (hl : xs.length ≤ 2 ^ 40) :
    ∃ v' H', newsOf T (T 3).get! 27 (.slc H.length 0 1 1 true 1) (H ++ [.row [.int .i64 y] true]) = some (1, [.int .i64 y]) ∧ appendV (T 3).get! v 1 [.int .i64 y] (H ++ [.row [.int .i64 y] true]) = some (v', H') ∧ Mine 1 intC B H' v' (xs ++ [y]) := by
  obtain ⟨v', H', h1, h2⟩ := (h.pre (List.prefix_append H [.row [.int .i64 y] true])).append (ie := (T 3).get!) rfl (Cells.one (R := intC) (cs := [.int .i64 y]) (x := y) rfl rfl) ⟨by show (xs.length + 1) * 8 ≤ _; omega, by simp; omega⟩
  exact ⟨v', H', news_row T27 rfl (by decide) rfl, h1, h2⟩
theorem range_snoc (f : Nat → Int) (k : Nat) : (List.range k).map f ++ [f k] = (List.range (k + 1)).map f := by rw [List.range_succ, List.map_append]; rfl

theorem refActs_ (H : Heap) (x : V) (hs : List Int) (hx : Sl 1 intC H x hs) (hl : hs.length ≤ 2 ^ 40) (hmay : ∀ y ∈ hs, fixMay y = true) :
    ∃ u H', Call Try.prog 126 [x] H u H' ∧ Mine 1 intC H H' u (acts hs) := by
  suffices hgoal : ∃ u H', Mine 1 intC H H' u (acts hs) ∧ Call Try.prog 126 [x] H u H' by
    obtain ⟨u, H', h1, h2⟩ := hgoal
    exact ⟨u, H', h2, h1⟩
  refine call_wq fit mixed Try.func126 rfl rfl rfl (by kernel_rfl) ?_
  obtain ⟨n, hn⟩ : ∃ n, hs.length = n := ⟨_, rfl⟩
  have hlen := hx.len T27 rfl
  rw [hn] at hlen
  refine goW ?_
  refine wq_loop (fun c ρ hp => ∃ k u, k ≤ n ∧ c = n - k ∧ Mine 1 intC H hp u (acts (hs.take k)) ∧ ρ 0 = x ∧ ρ 3 = u ∧ ρ 4 = .int .i64 (k : Nat)) ⟨0, .nils, Nat.zero_le _, rfl, Mine.nil (List.prefix_refl _), rfl, rfl, rfl⟩ ?_
  rintro _ ρ hp ⟨k, u, hk, rfl, hm, h0, h3, h4⟩
  refine goW ?_
  refine cond_go (fun hb => ?_) (fun hb => ?_)
  · have hk' : k < n := by simpa using hb
    clear hb
    have hget := getD_some (xs := hs) (k := k) (by omega)
    obtain ⟨b, o, _, hi, rfl, _, hlo, _⟩ := (hx.mono hm.1).get T27 rfl T3 rfl hget
    have ho := loadV_one T3 rfl hlo
    have c1 := refAct_ hp (hs.getD k 0) (hmay _ (List.mem_iff_getElem?.2 ⟨k, hget⟩))
    obtain ⟨v', H', n1, a1, m1⟩ := int_append hm (hard (hs.getD k 0)) (by simp [acts]; omega)
    have hnext : acts (hs.take k) ++ [hard (hs.getD k 0)] = acts (hs.take (k + 1)) := by rw [List.take_add_one, hget]; simp [acts]
    rw [hnext] at m1
    have hw := wrap_succ (n := k) (by omega)
    clear hnext hx hget hlo hlen hm
    refine goW ?_
    refine l_callG c1 ?_
    refine goW ?_
    refine l_appendG n1 a1 ?_
    refine goW ?_
    refine ⟨n - (k + 1), by omega, k + 1, v', hk', rfl, m1, ?_⟩
    simp [put_app, put_none, *]
  · have hk' : k = n := by have : ¬ k < n := by simpa using hb
                           omega
    subst hk'
    rw [List.take_of_length_le (by omega)] at hm
    clear hb
    refine goW ?_
    refine end_ret (by simp only [resRf, resRs, resR]; first | done | rfl) ?_
    simp only [put_app, put_none]
    simp only [Nat.reduceEqDiff, reduceIte, Option.some.injEq, reduceCtorEq, h3]
    exact hm

theorem refRowMay_ (H : Heap) (i h y : Int) (x : V) (xs : List Int) (hx : Sl 1 intC H x xs) (hl : xs.length ≤ 2 ^ 47) : Call Try.prog 101 [.agg [.int .i64 i, .int .i64 h], .agg [x, .int .i64 y]] H (.bool (shapeMay i h && feeds i xs && fixMay y)) H := by
  refine call_plain fit mixed Try.func101 rfl rfl rfl (by kernel_rfl) rfl ?_
  have p1 : H <+: H ++ [.row [.int .i64 i, .int .i64 h] true] ++ [.row [x, .int .i64 y] true] := by rw [List.append_assoc]; exact List.prefix_append _ _
  obtain ⟨H1, hH1⟩ : ∃ H1, H ++ [.row [.int .i64 i, .int .i64 h] true] ++ [.row [x, .int .i64 y] true] = H1 := ⟨_, rfl⟩
  have l0 : loadV T 23 H1 H.length 0 = some (.agg [.int .i64 i, .int .i64 h]) := by
    refine loadV_agg T23 rfl ?_
    rw [← hH1, List.append_assoc, loadN_app0]; rfl
  have l1 : loadV T 27 H1 (H ++ [.row [.int .i64 i, .int .i64 h] true] : Heap).length 0 = some x := by
    refine loadV_one T27 rfl ?_
    rw [← hH1, loadN_app0]; rfl
  have l2 : loadV T 3 H1 (H ++ [.row [.int .i64 i, .int .i64 h] true] : Heap).length 1 = some (.int .i64 y) := by
    refine loadV_one T3 rfl ?_
    rw [← hH1, loadN_app0]; rfl
  rw [hH1] at p1
  have c1 := refShapeMay_ H1 i h
  have c2 := refFeeds_ H1 i h x xs (hx.mono p1) hl
  have c3 := refFixMay_ H1 y
  obtain ⟨r1, e1⟩ : ∃ r, shapeMay i h = r := ⟨_, rfl⟩
  obtain ⟨r2, e2⟩ : ∃ r, feeds i xs = r := ⟨_, rfl⟩
  rw [e1] at c1 ⊢
  rw [e2] at c2 ⊢
  clear e1 e2 hx
  refine goW ?_
  refine l_heap (h' := H1) hH1 ?_
  refine goW ?_
  refine l_callG c1 ?_
  cases r1
  · refine goW ?_
    refine end_finG ?_; simp [put_app, put_none, *]
  · refine goW ?_
    refine l_callG c2 ?_
    cases r2
    · refine goW ?_
      refine end_finG ?_; simp [put_app, put_none, *]
    · refine goW ?_
      refine l_callG c3 ?_
      refine goW ?_
      refine end_finG ?_; simp [put_app, put_none, *]
end Go.Proofs.Ytekifjeckbndiaa.VM

/- Layer 8: the program's Step, of what may be. -/
namespace Go.Proofs.Ytekifjeckbndiaa.VM
open Go
set_option linter.unusedVariables false
set_option linter.unusedSimpArgs false
attribute [local irreducible] wq wqL wqD wqE wqO Th Bk EndR
set_option maxHeartbeats 8000000

def speedK (mom : Int) (vs gs : List Int) (k : Nat) : Int := plus (times (vs.getD k 0) mom) (gs.getD k 0)
def nextK (rate mom : Int) (ws vs gs : List Int) (k : Nat) : Int := plus (ws.getD k 0) (neg (times rate (speedK mom vs gs k)))
def speedL (mom : Int) (ws vs gs : List Int) : List Int := (List.range ws.length).map (speedK mom vs gs)
def nextL (rate mom : Int) (ws vs gs : List Int) : List Int := (List.range ws.length).map (nextK rate mom ws vs gs)

theorem own_zero (H : Heap) (n : Nat) : Own 1 intC (H ++ [.row (zeros [.int .i64 0] n) true]) H.length (.slc H.length 0 n n true 1) (List.replicate n 0) := by
  have := own_make (t := true) H (cells_zeros (z := [.int .i64 0]) (R := intC) (x := 0) rfl rfl n)
  rw [List.length_replicate] at this
  exact this

theorem own_int {H : Heap} {b : Nat} {v : V} {xs : List Int} (ho : Own 1 intC H b v xs) {k : Nat} (hk : k < xs.length) (y : Int) :
    idxV T 27 v (k : Int) = some (.ptr b (k * 1)) ∧ ∃ H', storeV T 3 H b (k * 1) (.int .i64 y) = some H' ∧ Own 1 intC H' b v (xs.set k y) ∧ Fr b H H' := by
  obtain ⟨h1, h2⟩ := own_store ho T27 rfl T3 rfl hk
  exact ⟨h1, h2 (.int .i64 y) y rfl rfl rfl⟩
theorem own_ld {H : Heap} {b : Nat} {v : V} {xs : List Int} (ho : Own 1 intC H b v xs) {k : Nat} {y : Int} (hk : xs[k]? = some y) : loadV T 3 H b (k * 1) = some (.int .i64 y) := by
  obtain ⟨b', o', _, hi, rfl, _, hlo, _⟩ := ho.sl.get T27 rfl T3 rfl hk
  obtain ⟨h1, _⟩ := own_int ho (List.getElem?_eq_some_iff.1 hk).1 0
  rw [h1] at hi
  cases hi
  exact loadV_one T3 rfl hlo

end Go.Proofs.Ytekifjeckbndiaa.VM
