/- Joined texts: ConfC, NetD, NetE, OptA, NetG, NetH, NetI, BackA, BackB, TrainA, TrainB, RefA. -/
import Derived.Test.YtncjbjlmgnjhiaaGreatJC4
namespace Go.Proofs.YtncjbjlmgnjhiaaGreat.VM
open Go
set_option linter.unusedVariables false
set_option linter.unusedSimpArgs false
attribute [local irreducible] wq wqL wqD wqE wqO Th Bk EndR
set_option maxHeartbeats 8000000
theorem IV (H : Heap) (b : Nat) (m id : Int) (hb : H.loadN b 0 1 = some [.int .i64 m]) : Call Tryz.prog 92 [.ptr b 0, .int .i64 id] H (.bool (within id 0 (IntKind.i64.wrap (m - 1)))) H := by
 refine AJ fit mixed Tryz.func92 rfl rfl rfl (by kernel_rfl) rfl ?_
 have l0 := AF T3 rfl hb
 refine goW ?_
 refine AA (Fe _ _ _ _) ?_
 refine goW ?_
 refine Ai ?_; simp [AD, AB, *]
theorem YZ {u v : V} (h1 : u.cells = [u] ∧ u.isTup = false) (h2 : v.cells = [v] ∧ v.isTup = false) (z : V) : fillV (FG 1 2) (Bw [z] 2) [(0, u), (1, v)] = some [u, v] := by
 simp [fillV, FG, Bw, h1.1, h1.2, h2.1, h2.2, setL]
theorem UP {u v w : V} (h1 : u.cells = [u] ∧ u.isTup = false) (h2 : v.cells = [v] ∧ v.isTup = false) (h3 : w.cells = [w] ∧ w.isTup = false) (z : V) : fillV (FG 1 3) (Bw [z] 3) [(0, u), (1, v), (2, w)] = some [u, v, w] := by
 simp [fillV, FG, Bw, h1.1, h1.2, h2.1, h2.2, h3.1, h3.2, setL]
theorem MN : ∀ us : List V, Cells 1 bM us us
 | [] => Cells.nil
 | u :: us => Cells.cons (cs := [u]) rfl rfl (MN us)
def CT (ws vs : List Int) (r m t : Int) : Bool := (((alike ws.length [ws, vs] && decide (ws.length > 0)) && BK r m) && decide (t ≥ 0)) && decide (t ≤ 32)
abbrev Cb (w v : V) (r m t : Int) : List V := [w, v, .int .i64 r, .int .i64 m, .int .i64 t]
theorem NJ (H : Heap) (w v : V) (ws vs : List Int) (r m t : Int) (hw : Sl 1 AH H w ws) (hv : Sl 1 AH H v vs) (lw : ws.length ≤ 2 ^ 47) (lv : vs.length ≤ 2 ^ 47) : Call Tryz.prog 168 [.agg (Cb w v r m t)] H (.bool (CT ws vs r m t)) H := by
 refine AJ fit mixed Tryz.func168 rfl rfl rfl (by kernel_rfl) rfl ?_
 obtain ⟨H1, hH1⟩ : ∃ H1, H ++ [.row (Cb w v r m t) true] = H1 := ⟨_, rfl⟩
 have p1 : H <+: H1 := by rw [← hH1]; exact List.prefix_append _ _
 obtain ⟨H2, hH2⟩ : ∃ H2, H1 ++ [.row [w, v] true] = H2 := ⟨_, rfl⟩
 have p2 : H1 <+: H2 := by rw [← hH2]; exact List.prefix_append _ _
 have hg1 : H1[H.length]? = some (.row (Cb w v r m t) true) := by rw [← hH1]; simp
 have hg : H2[H.length]? = some (.row (Cb w v r m t) true) := CM p2 hg1
 have k0 := AU (q := 0) T27 rfl hg1 rfl
 have k1 := AU (q := 1) T27 rfl hg1 rfl
 have l0 := AU (q := 0) T27 rfl hg rfl
 have l4 := AU (q := 4) T3 rfl hg rfl
 have l2 : loadV T 80 H2 H.length 2 = some (.agg [.int .i64 r, .int .i64 m]) := by
  refine AZ T80 rfl (Bc p2 ?_)
  rw [← hH1, Ab]; rfl
 have hfill := YZ hw.cells hv.cells .AN
 have hlen := hw.len T27 rfl
 have hal : Sl 1 bM H2 (.slc H1.length 0 2 2 true 1) [w, v] := by rw [← hH2]; exact (JP H1 (MN [w, v])).sl
 have c1 := YA H2 _ [w, v] [ws, vs] ws.length hal rfl (by simp) (fun k u xs hu hx => by
  match k, hu, hx with
  | 0, hu, hx => simp at hu hx; subst hu; subst hx; exact ⟨hw.mono (p1.trans p2), lw⟩
  | 1, hu, hx => simp at hu hx; subst hu; subst hx; exact ⟨hv.mono (p1.trans p2), lv⟩
  | k + 2, hu, hx => simp at hu) (fun xs hx => by simp at hx; rw [hx])
 have c2 := MD H2 r m
 have pend := p1.trans p2
 unfold CT
 obtain ⟨r1, e1⟩ : ∃ q, alike ws.length [ws, vs] = q := ⟨_, rfl⟩
 obtain ⟨r2, e2⟩ : ∃ q, BK r m = q := ⟨_, rfl⟩
 rw [e1] at c1 ⊢
 rw [e2] at c2 ⊢
 have hd : decide ((ws.length : Int) > 0) = decide (ws.length > 0) := by apply Bool.eq_iff_iff.2; simp
 obtain ⟨r3, e3⟩ : ∃ q, decide (ws.length > 0) = q := ⟨_, rfl⟩
 obtain ⟨r4, e4⟩ : ∃ q, decide (t ≥ 0) = q := ⟨_, rfl⟩
 obtain ⟨r5, e5⟩ : ∃ q, decide (t ≤ 32) = q := ⟨_, rfl⟩
 rw [e3] at hd ⊢
 rw [e4, e5]
 clear e1 e2 e3 hw hv lw lv hg hg1 hal p1 p2
 refine goW ?_
 refine Bb (h' := H1) hH1 ?_
 refine goW ?_
 refine BC (Cy (ie := (T 27).get!) QX rfl T27 eLk (by decide) hfill) ?_
 refine Bb (h' := H2) hH2 ?_
 refine AA c1 ?_
 cases r1
 ·refine goW ?_
  refine AL (by simp only [resRf, resRs, resR]; first | done | rfl) ⟨?_, pend⟩
  simp [AD, AB]
 cases r3
 ·refine goW ?_
  refine AL (by simp only [resRf, resRs, resR]; first | done | rfl) ⟨?_, pend⟩
  simp [AD, AB]
 refine goW ?_
 refine AA c2 ?_
 cases r2
 ·refine goW ?_
  refine AL (by simp only [resRf, resRs, resR]; first | done | rfl) ⟨?_, pend⟩
  simp [AD, AB]
 cases r4
 ·refine goW ?_
  refine AL (by simp only [resRf, resRs, resR]; first | done | rfl) ⟨?_, pend⟩
  simp [AD, AB]
 refine goW ?_
 refine AL (by simp only [resRf, resRs, resR]; first | done | rfl) ⟨?_, pend⟩
 simp [AD, AB]
def BI (i h : Int) (ws vs : List Int) (r m t : Int) : Bool := CT ws vs r m t && fits i h ws
theorem Sp (H : Heap) (cb kb : Nat) (c : Cfg) (rv w v : V) (ws vs : List Int) (r m t : Int) (hc : H[cb]? = some (.row (BJ c rv) true)) (hk : H[kb]? = some (.row (Cb w v r m t) true)) (hw : Sl 1 AH H w ws) (hv : Sl 1 AH H v vs) (lw : ws.length ≤ 2 ^ 47) (lv : vs.length ≤ 2 ^ 47) :
  Call Tryz.prog 110 [.ptr cb 0, .ptr kb 0] H (.bool (BI c.i c.h ws vs r m t)) H := by
 refine AJ fit mixed Tryz.func110 rfl rfl rfl (by kernel_rfl) rfl ?_
 have l0 := Fx T82 rfl hk rfl
 have l1 : loadV T 23 H cb 1 = some (.agg [.int .i64 c.i, .int .i64 c.h]) := by
  refine AZ T23 rfl ?_
  unfold Heap.loadN
  rw [hc]; rfl
 have l2 := AU (q := 0) T27 rfl hk rfl
 have c1 := NJ H w v ws vs r m t hw hv lw lv
 have c2 := Gu H c.i c.h w ws hw lw
 unfold BI
 obtain ⟨r1, e1⟩ : ∃ q, CT ws vs r m t = q := ⟨_, rfl⟩
 rw [e1] at c1 ⊢
 clear e1 hw hv lw lv hc hk
 cases r1
 ·refine goW ?_
  refine AI c1 ?_
  refine goW ?_
  refine Ai ?_; simp [AD, AB, *]
 ·refine goW ?_
  refine AI c1 ?_
  refine goW ?_
  refine AI c2 ?_
  refine goW ?_
  refine Ai ?_; simp [AD, AB, *]
theorem Lm {i h k : Nat} (hk : k < h) : k * (i + 1) + i < h * (i + 1) := by
 have := Nat.mul_le_mul_right (i + 1) (Nat.succ_le_of_lt hk)
 rw [Nat.succ_mul] at this
 omega
theorem Cr {i h : Nat} (hi : i ≤ 3) (hh : h ≤ 3) : h * (i + 1) ≤ 12 := Nat.le_trans (Nat.mul_le_mul hh (Nat.add_le_add_right hi 1)) (by decide)
theorem getD_some {xs : List Int} {k : Nat} (h : k < xs.length) : xs[k]? = some (xs.getD k 0) := by simp [List.getD_eq_getElem?_getD, h]
theorem gP (H : Heap) (b : Nat) (i h k : Nat) (w : V) (ws : List Int) (hn : Iq H b i h w) (hw : Sl 1 AH H w ws) (hs : ws.length = BA i h) (hi : i ≤ 3) (hh : h ≤ 3) (hk : k < h) :
  ∃ u, Call Tryz.prog 220 [.ptr b 0, .int .i64 k] H (.tup [u, .int .i64 (ws.getD (k * (i + 1) + i) 0)]) H ∧ Sl 1 AH H u ((ws.drop (k * (i + 1))).take i) := by
 have hsm := Cr hi hh
 have hue := Lm (i := i) hk
 have hns : BA i h = h * (i + 1) + h + 1 := rfl
 obtain ⟨a, ha⟩ : ∃ a, k * (i + 1) = a := ⟨_, rfl⟩
 rw [ha] at hue ⊢
 obtain ⟨u, hu, hus⟩ := hw.part (l := a) (k := a + i) (by omega) (by omega)
 rw [List.drop_take, Nat.add_sub_cancel_left] at hus
 refine ⟨u, ?_, hus⟩
 have hget := getD_some (xs := ws) (k := a + i) (by omega)
 obtain ⟨b2, o2, _, hi2, rfl, _, hlo2, _⟩ := hw.get T27 rfl T3 rfl hget
 have ho2 := AF T3 rfl hlo2
 have l0 := AF T3 rfl hn.a0
 have l2 := AF T27 rfl hn.a2
 have w1 : IntKind.i64.wrap ((i : Int) + 1) = ((i + 1 : Nat) : Int) := AG (by omega)
 have w2 : IntKind.i64.wrap ((k : Int) * ((i + 1 : Nat) : Int)) = (a : Int) := by rw [← Int.natCast_mul, ha]; exact Am (by omega)
 have w3 : IntKind.i64.wrap ((a : Int) + (i : Int)) = ((a + i : Nat) : Int) := by rw [← Int.natCast_add]; exact Am (by omega)
 obtain ⟨r, hr⟩ : ∃ r, ws.getD (a + i) 0 = r := ⟨_, rfl⟩
 rw [hr] at ho2 ⊢
 clear hsm hue hns ha hus hget hr hs hi hh hk hlo2 hw hn
 suffices hh : ∃ v H', (v = .tup [u, .int .i64 r] ∧ H' = H) ∧ Call Tryz.prog 220 [.ptr b 0, .int .i64 k] H v H' by
  obtain ⟨v, H', ⟨rfl, rfl⟩, h4⟩ := hh
  exact h4
 refine CY fit mixed Tryz.func220 rfl rfl rfl (by kernel_rfl) ?_
 refine goW ?_
 refine AL (by simp only [resRf, resRs, resR]; first | done | rfl) ⟨?_, rfl⟩
 simp [AD, AB]
theorem dA (H : Heap) (b : Nat) (i h : Nat) (w : V) (ws : List Int) (hn : Iq H b i h w) (hw : Sl 1 AH H w ws) (hs : ws.length = BA i h) (hi : i ≤ 3) (hh : h ≤ 3) :
  ∃ u, Call Tryz.prog 193 [.ptr b 0] H (.tup [u, .int .i64 (ws.getD (h * (i + 1) + h) 0)]) H ∧ Sl 1 AH H u ((ws.drop (h * (i + 1))).take h) := by
 have hsm := Cr hi hh
 have hns : BA i h = h * (i + 1) + h + 1 := rfl
 obtain ⟨a, ha⟩ : ∃ a, h * (i + 1) = a := ⟨_, rfl⟩
 rw [ha] at hsm hns ⊢
 obtain ⟨u, hu, hus⟩ := hw.part (l := a) (k := a + h) (by omega) (by omega)
 rw [List.drop_take, Nat.add_sub_cancel_left] at hus
 refine ⟨u, ?_, hus⟩
 have hget := getD_some (xs := ws) (k := a + h) (by omega)
 obtain ⟨b2, o2, _, hi2, rfl, _, hlo2, _⟩ := hw.get T27 rfl T3 rfl hget
 have ho2 := AF T3 rfl hlo2
 have l0 := AF T3 rfl hn.a0
 have l1 := AF T3 rfl hn.a1
 have l2 := AF T27 rfl hn.a2
 have w1 : IntKind.i64.wrap ((i : Int) + 1) = ((i + 1 : Nat) : Int) := AG (by omega)
 have w2 : IntKind.i64.wrap ((h : Int) * ((i + 1 : Nat) : Int)) = (a : Int) := by rw [← Int.natCast_mul, ha]; exact Am (by omega)
 have w3 : IntKind.i64.wrap ((a : Int) + (h : Int)) = ((a + h : Nat) : Int) := by rw [← Int.natCast_add]; exact Am (by omega)
 obtain ⟨r, hr⟩ : ∃ r, ws.getD (a + h) 0 = r := ⟨_, rfl⟩
 rw [hr] at ho2 ⊢
 clear hsm hns ha hus hget hr hs hi hh hlo2 hw hn
 suffices hh : ∃ v H', (v = .tup [u, .int .i64 r] ∧ H' = H) ∧ Call Tryz.prog 193 [.ptr b 0] H v H' by
  obtain ⟨v, H', ⟨rfl, rfl⟩, h4⟩ := hh
  exact h4
 refine CY fit mixed Tryz.func193 rfl rfl rfl (by kernel_rfl) ?_
 refine goW ?_
 refine AL (by simp only [resRf, resRs, resR]; first | done | rfl) ⟨?_, rfl⟩
 simp [AD, AB]
def FU (f : Nat → Int) (n k : Nat) : List Int := (List.range k).map f ++ List.replicate (n - k) 0
theorem FV {f : Nat → Int} {n k : Nat} (h : k ≤ n) : (FU f n k).length = n := by simp [FU]; omega
theorem Gg {f : Nat → Int} {n k : Nat} (h : k < n) : (FU f n k).set k (f k) = FU f n (k + 1) := by
 unfold FU
 rw [List.range_succ, List.map_append, List.append_assoc]
 obtain ⟨m, hm⟩ : ∃ m, n - k = m + 1 := ⟨n - k - 1, by omega⟩
 have h2 : n - (k + 1) = m := by omega
 rw [hm, h2, List.replicate_succ, List.set_append_right _ _ (by simp)]
 simp
theorem HA (f : Nat → Int) (n : Nat) : FU f n 0 = List.replicate n 0 := by simp [FU]
theorem KM (f : Nat → Int) (n : Nat) : FU f n n = (List.range n).map f := by simp [FU]
theorem GR {B H : Heap} {v : V} {xs : List Int} (h : BR 1 AH B H v xs) {k : Nat} (hk : k < xs.length) (y : Int) :
  ∃ b o H', idxV T 27 v (k : Int) = some (.ptr b o) ∧ storeV T 3 H b o (.int .i64 y) = some H' ∧ BR 1 AH B H' v (xs.set k y) := by
 obtain ⟨b, o, h1, h2⟩ := h.store T27 rfl T3 rfl hk
 obtain ⟨H', h3, h4⟩ := h2 (.int .i64 y) y rfl rfl rfl
 exact ⟨b, o, H', h1, h3, h4⟩
theorem OB (H : Heap) (n : Nat) : BR 1 AH H (H ++ [.row (Bw [.int .i64 0] n) true]) (.slc H.length 0 n n true 1) (List.replicate n 0) := by
 have := Dj (t := true) (List.prefix_refl H) (Dv (z := [.int .i64 0]) (R := AH) (x := 0) rfl rfl n)
 rw [List.length_replicate] at this
 exact this
theorem Zw (H : Heap) (b : Nat) (i h : Nat) (w x : V) (ws xs : List Int) (hn : Iq H b i h w) (hw : Sl 1 AH H w ws) (hx : Sl 1 AH H x xs) (hs : ws.length = BA i h) (hi : i ≤ 3) (hh : h ≤ 3) (hxs : xs.length = i) :
  ∃ u H', Call Tryz.prog 190 [.ptr b 0, x] H u H' ∧ BR 1 AH H H' u (Et i h ws xs) := by
 suffices hgoal : ∃ u H', BR 1 AH H H' u (Et i h ws xs) ∧ Call Tryz.prog 190 [.ptr b 0, x] H u H' by
  obtain ⟨u, H', h1, h2⟩ := hgoal
  exact ⟨u, H', h2, h1⟩
 refine CY fit mixed Tryz.func190 rfl rfl rfl (by kernel_rfl) ?_
 have l1 := AF T3 rfl hn.a1
 have hm0 := OB H h
 rw [← HA (unit i ws xs)] at hm0
 have hlen := hm0.sl.len T27 rfl
 rw [FV (Nat.zero_le _)] at hlen
 refine goW ?_
 refine LN T27 rfl T3 ?_
 refine Bb (h' := H ++ [.row (Bw [.int .i64 0] h) true]) rfl ?_
 refine goW ?_
 refine AT (fun c ρ hp => ∃ k, k ≤ h ∧ c = h - k ∧ BR 1 AH H hp (.slc H.length 0 h h true 1) (FU (unit i ws xs) h k) ∧ ρ 0 = .ptr b 0 ∧ ρ 1 = x ∧ ρ 5 = .slc H.length 0 h h true 1 ∧ ρ 16 = .int .i64 h ∧ ρ 17 = .int .i64 (k : Nat)) ⟨0, Nat.zero_le _, rfl, hm0, rfl, rfl, rfl, rfl, rfl⟩ ?_
 rintro _ ρ hp ⟨k, hk, rfl, hm, h0, h1, h5, h16, h17⟩
 have hpre := hm.1
 refine goW ?_
 refine AE (fun hb => ?_) (fun hb => ?_)
 ·have hk' : k < h := by simpa using hb
  clear hb
  obtain ⟨uu, c1, hu⟩ := gP hp b i h k w ws (hn.mono hpre) (hw.mono hpre) hs hi hh hk'
  have hul : ((ws.drop (k * (i + 1))).take i).length ≤ i := by simp; omega
  have c2 := WQ hp uu x _ xs hu (hx.mono hpre) (by omega) (by omega)
  have c3 := HI hp (ws.getD (k * (i + 1) + i) 0) (dot ((ws.drop (k * (i + 1))).take i) xs)
  obtain ⟨b2, o2, hq, hi2, hst, hm2⟩ := GR hm (k := k) (by rw [FV hk]; exact hk') (unit i ws xs k)
  rw [Gg hk'] at hm2
  have c4 : Call Tryz.prog 191 _ hp (.int .i64 (unit i ws xs k)) hp := c3
  have hw := AG (n := k) (by omega)
  clear c3 hul hpre hn hu hx l1
  refine goW ?_
  refine AA c1 ?_
  refine goW ?_
  refine AA c2 ?_
  refine goW ?_
  refine AA c4 ?_
  refine goW ?_
  refine ⟨h - (k + 1), by omega, k + 1, hk', rfl, hm2, ?_⟩
  simp [AD, AB, *]
 ·have hk' : k = h := by have : ¬ k < h := by simpa using hb
                         omega
  subst hk'
  rw [KM] at hm
  clear hb
  refine goW ?_
  refine AL (by simp only [resRf, resRs, resR]; first | done | rfl) ?_
  simp only [AD, AB]
  simp only [Nat.reduceEqDiff, reduceIte, Option.some.injEq, reduceCtorEq, h5]
  exact hm
theorem cT (H : Heap) (x : V) (hs : List Int) (hx : Sl 1 AH H x hs) (hl : hs.length ≤ 2 ^ 40) :
  ∃ u H', Call Tryz.prog 196 [x] H u H' ∧ BR 1 AH H H' u (FM hs) := by
 suffices hgoal : ∃ u H', BR 1 AH H H' u (FM hs) ∧ Call Tryz.prog 196 [x] H u H' by
  obtain ⟨u, H', h1, h2⟩ := hgoal
  exact ⟨u, H', h2, h1⟩
 refine CY fit mixed Tryz.func196 rfl rfl rfl (by kernel_rfl) ?_
 obtain ⟨n, hn⟩ : ∃ n, hs.length = n := ⟨_, rfl⟩
 have hlen := hx.len T27 rfl
 rw [hn] at hlen
 obtain ⟨f, hf⟩ : ∃ f : Nat → Int, f = fun j => PQ (hs.getD j 0) := ⟨_, rfl⟩
 have hall : (List.range n).map f = FM hs := by
  subst hf
  apply List.ext_getElem
  ·simp [FM, hn]
  ·intro j h1 h2
   simp [FM] at h2 ⊢
   simp [List.getD_eq_getElem?_getD, h2]
 have hm0 := OB H n
 rw [← HA f] at hm0
 refine goW ?_
 refine LN T27 rfl T3 ?_
 refine Bb (h' := H ++ [.row (Bw [.int .i64 0] n) true]) rfl ?_
 refine goW ?_
 refine AT (fun c ρ hp => ∃ k, k ≤ n ∧ c = n - k ∧ BR 1 AH H hp (.slc H.length 0 n n true 1) (FU f n k) ∧ ρ 3 = .slc H.length 0 n n true 1 ∧ ρ 9 = x ∧ ρ 10 = .int .i64 n ∧ ρ 11 = .int .i64 (k : Nat)) ⟨0, Nat.zero_le _, rfl, hm0, rfl, rfl, rfl, rfl⟩ ?_
 rintro _ ρ hp ⟨k, hk, rfl, hm, h3, h9, h10, h11⟩
 refine goW ?_
 refine AE (fun hb => ?_) (fun hb => ?_)
 ·have hk' : k < n := by simpa using hb
  clear hb
  have hget := getD_some (xs := hs) (k := k) (by omega)
  obtain ⟨b, o, _, hi, rfl, _, hlo, _⟩ := (hx.mono hm.1).get T27 rfl T3 rfl hget
  have ho := AF T3 rfl hlo
  obtain ⟨b2, o2, hq, hi2, hst, hm2⟩ := GR hm (k := k) (by rw [FV hk]; exact hk') (f k)
  rw [Gg hk'] at hm2
  have c1 := Xy hp (hs.getD k 0)
  have hfk : PQ (hs.getD k 0) = f k := by rw [hf]
  rw [hfk] at c1
  have hw := AG (n := k) (by omega)
  clear hfk hf hall hx hget hlo hm0 hlen
  refine goW ?_
  refine AA c1 ?_
  refine goW ?_
  refine ⟨n - (k + 1), by omega, k + 1, hk', rfl, hm2, ?_⟩
  simp [AD, AB, *]
 ·have hk' : k = n := by have : ¬ k < n := by simpa using hb
                         omega
  subst hk'
  rw [KM, hall] at hm
  clear hb hf
  refine goW ?_
  refine AL (by simp only [resRf, resRs, resR]; first | done | rfl) ?_
  simp only [AD, AB]
  simp only [Nat.reduceEqDiff, reduceIte, Option.some.injEq, reduceCtorEq, h3]
  exact hm
theorem Zs (H : Heap) (b : Nat) (i h : Nat) (w x : V) (ws hs : List Int) (hn : Iq H b i h w) (hw : Sl 1 AH H w ws) (hx : Sl 1 AH H x hs) (hsz : ws.length = BA i h) (hi : i ≤ 3) (hh : h ≤ 3) (hxs : hs.length = h) :
  Call Tryz.prog 192 [.ptr b 0, x] H (.int .i64 (JZ i h ws hs)) H := by
 refine AJ fit mixed Tryz.func192 rfl rfl rfl (by kernel_rfl) rfl ?_
 obtain ⟨u, c1, hu⟩ := dA H b i h w ws hn hw hsz hi hh
 obtain ⟨a, H1, c2, hm⟩ := cT H x hs hx (by omega)
 have c3 := WQ H1 u a _ _ (hu.mono hm.1) hm.sl (by simp [FM]; omega) (by simp; omega)
 have c4 := HI H1 (ws.getD (h * (i + 1) + h) 0) (dot ((ws.drop (h * (i + 1))).take h) (FM hs))
 have c5 : Call Tryz.prog 191 _ H1 (.int .i64 (JZ i h ws hs)) H1 := c4
 have hp := hm.1
 clear c4 hm hn hw hx hsz hi hh hxs hu
 refine goW ?_
 refine AA c1 ?_
 refine goW ?_
 refine AA c2 ?_
 refine goW ?_
 refine AA c3 ?_
 refine goW ?_
 refine AA c5 ?_
 refine goW ?_
 refine AL (by simp only [resRf, resRs, resR]; first | done | rfl) ⟨?_, hp⟩
 simp [AD, AB]
theorem BP {ws : List Int} (h : BF ws = true) : ws.length ≤ 16 := by
 simp only [BF, Bool.and_eq_true, decide_eq_true_eq] at h; exact h.1
theorem Ej {i h : Int} {ws : List Int} (hf : fits i h ws = true) : BL i h = true ∧ BF ws = true ∧ ∃ i' h' : Nat, i = i' ∧ h = h' ∧ 1 ≤ i' ∧ i' ≤ 3 ∧ 1 ≤ h' ∧ h' ≤ 3 ∧ ws.length = BA i' h' := by
 simp only [fits, Bool.and_eq_true, decide_eq_true_eq] at hf
 obtain ⟨⟨h1, h2⟩, h3⟩ := hf
 obtain ⟨i', h', rfl, rfl, a, b, c, d⟩ := MZ h1
 refine ⟨h1, h2, i', h', rfl, rfl, a, b, c, d, ?_⟩
 rw [← GW] at h3
 exact Int.ofNat_inj.1 h3
theorem CC {i : Int} {xs : List Int} (hf : Dz i xs = true) : (xs.length : Int) = i ∧ BF xs = true := by
 simpa only [Dz, Bool.and_eq_true, decide_eq_true_eq] using hf
theorem Gl {B H : Heap} {v : V} {xs : List Int} (h : BR 1 AH B H v xs) (y : Int) (hl : xs.length ≤ 2 ^ 40) :
  ∃ v' H', newsOf T (T 3).get! 27 (.slc H.length 0 1 1 true 1) (H ++ [.row [.int .i64 y] true]) = some (1, [.int .i64 y]) ∧ appendV (T 3).get! v 1 [.int .i64 y] (H ++ [.row [.int .i64 y] true]) = some (v', H') ∧ BR 1 AH B H' v' (xs ++ [y]) := by
 obtain ⟨v', H', h1, h2⟩ := (h.pre (List.prefix_append H [.row [.int .i64 y] true])).append (ie := (T 3).get!) rfl (Cells.one (R := AH) (cs := [.int .i64 y]) (x := y) rfl rfl) ⟨by show (xs.length + 1) * 8 ≤ _; omega, by simp; omega⟩
 exact ⟨v', H', OQ T27 rfl (by decide) rfl, h1, h2⟩
theorem Ob (H : Heap) (i h y : Int) (x : V) (xs : List Int) (hx : Sl 1 AH H x xs) (hl : xs.length ≤ 2 ^ 47) : Call Tryz.prog 140 [.agg [.int .i64 i, .int .i64 h], .agg [x, .int .i64 y]] H (.bool (BL i h && Dz i xs && CA y)) H := by
 refine AJ fit mixed Tryz.func140 rfl rfl rfl (by kernel_rfl) rfl ?_
 have p1 : H <+: H ++ [.row [.int .i64 i, .int .i64 h] true] ++ [.row [x, .int .i64 y] true] := by rw [List.append_assoc]; exact List.prefix_append _ _
 obtain ⟨H1, hH1⟩ : ∃ H1, H ++ [.row [.int .i64 i, .int .i64 h] true] ++ [.row [x, .int .i64 y] true] = H1 := ⟨_, rfl⟩
 have l0 : loadV T 23 H1 H.length 0 = some (.agg [.int .i64 i, .int .i64 h]) := by
  refine AZ T23 rfl ?_
  rw [← hH1, List.append_assoc, Ab]; rfl
 have l1 : loadV T 27 H1 (H ++ [.row [.int .i64 i, .int .i64 h] true] : Heap).length 0 = some x := by
  refine AF T27 rfl ?_
  rw [← hH1, Ab]; rfl
 have l2 : loadV T 3 H1 (H ++ [.row [.int .i64 i, .int .i64 h] true] : Heap).length 1 = some (.int .i64 y) := by
  refine AF T3 rfl ?_
  rw [← hH1, Ab]; rfl
 rw [hH1] at p1
 have c1 := GL H1 i h
 have c2 := QF H1 i h x xs (hx.mono p1) hl
 have c3 := Il H1 y
 obtain ⟨r1, e1⟩ : ∃ r, BL i h = r := ⟨_, rfl⟩
 obtain ⟨r2, e2⟩ : ∃ r, Dz i xs = r := ⟨_, rfl⟩
 rw [e1] at c1 ⊢
 rw [e2] at c2 ⊢
 clear e1 e2 hx
 refine goW ?_
 refine Bb (h' := H1) hH1 ?_
 refine goW ?_
 refine AA c1 ?_
 cases r1
 ·refine goW ?_
  refine Ai ?_; simp [AD, AB, *]
 ·refine goW ?_
  refine AA c2 ?_
  cases r2
  ·refine goW ?_
   refine Ai ?_; simp [AD, AB, *]
  ·refine goW ?_
   refine AA c3 ?_
   refine goW ?_
   refine Ai ?_; simp [AD, AB, *]
def Em (mom : Int) (vs gs : List Int) (k : Nat) : Int := plus (times (vs.getD k 0) mom) (gs.getD k 0)
def LQ (rate mom : Int) (ws vs gs : List Int) (k : Nat) : Int := plus (ws.getD k 0) (neg (times rate (Em mom vs gs k)))
def FY (mom : Int) (ws vs gs : List Int) : List Int := (List.range ws.length).map (Em mom vs gs)
def IC (rate mom : Int) (ws vs gs : List Int) : List Int := (List.range ws.length).map (LQ rate mom ws vs gs)
theorem TC (H : Heap) (n : Nat) : Own 1 AH (H ++ [.row (Bw [.int .i64 0] n) true]) H.length (.slc H.length 0 n n true 1) (List.replicate n 0) := by
 have := JP (t := true) H (Dv (z := [.int .i64 0]) (R := AH) (x := 0) rfl rfl n)
 rw [List.length_replicate] at this
 exact this
theorem RM {H : Heap} {b : Nat} {v : V} {xs : List Int} (ho : Own 1 AH H b v xs) {k : Nat} (hk : k < xs.length) (y : Int) :
  idxV T 27 v (k : Int) = some (.ptr b (k * 1)) ∧ ∃ H', storeV T 3 H b (k * 1) (.int .i64 y) = some H' ∧ Own 1 AH H' b v (xs.set k y) ∧ Fr b H H' := by
 obtain ⟨h1, h2⟩ := ID ho T27 rfl T3 rfl hk
 exact ⟨h1, h2 (.int .i64 y) y rfl rfl rfl⟩
theorem eW {H : Heap} {b : Nat} {v : V} {xs : List Int} (ho : Own 1 AH H b v xs) {k : Nat} {y : Int} (hk : xs[k]? = some y) : loadV T 3 H b (k * 1) = some (.int .i64 y) := by
 obtain ⟨b', o', _, hi, rfl, _, hlo, _⟩ := ho.sl.get T27 rfl T3 rfl hk
 obtain ⟨h1, _⟩ := RM ho (List.getElem?_eq_some_iff.1 hk).1 0
 rw [h1] at hi
 cases hi
 exact AF T3 rfl hlo
theorem ZM (H : Heap) (w v g : V) (ws vs gs : List Int) (r m : Int) (hw : Sl 1 AH H w ws) (hv : Sl 1 AH H v vs) (hg : Sl 1 AH H g gs) (hal : alike ws.length [ws, vs, gs] = true) (hhy : BK r m = true) :
  ∃ u1 u2 H' b1 b2, Call Tryz.prog 144 [w, v, g, .agg [.int .i64 r, .int .i64 m]] H (.tup [u1, u2, .int .i64 0]) H' ∧ H <+: H' ∧ H.length ≤ b1 ∧ H.length ≤ b2 ∧ b1 ≠ b2 ∧ Own 1 AH H' b1 u1 (IC r m ws vs gs) ∧ Own 1 AH H' b2 u2 (FY m ws vs gs) := by
 suffices hgoal : ∃ u H', (∃ u1 u2 b1 b2, u = .tup [u1, u2, .int .i64 0] ∧ H <+: H' ∧ H.length ≤ b1 ∧ H.length ≤ b2 ∧ b1 ≠ b2 ∧ Own 1 AH H' b1 u1 (IC r m ws vs gs) ∧ Own 1 AH H' b2 u2 (FY m ws vs gs)) ∧ Call Tryz.prog 144 [w, v, g, .agg [.int .i64 r, .int .i64 m]] H u H' by
  obtain ⟨_, H', ⟨u1, u2, b1, b2, rfl, h1⟩, h2⟩ := hgoal
  exact ⟨u1, u2, H', b1, b2, h2, h1⟩
 refine CY fit mixed Tryz.func144 rfl rfl rfl (by kernel_rfl) ?_
 have hal' := hal
 simp only [alike, List.all_cons, List.all_nil, Bool.and_true, Bool.and_eq_true, decide_eq_true_eq, true_and] at hal'
 obtain ⟨hvw, ⟨hvv, hlv⟩, hvg, hlg⟩ := hal'
 have hlw := BP hvw.1
 obtain ⟨n, hn⟩ : ∃ n, ws.length = n := ⟨_, rfl⟩
 rw [hn] at hlv hlg hlw
 obtain ⟨H1, hH1⟩ : ∃ H1, H ++ [.row [.int .i64 r, .int .i64 m] true] = H1 := ⟨_, rfl⟩
 have p1 : H <+: H1 := by rw [← hH1]; exact List.prefix_append _ _
 obtain ⟨H2, hH2⟩ : ∃ H2, H1 ++ [.row [w, v, g] true] = H2 := ⟨_, rfl⟩
 have p2 : H1 <+: H2 := by rw [← hH2]; exact List.prefix_append _ _
 have hg1 : H1[H.length]? = some (.row [.int .i64 r, .int .i64 m] true) := by rw [← hH1]; simp
 have hg2 := CM p2 hg1
 have l0 := Fx T80 rfl hg2 rfl
 have hfill := UP hw.cells hv.cells hg.cells .AN
 have hsl : Sl 1 bM H2 (.slc H1.length 0 3 3 true 1) [w, v, g] := by rw [← hH2]; exact (JP H1 (MN [w, v, g])).sl
 have c1 := YA H2 _ [w, v, g] [ws, vs, gs] ws.length hsl rfl (by simp) (fun k u xs hu hx => by
  match k, hu, hx with
  | 0, hu, hx => simp at hu hx; subst hu; subst hx; exact ⟨hw.mono (p1.trans p2), by omega⟩
  | 1, hu, hx => simp at hu hx; subst hu; subst hx; exact ⟨hv.mono (p1.trans p2), by omega⟩
  | 2, hu, hx => simp at hu hx; subst hu; subst hx; exact ⟨hg.mono (p1.trans p2), by omega⟩
  | k + 3, hu, hx => simp at hu) (fun xs hx => by simp at hx; rw [hx])
 rw [hal] at c1
 have c2 := TA H2 r m
 rw [hhy] at c2
 have hlen := hw.len T27 rfl
 rw [hn] at hlen
 have hlen2 := hv.len T27 rfl
 rw [hlv] at hlen2
 obtain ⟨H3, hH3⟩ : ∃ H3, H2 ++ [.row (Bw [.int .i64 0] n) true] = H3 := ⟨_, rfl⟩
 have p3 : H2 <+: H3 := by rw [← hH3]; exact List.prefix_append _ _
 obtain ⟨H4, hH4⟩ : ∃ H4, H3 ++ [.row (Bw [.int .i64 0] n) true] = H4 := ⟨_, rfl⟩
 have p4 : H3 <+: H4 := by rw [← hH4]; exact List.prefix_append _ _
 have o1 : Own 1 AH H4 H2.length (.slc H2.length 0 n n true 1) (List.replicate n 0) := by have := TC H2 n; rw [hH3] at this; exact this.pre p4
 have o2 : Own 1 AH H4 H3.length (.slc H3.length 0 n n true 1) (List.replicate n 0) := by have := TC H3 n; rw [hH4] at this; exact this
 rw [← HA (LQ r m ws vs gs)] at o1
 rw [← HA (Em m vs gs)] at o2
 have hb12 : H2.length ≠ H3.length := by rw [← hH3]; simp
 have hb1 : H.length ≤ H2.length := (p1.trans p2).length_le
 have hb2 : H.length ≤ H3.length := ((p1.trans p2).trans p3).length_le
 have hbh : H.length < H2.length := by rw [← hH2, ← hH1]; simp
 have hbh3 : H.length < H3.length := by have := p3.length_le; omega
 have p04 : H <+: H4 := (p1.trans p2).trans (p3.trans p4)
 have hg4 : H4[H.length]? = some (.row [.int .i64 r, .int .i64 m] true) := CM (p3.trans p4) hg2
 unfold IC FY
 rw [hn]
 obtain ⟨x1, hx1⟩ : ∃ x1, V.slc H2.length 0 n n true 1 = x1 := ⟨_, rfl⟩
 obtain ⟨x2, hx2⟩ : ∃ x2, V.slc H3.length 0 n n true 1 = x2 := ⟨_, rfl⟩
 rw [hx1] at o1
 rw [hx2] at o2
 obtain ⟨bb1, hbb1⟩ : ∃ b, H2.length = b := ⟨_, rfl⟩
 obtain ⟨bb2, hbb2⟩ : ∃ b, H3.length = b := ⟨_, rfl⟩
 rw [hbb1] at o1 hb12 hb1 hbh
 rw [hbb2] at o2 hb12 hb2 hbh3
 clear hal hhy hvw hvv hvg p2 p3 p4 hg1 hg2 hsl hbb1 hbb2
 refine goW ?_
 refine Bb (h' := H1) hH1 ?_
 refine goW ?_
 refine BC (Cy (ie := (T 27).get!) QX rfl T27 eLk (by decide) hfill) ?_
 refine Bb (h' := H2) hH2 ?_
 refine AA c1 ?_
 refine goW ?_
 refine AA c2 ?_
 refine goW ?_
 refine AE (fun hb => ?_) (fun hb => ?_)
 ·cases hb
 clear hb c1 c2 l0 hfill
 refine Kl (fun ρ => ρ 0 = w ∧ ρ 1 = v ∧ ρ 2 = g ∧ ρ 7 = .ptr H.length 0) ⟨rfl, rfl, rfl, rfl⟩ ?_
 rintro ρ ⟨h0, h1, h2, h7⟩
 refine goW ?_
 refine CU (Fs T27 rfl T3 eLk eLk (by simp only [IntKind.max, IntKind.signed, IntKind.bits]; omega)) ?_
 refine UH (h' := H3) hH3 ?_
 refine goW ?_
 refine CU (Fs T27 rfl T3 eLk eLk (by simp only [IntKind.max, IntKind.signed, IntKind.bits]; omega)) ?_
 refine UH (h' := H4) hH4 ?_
 refine goW ?_
 refine AT (fun c ρ hp => ∃ k, k ≤ n ∧ c = n - k ∧ H <+: hp ∧ hp[H.length]? = some (.row [.int .i64 r, .int .i64 m] true) ∧ Own 1 AH hp bb1 x1 (FU (LQ r m ws vs gs) n k) ∧ Own 1 AH hp bb2 x2 (FU (Em m vs gs) n k) ∧
  ρ 0 = w ∧ ρ 2 = g ∧ ρ 7 = .ptr H.length 0 ∧ ρ 11 = x1 ∧ ρ 12 = x2 ∧ ρ 32 = v ∧ ρ 33 = .int .i64 n ∧ ρ 34 = .int .i64 (k : Nat)) ⟨0, Nat.zero_le _, rfl, p04, hg4, o1, o2, h0, h2, h7, by rw [← hx1]; rfl, by rw [← hx2]; rfl, rfl, rfl, rfl⟩ ?_
 clear h0 h1 h2 h7 o1 o2 hg4 p04 hH3 hH4 hx1 hx2
 clear ρ
 rintro _ ρ hp ⟨k, hk, rfl, pp, hgk, o1, o2, h0, h2, h7, h11, h12, h32, h33, h34⟩
 refine goW ?_
 refine AE (fun hb => ?_) (fun hb => ?_)
 ·have hk' : k < n := by simpa using hb
  clear hb
  have hg1 := getD_some (xs := vs) (k := k) (by omega)
  obtain ⟨b3, o3, _, hi3, rfl, _, hlo3, _⟩ := (hv.mono pp).get T27 rfl T3 rfl hg1
  have ho3 := AF T3 rfl hlo3
  have hg2 := getD_some (xs := gs) (k := k) (by omega)
  obtain ⟨b4, o4, _, hi4, rfl, _, hlo4, _⟩ := (hg.mono pp).get T27 rfl T3 rfl hg2
  have ho4 := AF T3 rfl hlo4
  have lm := AU (q := 1) T3 rfl hgk rfl
  obtain ⟨ix2, hp2, st2, q2, fr2⟩ := RM o2 (k := k) (by rw [FV hk]; exact hk') (Em m vs gs k)
  rw [Gg hk'] at q2
  have pp2 : H <+: hp2 := fr2.pre pp hb2
  have hlp := pp.length_le
  have hgl := (List.getElem?_eq_some_iff.1 hgk).1
  have hgk2 : hp2[H.length]? = some (.row [.int .i64 r, .int .i64 m] true) := by rw [fr2.2 _ hgl (by omega)]; exact hgk
  have q1 := fr2.own hb12 o1
  have lsp := eW q2 (k := k) (y := Em m vs gs k) (by rw [← Gg hk', List.getElem?_set_self (by rw [FV hk]; exact hk')])
  have hg5 := getD_some (xs := ws) (k := k) (by omega)
  obtain ⟨b5, o5, _, hi5, rfl, _, hlo5, _⟩ := (hw.mono pp2).get T27 rfl T3 rfl hg5
  have ho5 := AF T3 rfl hlo5
  have lr := AU (q := 0) T3 rfl hgk2 rfl
  obtain ⟨ix1, hp3, st1, q3, fr1⟩ := RM q1 (k := k) (by rw [FV hk]; exact hk') (LQ r m ws vs gs k)
  rw [Gg hk'] at q3
  have pp3 : H <+: hp3 := fr1.pre pp2 hb1
  have hgl2 := (List.getElem?_eq_some_iff.1 hgk2).1
  have hgk3 : hp3[H.length]? = some (.row [.int .i64 r, .int .i64 m] true) := by rw [fr1.2 _ hgl2 (by omega)]; exact hgk2
  have q4 := fr1.own hb12.symm q2
  have c1 := Dh hp (vs.getD k 0) m
  have c2 : Call Tryz.prog 191 [.int .i64 (times (vs.getD k 0) m), .int .i64 (gs.getD k 0)] hp (.int .i64 (Em m vs gs k)) hp := HI hp _ _
  have c3 := Dh hp2 r (Em m vs gs k)
  have c4 : Call Tryz.prog 191 [.int .i64 (ws.getD k 0), .int .i64 (IntKind.i64.wrap (0 - times r (Em m vs gs k)))] hp2 (.int .i64 (LQ r m ws vs gs k)) hp2 := HI hp2 _ _
  have hw1 := AG (n := k) (by omega)
  clear o1 o2 q1 q2 fr1 fr2 hgl hgl2 hlp hlo3 hlo4 hlo5 hg1 hg2 hg5 hgk hgk2 pp pp2
  refine goW ?_
  refine AI c1 ?_
  refine goW ?_
  refine AI c2 ?_
  refine goW ?_
  refine AI c3 ?_
  refine goW ?_
  refine AI c4 ?_
  refine goW ?_
  refine ⟨n - (k + 1), by omega, k + 1, hk', rfl, pp3, hgk3, q3, q4, ?_⟩
  simp [AD, AB, *]
 ·have hk' : k = n := by have : ¬ k < n := by simpa using hb
                         omega
  subst hk'
  rw [KM] at o1 o2
  clear hb hgk
  refine goW ?_
  refine AL (by simp only [resRf, resRs, resR]; first | done | rfl) ⟨x1, x2, bb1, bb2, ?_, pp, hb1, hb2, hb12, o1, o2⟩
  simp [AD, AB, *]
theorem Sd {B H : Heap} {v u : V} {xs zs : List Int} (h : BR 1 AH B H v xs) (hu : Sl 1 AH H u zs) (hap : Fb v u) (y : Int) (hl : xs.length ≤ 2 ^ 40) :
  ∃ v' H', newsOf T (T 3).get! 27 (.slc H.length 0 1 1 true 1) (H ++ [.row [.int .i64 y] true]) = some (1, [.int .i64 y]) ∧ appendV (T 3).get! v 1 [.int .i64 y] (H ++ [.row [.int .i64 y] true]) = some (v', H') ∧ BR 1 AH B H' v' (xs ++ [y]) ∧ Sl 1 AH H' u zs ∧ Fb v' u := by
 have hn : newsOf T (T 3).get! 27 (.slc H.length 0 1 1 true 1) (H ++ [.row [.int .i64 y] true]) = some (1, [.int .i64 y]) := OQ T27 rfl (by decide) rfl
 have hc : Cells 1 AH [.int .i64 y] [y] := Cells.one (R := AH) (cs := [.int .i64 y]) (x := y) rfl rfl
 have h' := h.pre (List.prefix_append H [.row [.int .i64 y] true])
 have hu' := hu.mono (List.prefix_append H [.row [.int .i64 y] true])
 have hlt : ∀ c, u.blk = some c → c < H.length := fun c hc => hu.lt hc
 obtain ⟨hp, h'⟩ := h'
 rcases h' with ⟨rfl, rfl⟩ | ⟨b, hb1, ho⟩
 ·have hp2 : H <+: H ++ [.row [.int .i64 y] true] ++ [.row [.int .i64 y] true] := by rw [List.append_assoc]; exact List.prefix_append _ _
  refine ⟨.slc (H ++ [.row [.int .i64 y] true] : Heap).length 0 1 1 false 1, H ++ [.row [.int .i64 y] true] ++ [.row [.int .i64 y] true], hn, by rfl, Dj (xs := [y]) hp hc, hu.mono hp2, fun b c hb hc' => ?_⟩
  have := hlt c hc'
  simp only [V.blk, Option.some.injEq] at hb
  simp at hb
  omega
 ·obtain ⟨v', b', H', e1, e2, e3, e4⟩ := Ka (ie := (T 3).get!) ho rfl hc ⟨by show (xs.length + 1) * 8 ≤ _; omega, by simp; omega⟩
  have hvb : v.blk = some b := by obtain ⟨cap, t, cs, rfl, _⟩ := ho; rfl
  refine ⟨v', H', hn, e1, ⟨e3.pre hp hb1, .inr ⟨b', ?_, e2⟩⟩, hu'.fr fun c hc1 hc2 => e3.2 c hc1 fun h => hap b c hvb hc2 h.symm, fun b1 c hb hc' => ?_⟩
  ·have := hp.length_le; omega
  ·have hv : v'.blk = some b' := by obtain ⟨cap, t, cs, rfl, _⟩ := e2; rfl
   rw [hv] at hb
   cases hb
   rcases e4 with rfl | e4
   ·exact hap _ _ hvb hc'
   ·have := hlt c hc'
    simp at e4
    omega
theorem Ly (f : Nat → List Int) (k : Nat) : (List.range k).flatMap f ++ f k = (List.range (k + 1)).flatMap f := by
 rw [List.range_succ, List.flatMap_append]; simp
theorem Fg {f : Nat → List Int} {n : Nat} (hf : ∀ k, (f k).length = n) : ∀ k, ((List.range k).flatMap f).length = k * n
 | 0 => by simp
 | k + 1 => by rw [← Ly, List.length_append, Fg hf k, hf, Nat.add_mul]; omega
theorem Wk (H : Heap) (i h : Nat) (y : Int) (w x : V) (ws xs : List Int) (hw : Sl 1 AH H w ws) (hx : Sl 1 AH H x xs) (hf : fits i h ws = true) (hfeed : Dz i xs = true) (hy : CA y = true) :
  ∃ u H', Call Tryz.prog 143 [.agg [.int .i64 i, .int .i64 h], w, .agg [x, .int .i64 y]] H (.tup [u, .int .i64 0]) H' ∧ BR 1 AH H H' u (KT i h ws xs y) := by
 suffices hgoal : ∃ v H', (∃ u, v = .tup [u, .int .i64 0] ∧ BR 1 AH H H' u (KT i h ws xs y)) ∧ Call Tryz.prog 143 [.agg [.int .i64 i, .int .i64 h], w, .agg [x, .int .i64 y]] H v H' by
  obtain ⟨_, H', ⟨u, rfl, h1⟩, h2⟩ := hgoal
  exact ⟨u, H', h2, h1⟩
 refine CY fit mixed Tryz.func143 rfl rfl rfl (by kernel_rfl) ?_
 obtain ⟨hsm, hvw, i', h', hi', hh', hi1, hi2, hh1, hh2, hs⟩ := Ej hf
 obtain rfl : i = i' := Int.ofNat_inj.1 hi'
 obtain rfl : h = h' := Int.ofNat_inj.1 hh'
 obtain ⟨hxl, hvx⟩ := CC hfeed
 have hxl' : xs.length = i := Int.ofNat_inj.1 hxl
 have hwl := BP hvw
 have hsmall := Cr hi2 hh2
 obtain ⟨H1, hH1⟩ : ∃ H1, H ++ [.row [.int .i64 i, .int .i64 h] true] ++ [.row [x, .int .i64 y] true] = H1 := ⟨_, rfl⟩
 have p1 : H <+: H1 := by rw [← hH1, List.append_assoc]; exact List.prefix_append _ _
 have l0 : loadV T 23 H1 H.length 0 = some (.agg [.int .i64 i, .int .i64 h]) := by
  refine AZ T23 rfl ?_
  rw [← hH1, List.append_assoc, Ab]; rfl
 obtain ⟨rb, hrb⟩ : ∃ rb, (H ++ [.row [.int .i64 i, .int .i64 h] true] : Heap).length = rb := ⟨_, rfl⟩
 have q0 : ∀ H2, H1 <+: H2 → loadV T 27 H2 rb 0 = some x := fun H2 hp => by
  refine AF T27 rfl (Bc hp ?_)
  rw [← hH1, ← hrb, Ab]; rfl
 have q1 : ∀ H2, H1 <+: H2 → loadV T 3 H2 rb 1 = some (.int .i64 y) := fun H2 hp => by
  refine AF T3 rfl (Bc hp ?_)
  rw [← hH1, ← hrb, Ab]; rfl
 obtain ⟨b, H2, c1, p2, hn⟩ := iC H1 i h w x ws xs (hw.mono p1) (hx.mono p1) (by omega) (by omega)
 rw [hf, hfeed] at c1
 have c2 := Qn H2 y
 rw [hy] at c2
 have l1 := q0 H1 (List.prefix_refl _)
 have l2 := q1 H2 p2
 have l3 := q0 H2 p2
 obtain ⟨u10, H3, c3, hm10⟩ := Zw H2 b i h w x ws xs hn (hw.mono (p1.trans p2)) (hx.mono (p1.trans p2)) hs hi2 hh2 hxl'
 have p3 : H2 <+: H3 := hm10.1
 have p13 : H1 <+: H3 := p2.trans p3
 have p03 : H <+: H3 := p1.trans p13
 have l4 := q1 H3 p13
 obtain ⟨us, hus⟩ : ∃ us, Et i h ws xs = us := ⟨_, rfl⟩
 rw [hus] at hm10
 have husl : us.length = h := by rw [← hus]; simp [Et]
 have c4 := Zs H3 b i h w u10 ws us (hn.mono p3) (hw.mono p03) hm10.sl hs hi2 hh2 husl
 have c5 := HI H3 (JZ i h ws us) (IntKind.i64.wrap (0 - y))
 obtain ⟨e, he⟩ : ∃ e, plus (JZ i h ws us) (neg y) = e := ⟨_, rfl⟩
 have c5' : Call Tryz.prog 191 [.int .i64 (JZ i h ws us), .int .i64 (IntKind.i64.wrap (0 - y))] H3 (.int .i64 e) H3 := by rw [← he]; exact c5
 obtain ⟨la, c6, hla⟩ := dA H3 b i h w ws (hn.mono p3) (hw.mono p03) hs hi2 hh2
 have hlenu := hm10.sl.len T27 rfl
 rw [husl] at hlenu
 have hgr : KT i h ws xs y = (List.range h).flatMap (CR i h ws xs e us) ++ ((FM us).map (fun a => times e a) ++ [e]) := by
  unfold KT; simp only [hus, he]
 have hrl : ∀ k, (CR i h ws xs e us k).length = i + 1 := fun k => by simp [CR, hxl']
 rw [hgr]
 have hH1' := hH1
 clear c5 he hgr hus hf hfeed hy hi' hh'
 refine goW ?_
 refine Bb (h' := H1) hH1' ?_
 rw [hrb]
 refine goW ?_
 refine AA c1 ?_
 refine goW ?_
 refine AA c2 ?_
 refine goW ?_
 refine AE (fun hb => ?_) (fun hb => ?_)
 ·cases hb
 clear hb c1 c2 l0 l1
 refine Kl (fun ρ => ρ 5 = .ptr rb 0 ∧ ρ 8 = .ptr b 0) ⟨rfl, rfl⟩ ?_
 rintro ρ ⟨h5, h8⟩
 refine goW ?_
 refine AA c3 ?_
 refine goW ?_
 refine AI c4 ?_
 refine goW ?_
 refine AI c5' ?_
 refine goW ?_
 refine AA c6 ?_
 refine goW ?_
 clear l2 l3 l4 c3 c4 c5' c6 hlenu
 refine AT (fun c ρ hp => ∃ k v, k ≤ h ∧ c = h - k ∧ BR 1 AH H3 hp v ((List.range k).flatMap (CR i h ws xs e us)) ∧ ρ 5 = .ptr rb 0 ∧ ρ 10 = u10 ∧ ρ 11 = .int .i64 e ∧ ρ 12 = la ∧ ρ 14 = v ∧ ρ 54 = u10 ∧ ρ 55 = .int .i64 h ∧ ρ 56 = .int .i64 (k : Nat)) ⟨0, .AN, Nat.zero_le _, rfl, BR.nil (List.prefix_refl _), h5, rfl, rfl, rfl, rfl, rfl, rfl, rfl⟩ ?_
 clear h5 h8
 clear ρ
 rintro _ ρ hp ⟨k, v, hk, rfl, hm, h5, h10, h11, h12, h14, h54, h55, h56⟩
 have l1 := q0 hp (p13.trans hm.1)
 refine goW ?_
 refine AE (fun hb => ?_) (fun hb => ?_)
 ·have hk' : k < h := by simpa using hb
  clear hb
  have hg1 := getD_some (xs := us) (k := k) (by omega)
  obtain ⟨b2, o2, _, hi2', rfl, _, hlo2, _⟩ := (hm10.sl.mono hm.1).get T27 rfl T3 rfl hg1
  have ho2 := AF T3 rfl hlo2
  have hg2 : ((ws.drop (h * (i + 1))).take h)[k]? = some (ws.getD (h * (i + 1) + k) 0) := by
   rw [List.getElem?_take, if_pos hk', List.getElem?_drop]
   exact getD_some (by rw [hs]; unfold BA; omega)
  obtain ⟨b3, o3, _, hi3, rfl, _, hlo3, _⟩ := (hla.mono hm.1).get T27 rfl T3 rfl hg2
  have ho3 := AF T3 rfl hlo3
  have c1 := Dh hp e (ws.getD (h * (i + 1) + k) 0)
  have c2 := Xz hp (us.getD k 0)
  have c3 := Dh hp (times e (ws.getD (h * (i + 1) + k) 0)) (RV (us.getD k 0))
  obtain ⟨d, hd⟩ : ∃ d, times (times e (ws.getD (h * (i + 1) + k) 0)) (RV (us.getD k 0)) = d := ⟨_, rfl⟩
  have hrow : CR i h ws xs e us k = xs.map (fun x => times d x) ++ [d] := by unfold CR; simp only [hd]
  rw [hd] at c3
  have hlen := ((hx.mono p03).mono hm.1).len T27 rfl
  rw [hxl'] at hlen
  have hw1 := AG (n := k) (by omega)
  have hout := Fg hrl k
  have hkm : k * (i + 1) ≤ 12 := Nat.le_trans (Nat.mul_le_mul_right _ (Nat.le_of_lt hk')) hsmall
  refine goW ?_
  refine AA c1 ?_
  refine goW ?_
  refine AA c2 ?_
  refine goW ?_
  refine AA c3 ?_
  refine goW ?_
  refine AT (fun c ρ hp => ∃ j v, j ≤ i ∧ c = i - j ∧ BR 1 AH H3 hp v ((List.range k).flatMap (CR i h ws xs e us) ++ (xs.take j).map (fun x => times d x)) ∧ ρ 5 = .ptr rb 0 ∧ ρ 10 = u10 ∧ ρ 11 = .int .i64 e ∧ ρ 12 = la ∧ ρ 14 = v ∧ ρ 17 = .int .i64 d ∧ ρ 54 = u10 ∧ ρ 55 = .int .i64 h ∧ ρ 56 = .int .i64 (k : Nat) ∧ ρ 71 = x ∧ ρ 72 = .int .i64 i ∧ ρ 73 = .int .i64 (j : Nat)) ⟨0, v, Nat.zero_le _, rfl, by simpa using hm, h5, h10, h11, h12, h14, rfl, h54, h55, h56, rfl, rfl, rfl⟩ ?_
  clear h5 h10 h11 h12 h14 h54 h55 h56 ho2 ho3 hi2' hi3 hlo2 hlo3 c1 c2 c3 hlen l1 hm
  clear ρ
  rintro _ ρ hp ⟨j, v, hj, rfl, hm, h5, h10, h11, h12, h14, h17, h54, h55, h56, h71, h72, h73⟩
  refine goW ?_
  refine AE (fun hb => ?_) (fun hb => ?_)
  ·have hj' : j < i := by simpa using hb
   clear hb
   have hg := getD_some (xs := xs) (k := j) (by omega)
   obtain ⟨b2, o2, _, hi2', rfl, _, hlo2, _⟩ := (hx.mono (p03.trans hm.1)).get T27 rfl T3 rfl hg
   have ho2 := AF T3 rfl hlo2
   have c1 := Dh hp d (xs.getD j 0)
   obtain ⟨v', H', n1, a1, m1⟩ := Gl hm (times d (xs.getD j 0)) (by simp [hout]; omega)
   have hnext : (List.range k).flatMap (CR i h ws xs e us) ++ (xs.take j).map (fun x => times d x) ++ [times d (xs.getD j 0)] = (List.range k).flatMap (CR i h ws xs e us) ++ (xs.take (j + 1)).map (fun x => times d x) := by
    rw [List.take_add_one, hg, List.append_assoc]; simp
   rw [hnext] at m1
   have hw2 := AG (n := j) (by omega)
   clear hnext hg hlo2 hm hw1 hout hkm hrow hd hrl
   refine goW ?_
   refine AA c1 ?_
   refine goW ?_
   refine EG n1 a1 ?_
   refine goW ?_
   refine ⟨i - (j + 1), by omega, j + 1, v', hj', rfl, m1, ?_⟩
   simp [AD, AB, *]
  ·have hj' : j = i := by have : ¬ j < i := by simpa using hb
                          omega
   subst hj'
   rw [List.take_of_length_le (by omega)] at hm
   obtain ⟨v', H', n1, a1, m1⟩ := Gl hm d (by simp [hout]; omega)
   rw [List.append_assoc, ← hrow, Ly] at m1
   clear hb hout hkm hrow hd hrl hm
   refine goW ?_
   refine EG n1 a1 ?_
   refine goW ?_
   refine ⟨h - (k + 1), by omega, k + 1, v', hk', rfl, m1, ?_⟩
   simp [AD, AB, *]
 ·have hk' : k = h := by have : ¬ k < h := by simpa using hb
                         omega
  subst hk'
  clear hb l1
  obtain ⟨u90, H5, c1, hm5⟩ := cT hp u10 us (hm10.sl.mono hm.1) (by omega)
  have hml := hm.pre hm5.1
  have hap : Fb v u90 := fun b1 c1 e1 e2 => by
   have a1 := hm.blk e1
   have a2 := hm5.blk e2
   omega
  have hlen := hm5.sl.len T27 rfl
  have hal : (FM us).length = k := by simp [FM, husl]
  rw [hal] at hlen
  have hsl := hm5.sl
  obtain ⟨al, has⟩ : ∃ al, FM us = al := ⟨_, rfl⟩
  rw [has] at hsl hal ⊢
  have hout := Fg hrl k
  refine goW ?_
  refine AA c1 ?_
  refine goW ?_
  refine AT (fun c ρ hp => ∃ j v, j ≤ k ∧ c = k - j ∧ BR 1 AH H3 hp v ((List.range k).flatMap (CR i k ws xs e us) ++ (al.take j).map (fun x => times e x)) ∧ Sl 1 AH hp u90 al ∧ Fb v u90 ∧ ρ 11 = .int .i64 e ∧ ρ 14 = v ∧ ρ 90 = u90 ∧ ρ 91 = .int .i64 k ∧ ρ 92 = .int .i64 (j : Nat)) ⟨0, v, Nat.zero_le _, rfl, by simpa using hml, hsl, hap, h11, h14, rfl, rfl, rfl⟩ ?_
  clear h5 h10 h11 h12 h14 h54 h55 h56 c1 hlen hm hml hsl hap hm5
  clear ρ
  rintro _ ρ hp ⟨j, v, hj, rfl, hm, hsl, hap, h11, h14, h90, h91, h92⟩
  refine goW ?_
  refine AE (fun hb => ?_) (fun hb => ?_)
  ·have hj' : j < k := by simpa using hb
   clear hb
   have hg := getD_some (xs := al) (k := j) (by omega)
   obtain ⟨b2, o2, _, hi2', rfl, _, hlo2, _⟩ := hsl.get T27 rfl T3 rfl hg
   have ho2 := AF T3 rfl hlo2
   have c1 := Dh hp e (al.getD j 0)
   obtain ⟨v', H', n1, a1, m1, s1, ap1⟩ := Sd hm hsl hap (times e (al.getD j 0)) (by simp [hout]; omega)
   have hnext : (List.range k).flatMap (CR i k ws xs e us) ++ (al.take j).map (fun x => times e x) ++ [times e (al.getD j 0)] = (List.range k).flatMap (CR i k ws xs e us) ++ (al.take (j + 1)).map (fun x => times e x) := by
    rw [List.take_add_one, hg, List.append_assoc]; simp
   rw [hnext] at m1
   have hw2 := AG (n := j) (by omega)
   clear hnext hg hlo2 hm hsl hap hout hrl
   refine goW ?_
   refine AA c1 ?_
   refine goW ?_
   refine EG n1 a1 ?_
   refine goW ?_
   refine ⟨k - (j + 1), by omega, j + 1, v', hj', rfl, m1, s1, ap1, ?_⟩
   simp [AD, AB, *]
  ·have hj' : j = k := by have : ¬ j < k := by simpa using hb
                          omega
   subst hj'
   rw [List.take_of_length_le (by omega)] at hm
   obtain ⟨v', H', n1, a1, m1⟩ := Gl hm e (by simp [hout]; omega)
   have m2 := m1.low p03
   rw [List.append_assoc] at m2
   clear hb hout hrl hm m1
   refine goW ?_
   refine EG n1 a1 ?_
   refine goW ?_
   refine AL (by simp only [resRf, resRs, resR]; first | done | rfl) ⟨v', ?_, m2⟩
   simp [AD, AB]
def Ts (G : List Int) (D : Nat → Prop) (out : List Int) : Prop := out.length = G.length ∧ ∀ p, D p → out[p]? = G[p]?
theorem Ts.put {G out : List Int} {D D' : Nat → Prop} {q : Nat} {v : Int} (h : Ts G D out) (hv : G[q]? = some v) (hd : ∀ p, D' p → D p ∨ p = q) : Ts G D' (out.set q v) := by
 refine ⟨by rw [List.length_set]; exact h.1, fun p hp => ?_⟩
 by_cases hq : q = p
 ·subst hq
  have : q < G.length := (List.getElem?_eq_some_iff.1 hv).1
  rw [List.getElem?_set_self (by rw [h.1]; exact this), hv]
 ·rw [List.getElem?_set_ne hq]
  rcases hd p hp with h1 | h1
  ·exact h.2 p h1
  ·exact absurd h1.symm hq
theorem Ts.all {G out : List Int} {D : Nat → Prop} (h : Ts G D out) (hd : ∀ p, p < G.length → D p) : out = G := by
 apply List.ext_getElem?
 intro p
 by_cases hp : p < G.length
 ·exact h.2 p (hd p hp)
 ·rw [List.getElem?_eq_none (by rw [h.1]; omega), List.getElem?_eq_none (by omega)]
theorem Nz {i h : Nat} {ws xs : List Int} {y : Int} (hx : xs.length = i) : (KT i h ws xs y).length = BA i h := by
 unfold KT
 have hrl : ∀ e us k, (CR i h ws xs e us k).length = i + 1 := fun e us k => by simp [CR, hx]
 simp only [List.length_append, Fg (hrl _ _), List.length_map, List.length_cons, List.length_nil, FM, Et, List.length_range]
 unfold BA; omega
theorem Rows.at {H : Heap} {v : V} {rs : List (List Int × Int)} (h : Rows H v rs) {k : Nat} {xs : List Int} {y : Int} (hk : rs[k]? = some (xs, y)) : ∃ b o x, idxV T 24 v (k : Int) = some (.ptr b o) ∧ loadV T 111 H b o = some (.agg [x, .int .i64 y]) ∧ loadV T 27 H b o = some x ∧ loadV T 3 H b (o + 1) = some (.int .i64 y) ∧ Sl 1 AH H x xs := by
 obtain ⟨rv, h1, h2, h3⟩ := h
 have hkl : k < rv.length := by rw [h2]; exact (List.getElem?_eq_some_iff.1 hk).1
 obtain ⟨⟨x, z⟩, hp⟩ : ∃ p, rv[k]? = some p := ⟨rv[k], by simp [hkl]⟩
 obtain ⟨hs, hz⟩ := h3 k _ _ hp hk
 obtain rfl : z = y := hz
 obtain ⟨b, o, _, hi, rfl, _, hlo, hlc⟩ := h1.get T24 rfl GD rfl hp
 exact ⟨b, o, x, hi, AZ GD rfl hlo, AF T27 rfl (hlc 0 _ rfl), AF T3 rfl (hlc 1 _ rfl), hs⟩
theorem SR {i h : Nat} {ws xs : List Int} {y : Int} (hx : xs.length = i) (hs : BA i h ≤ 16) : BF (KT i h ws xs y) = true := by
 have hl := Nz (h := h) (ws := ws) (y := y) hx
 simp only [BF, Bool.and_eq_true, decide_eq_true_eq, List.all_eq_true]
 refine ⟨by omega, fun b hb => ?_⟩
 unfold KT at hb
 simp only at hb
 rcases List.mem_append.1 hb with hb | hb
 ·obtain ⟨k, _, hk⟩ := List.mem_flatMap.1 hb
  unfold CR at hk
  rcases List.mem_append.1 hk with hk | hk
  ·obtain ⟨z, _, rfl⟩ := List.mem_map.1 hk
   exact Mc _ _
  ·simp at hk; subst hk; exact Mc _ _
 ·rcases List.mem_append.1 hb with hb | hb
  ·obtain ⟨z, _, rfl⟩ := List.mem_map.1 hb
   exact Mc _ _
  ·simp at hb; subst hb; exact JQ _ _
theorem Fo {s k b : Nat} (hb : 1 ≤ b) : DQ s k b < b := by
 unfold DQ
 have h := Ho s k
 have : Db s k * b ≤ 65535 * b := Nat.mul_le_mul_right _ (by omega)
 omega
theorem GN {t b : Nat} {i : TI} {H : Heap} {cs cells : List V} (hT : T t = some i) (hb : H[b]? = some (.row cs true)) (hl : cells.length = i.size) (hc : cs.length = i.size) : storeV T t H b 0 (.agg cells) = some (H.set b (.row cells true)) := by
 have e : storeV T t H b 0 (.agg cells) = if cells.length = i.size then H.storeN b 0 cells else none := by simp only [storeV, hT, V.cells]; rfl
 rw [e, if_pos hl]
 unfold Heap.storeN
 rw [hb]
 simp only
 rw [if_pos (by omega), GV (by omega)]
 have h1 : cs.drop (0 + cells.length) = [] := List.drop_eq_nil_of_le (by omega)
 rw [h1]
 simp
abbrev Ay : List V := [.AN, .AN, .int .i64 0, .int .i64 0, .int .i64 0]
theorem WD (c : Cfg) (q : Nat) (hq : q < c.rows.length) : ∃ xs y, c.rows[q]? = some (xs, y) := ⟨(c.rows[q]).1, (c.rows[q]).2, by simp [hq]⟩
theorem AX {c : Cfg} (h : Al c = true) : (2 ≤ c.m ∧ c.m ≤ 8) ∧ Ct c.i c.h c.rows = true ∧ (0 ≤ c.seed ∧ c.seed ≤ 65535) ∧ (1 ≤ c.total ∧ c.total ≤ 32) ∧ (1 ≤ c.interval ∧ c.interval ≤ 8) := by
 simp only [Al, Bool.and_eq_true, within_iff] at h
 exact ⟨h.1.1.1.1.1, h.1.1.1.1.2, h.1.1.1.2, h.1.1.2, h.1.2⟩
theorem Ca {i h : Int} {rs : List (List Int × Int)} (hh : Ct i h rs = true) : BL i h = true ∧ 1 ≤ rs.length ∧ rs.length ≤ 8 ∧ ∀ r ∈ rs, Dp i r = true := by
 simp only [Ct, Bool.and_eq_true, decide_eq_true_eq, List.all_eq_true] at hh
 exact ⟨hh.1.1, hh.1.2.1, hh.1.2.2, hh.2⟩
theorem Bo {ws vs : List Int} {r m t : Int} (h : CT ws vs r m t = true) : BF ws = true ∧ BF vs = true ∧ vs.length = ws.length ∧ 1 ≤ ws.length ∧ BK r m = true ∧ 0 ≤ t ∧ t ≤ 32 := by
 simp only [CT, alike, List.all_cons, List.all_nil, Bool.and_true, Bool.and_eq_true, decide_eq_true_eq] at h
 obtain ⟨⟨⟨⟨⟨⟨a, _⟩, b, c⟩, d⟩, e⟩, f⟩, g⟩ := h
 exact ⟨a, b, c, by omega, e, by omega, g⟩
def PG (c : Cfg) (id t : Int) : Nat := DQ c.seed.toNat (4096 * id.toNat + t.toNat) c.rows.length
def FJ (c : Cfg) (id : Int) (ws : List Int) (t : Int) : List Int := match c.rows[PG c id t]? with
 | some (xs, y) => KT c.i.toNat c.h.toNat ws xs y
 | none => []
theorem ZK (H : Heap) (c : Cfg) (rv w v : V) (ws vs : List Int) (id r m t : Int) (hr : Rows H rv c.rows) (hw : Sl 1 AH H w ws) (hv : Sl 1 AH H v vs) (hc : Al c = true) (hid : 0 ≤ id ∧ id < c.m) (hf : BI c.i c.h ws vs r m t = true) (ht : t < c.total) :
  ∃ u1 u2 H' b1 b2, Call Tryz.prog 93 [.agg (BJ c rv), .int .i64 id, .agg (Cb w v r m t)] H (.tup [.agg (Cb u1 u2 r m (t + 1)), .int .i64 0]) H' ∧ H <+: H' ∧ H.length ≤ b1 ∧ H.length ≤ b2 ∧ b1 ≠ b2 ∧ Own 1 AH H' b1 u1 (IC r m ws vs (FJ c id ws t)) ∧ Own 1 AH H' b2 u2 (FY m ws vs (FJ c id ws t)) := by
 suffices hgoal : ∃ u H', (∃ u1 u2 b1 b2, u = .tup [.agg (Cb u1 u2 r m (t + 1)), .int .i64 0] ∧ H <+: H' ∧ H.length ≤ b1 ∧ H.length ≤ b2 ∧ b1 ≠ b2 ∧ Own 1 AH H' b1 u1 (IC r m ws vs (FJ c id ws t)) ∧ Own 1 AH H' b2 u2 (FY m ws vs (FJ c id ws t))) ∧ Call Tryz.prog 93 [.agg (BJ c rv), .int .i64 id, .agg (Cb w v r m t)] H u H' by
  obtain ⟨_, H', ⟨u1, u2, b1, b2, rfl, h1⟩, h2⟩ := hgoal
  exact ⟨u1, u2, H', b1, b2, h2, h1⟩
 refine CY fit mixed Tryz.func93 rfl rfl rfl (by kernel_rfl) ?_
 have hf' := hf
 simp only [BI, Bool.and_eq_true] at hf'
 obtain ⟨hchk, hfit⟩ := hf'
 obtain ⟨hvw, hvv, hlv, hlw1, hhy, ht0, ht32⟩ := Bo hchk
 obtain ⟨hm2, hloss, hseed, htot, _⟩ := AX hc
 obtain ⟨_, hr1, hr8, hrok⟩ := Ca hloss
 have hlw := BP hvw
 obtain ⟨H1, hH1⟩ : ∃ H1, H ++ [.row (BJ c rv) true] = H1 := ⟨_, rfl⟩
 obtain ⟨H2, hH2⟩ : ∃ H2, H1 ++ [.row (Cb w v r m t) true] = H2 := ⟨_, rfl⟩
 obtain ⟨H3, hH3⟩ : ∃ H3, H2 ++ [.row Ay true] = H3 := ⟨_, rfl⟩
 have p1 : H <+: H1 := by rw [← hH1]; exact List.prefix_append _ _
 have p2 : H1 <+: H2 := by rw [← hH2]; exact List.prefix_append _ _
 have p3 : H2 <+: H3 := by rw [← hH3]; exact List.prefix_append _ _
 have p03 : H <+: H3 := p1.trans (p2.trans p3)
 have n1 : H.length < H1.length := by rw [← hH1]; simp
 have n2 : H1.length < H2.length := by rw [← hH2]; simp
 have n3 : H2.length < H3.length := by rw [← hH3]; simp
 have gc : H3[H.length]? = some (.row (BJ c rv) true) := CM (p2.trans p3) (by rw [← hH1]; simp)
 have gk : H3[H1.length]? = some (.row (Cb w v r m t) true) := CM p3 (by rw [← hH2]; simp)
 have gz : H3[H2.length]? = some (.row Ay true) := by rw [← hH3]; simp
 have c1 := Dw H3 c rv (hr.mono p03) (by omega) (fun rr hrr => by
  have := hrok rr hrr
  simp only [Dp, Bool.and_eq_true] at this
  have := BP (CC this.1).2
  omega)
 rw [hc] at c1
 have c2 := IV H3 H.length c.m id (by unfold Heap.loadN; rw [gc]; rfl)
 rw [within_iff.2 ⟨hid.1, by rw [wrap_i64 (by omega) (by omega)]; omega⟩] at c2
 have c3 := Sp H3 H.length H1.length c rv w v ws vs r m t gc gk (hw.mono p03) (hv.mono p03) (by omega) (by omega)
 rw [hf] at c3
 have lc := Fx T26 rfl gc rfl
 have lt := AU (q := 4) T3 rfl gk rfl
 have ltot := AU (q := 5) T3 rfl gc rfl
 have dt : decide (t ≥ c.total) = false := decide_eq_false (by omega)
 -- the sample
 obtain ⟨s, hs⟩ : ∃ s : Nat, c.seed = s := ⟨c.seed.toNat, by omega⟩
 obtain ⟨d, hd⟩ : ∃ d : Nat, id = d := ⟨id.toNat, by omega⟩
 obtain ⟨tt, htt⟩ : ∃ tt : Nat, t = tt := ⟨t.toNat, by omega⟩
 obtain ⟨q, hq⟩ : ∃ q, PG c id t = q := ⟨_, rfl⟩
 have hq' : DQ s (4096 * d + tt) c.rows.length = q := by rw [← hq]; unfold PG; rw [hs, hd, htt]; rfl
 have hql : q < c.rows.length := by rw [← hq']; exact Fo hr1
 have c4 := Ux H3 s d tt c.rows.length (by omega) (by omega) (by omega) hr1 hr8
 rw [hq', ← hs, ← hd, ← htt] at c4
 have lseed := AU (q := 4) T3 rfl gc rfl
 have lrows := AU (q := 3) T24 rfl gc rfl
 obtain ⟨rvv, hrv, hrl, _⟩ := hr.mono p03
 have hlen := hrv.len T24 rfl
 rw [hrl] at hlen
 -- the gradient
 obtain ⟨xs, y, hxy⟩ := WD c q hql
 obtain ⟨b0, o0, x, hi0, hl0, _, _, hx⟩ := (hr.mono p03).at hxy
 have hro := hrok _ (List.mem_iff_getElem?.2 ⟨q, hxy⟩)
 simp only [Dp, Bool.and_eq_true] at hro
 obtain ⟨_, _, i', h', hi', hh', hi1, hi2, hh1, hh2, hsz⟩ := Ej hfit
 have hxl : xs.length = i' := by have := (CC hro.1).1; omega
 obtain ⟨gu, H4, c5, m4⟩ := Wk H3 i' h' y w x ws xs (hw.mono p03) hx (by rw [← hi', ← hh']; exact hfit) (by rw [← hi']; exact hro.1) hro.2
 rw [← hi', ← hh'] at c5
 have hG : FJ c id ws t = KT i' h' ws xs y := by unfold FJ; rw [hq, hxy]; simp only [hi', hh', Int.toNat_natCast]
 rw [hG]
 have hns := Cr hi2 hh2
 have hsz16 : BA i' h' ≤ 16 := by rw [← hsz]; exact hlw
 have hgm := SR (ws := ws) (y := y) (h := h') hxl hsz16
 have hgl := Nz (h := h') (ws := ws) (y := y) hxl
 have p34 := m4.1
 have p04 := p03.trans p34
 have lsh : loadV T 23 H3 H.length 1 = some (.agg [.int .i64 c.i, .int .i64 c.h]) := by
  refine AZ T23 rfl ?_
  unfold Heap.loadN
  rw [gc]; rfl
 have lws := AU (q := 0) T27 rfl gk rfl
 have gk4 := CM p34 gk
 have lws4 := AU (q := 0) T27 rfl gk4 rfl
 have lvs4 := AU (q := 1) T27 rfl gk4 rfl
 have lhy4 : loadV T 80 H4 H1.length 2 = some (.agg [.int .i64 r, .int .i64 m]) := by
  refine AZ T80 rfl ?_
  unfold Heap.loadN
  rw [gk4]; rfl
 obtain ⟨u1, u2, H5, b1, b2, c6, p45, hb1, hb2, hb12, o1, o2⟩ := ZM H4 w v gu ws vs _ r m (hw.mono p04) (hv.mono p04) m4.sl (by simp [alike, hvw, hvv, hgm, hlv, hgl, hsz]) hhy
 have gk5 := CM p45 gk4
 have gz5 := CM p45 (CM p34 gz)
 have lt5 := AU (q := 4) T3 rfl gk5 rfl
 have lhy5 : loadV T 80 H5 H1.length 2 = some (.agg [.int .i64 r, .int .i64 m]) := by
  refine AZ T80 rfl ?_
  unfold Heap.loadN
  rw [gk5]; rfl
 have wt : IntKind.i64.wrap (t + 1) = t + 1 := wrap_i64 (by omega) (by omega)
 have hu1 := o1.sl.two
 have hu2 := o2.sl.two
 have hst := GN (cells := Cb u1 u2 r m (t + 1)) T82 gz5 rfl rfl
 obtain ⟨H6, hH6⟩ : ∃ H6, H5.set H2.length (.row (Cb u1 u2 r m (t + 1)) true) = H6 := ⟨_, rfl⟩
 rw [hH6] at hst
 have l34 := p34.length_le
 have l45 := p45.length_le
 have g6 : H6[H2.length]? = some (.row (Cb u1 u2 r m (t + 1)) true) := by rw [← hH6, List.getElem?_set_self (by omega)]
 have p06 : H <+: H6 := by rw [← hH6]; exact Jk (p04.trans p45) (by omega)
 have o16 : Own 1 AH H6 b1 u1 _ := Fr.own (b := H2.length) (H := H5) ⟨by rw [← hH6]; simp, fun b' _ hne => by rw [← hH6, List.getElem?_set_ne (fun h => hne h.symm)]⟩ (by omega) o1
 have o26 : Own 1 AH H6 b2 u2 _ := Fr.own (b := H2.length) (H := H5) ⟨by rw [← hH6]; simp, fun b' _ hne => by rw [← hH6, List.getElem?_set_ne (fun h => hne h.symm)]⟩ (by omega) o2
 have ln6 : Heap.loadN H6 H2.length 0 5 = some (Cb u1 u2 r m (t + 1)) := by unfold Heap.loadN; rw [g6]; rfl
 have hbb1 : H.length ≤ b1 := by omega
 have hbb2 : H.length ≤ b2 := by omega
 clear hid ht hm2 hseed htot ht0 ht32 hlw1 hr1 hr8 n1 n2 n3 l34 l45 hql hsz16 hns hi1 hi2 hh1 hh2 hlw
 clear hf hchk hfit hvw hvv hlv hhy hc hloss hrok hr hw hv gc gk gz gk4 gk5 gz5 g6 o1 o2 hrv hrl hx hro hi' hh' hgm hgl m4 hG hs hd htt hq hq' hsz hxl hxy
 rcases hu1 with rfl | ⟨_, _, _, _, _, _, rfl⟩ <;> rcases hu2 with rfl | ⟨_, _, _, _, _, _, rfl⟩
 all_goals
  refine goW ?_
  refine Bb (h' := H3) (by rw [← hH3, ← hH2, ← hH1]) ?_
  rw [hH1, hH2]
  refine goW ?_
  refine AA c1 ?_
  refine goW ?_
  refine AA c2 ?_
  refine goW ?_
  refine AA c3 ?_
  refine goW ?_
  refine AE (fun hb => ?_) (fun hb => ?_)
  ·cases hb
  clear hb c1 c2 c3
  refine goW ?_
  refine AE (fun hb => ?_) (fun hb => ?_)
  ·cases hb
  clear hb
  refine Kl (fun ρ => ρ 1 = .int .i64 id ∧ ρ 3 = .ptr H.length 0 ∧ ρ 5 = .ptr H1.length 0 ∧ ρ 6 = .ptr H2.length 0) ⟨rfl, rfl, rfl, rfl⟩ ?_
  rintro ρ ⟨h1, h3, h5, h6⟩
  refine goW ?_
  refine AA c4 ?_
  refine goW ?_
  refine Be c5 (.inl p34) ?_
  refine goW ?_
  refine AA c6 ?_
  refine goW ?_
  refine BC (Eg eLk eLk hst) ?_
  refine goW ?_
  refine AL (v := .tup [.agg (Cb _ _ r m (t + 1)), .int .i64 0]) ?_ ⟨_, _, b1, b2, rfl, p06, hbb1, hbb2, hb12, o16, o26⟩
  simp only [resRf, resRs, resR, AD, AB, Nat.reduceEqDiff, reduceIte, Option.some.injEq, reduceCtorEq, h6, T82, ln6]
  rfl
theorem bN (H : Heap) (c : Cfg) (rv w v : V) (ws vs : List Int) (id r m t e : Int) (hr : Rows H rv c.rows) (hw : Sl 1 AH H w ws) (hv : Sl 1 AH H v vs) (lr : c.rows.length ≤ 2 ^ 47) (lr2 : ∀ r ∈ c.rows, r.1.length ≤ 2 ^ 47) (lw : ws.length ≤ 2 ^ 47) (lv : vs.length ≤ 2 ^ 47)
  (he : ((Al c && within id 0 (IntKind.i64.wrap (c.m - 1)) && BI c.i c.h ws vs r m t) = false ∧ e = 2100) ∨ ((Al c && within id 0 (IntKind.i64.wrap (c.m - 1)) && BI c.i c.h ws vs r m t) = true ∧ decide (t ≥ c.total) = true ∧ e = 2101)) :
  Call Tryz.prog 93 [.agg (BJ c rv), .int .i64 id, .agg (Cb w v r m t)] H (.tup [.agg Ay, .int .i64 e]) H := by
 suffices hgoal : ∃ u H', (u = .tup [.agg Ay, .int .i64 e] ∧ H <+: H') ∧ Call Tryz.prog 93 [.agg (BJ c rv), .int .i64 id, .agg (Cb w v r m t)] H u H' by
  obtain ⟨_, H', ⟨rfl, h1⟩, h2⟩ := hgoal
  exact h2.forget h1 rfl
 refine CY fit mixed Tryz.func93 rfl rfl rfl (by kernel_rfl) ?_
 obtain ⟨H1, hH1⟩ : ∃ H1, H ++ [.row (BJ c rv) true] = H1 := ⟨_, rfl⟩
 obtain ⟨H2, hH2⟩ : ∃ H2, H1 ++ [.row (Cb w v r m t) true] = H2 := ⟨_, rfl⟩
 obtain ⟨H3, hH3⟩ : ∃ H3, H2 ++ [.row Ay true] = H3 := ⟨_, rfl⟩
 have p1 : H <+: H1 := by rw [← hH1]; exact List.prefix_append _ _
 have p2 : H1 <+: H2 := by rw [← hH2]; exact List.prefix_append _ _
 have p3 : H2 <+: H3 := by rw [← hH3]; exact List.prefix_append _ _
 have p03 : H <+: H3 := p1.trans (p2.trans p3)
 have gc : H3[H.length]? = some (.row (BJ c rv) true) := CM (p2.trans p3) (by rw [← hH1]; simp)
 have gk : H3[H1.length]? = some (.row (Cb w v r m t) true) := CM p3 (by rw [← hH2]; simp)
 have gz : H3[H2.length]? = some (.row Ay true) := by rw [← hH3]; simp
 have c1 := Dw H3 c rv (hr.mono p03) lr lr2
 have c2 := IV H3 H.length c.m id (by unfold Heap.loadN; rw [gc]; rfl)
 have c3 := Sp H3 H.length H1.length c rv w v ws vs r m t gc gk (hw.mono p03) (hv.mono p03) lw lv
 have lc := Fx T26 rfl gc rfl
 have lt := AU (q := 4) T3 rfl gk rfl
 have ltot := AU (q := 5) T3 rfl gc rfl
 have hst := GN (cells := Ay) T82 gz rfl rfl
 obtain ⟨H4, hH4⟩ : ∃ H4, H3.set H2.length (.row Ay true) = H4 := ⟨_, rfl⟩
 rw [hH4] at hst
 have hlt := (List.getElem?_eq_some_iff.1 gz).1
 have ln4 : Heap.loadN H4 H2.length 0 5 = some Ay := by unfold Heap.loadN; rw [← hH4, List.getElem?_set_self hlt]; rfl
 have p04 : H <+: H4 := by rw [← hH4]; exact Jk p03 (p1.trans p2).length_le
 clear gc gk gz hr hw hv lr lr2 lw lv hlt p1 p2 p3 hH4
 obtain ⟨r1, e1⟩ : ∃ q, Al c = q := ⟨_, rfl⟩
 obtain ⟨r2, e2⟩ : ∃ q, within id 0 (IntKind.i64.wrap (c.m - 1)) = q := ⟨_, rfl⟩
 obtain ⟨r3, e3⟩ : ∃ q, BI c.i c.h ws vs r m t = q := ⟨_, rfl⟩
 rw [e1, e2, e3] at he
 rw [e1] at c1
 rw [e2] at c2
 rw [e3] at c3
 clear e1 e2 e3
 cases r1
 ·obtain rfl : e = 2100 := by rcases he with ⟨_, h⟩ | ⟨h, _⟩; exact h; cases h
  clear he
  refine goW ?_
  refine Bb (h' := H3) (by rw [← hH3, ← hH2, ← hH1]) ?_
  rw [hH1, hH2]
  refine goW ?_
  refine AA c1 ?_
  refine goW ?_
  refine AE (fun hb => ?_) (fun hb => ?_)
  ·refine goW ?_
   refine AL (v := .tup [.agg Ay, .int .i64 2100]) ?_ ⟨rfl, p04⟩
   simp only [resRf, resRs, resR, AD, AB, Nat.reduceEqDiff, reduceIte, Option.some.injEq, reduceCtorEq, T82, ln4]
   rfl
  ·cases hb
 cases r2
 ·obtain rfl : e = 2100 := by rcases he with ⟨_, h⟩ | ⟨h, _⟩; exact h; cases h
  clear he
  refine goW ?_
  refine Bb (h' := H3) (by rw [← hH3, ← hH2, ← hH1]) ?_
  rw [hH1, hH2]
  refine goW ?_
  refine AA c1 ?_
  refine goW ?_
  refine AA c2 ?_
  refine goW ?_
  refine AE (fun hb => ?_) (fun hb => ?_)
  ·refine goW ?_
   refine AL (v := .tup [.agg Ay, .int .i64 2100]) ?_ ⟨rfl, p04⟩
   simp only [resRf, resRs, resR, AD, AB, Nat.reduceEqDiff, reduceIte, Option.some.injEq, reduceCtorEq, T82, ln4]
   rfl
  ·cases hb
 cases r3
 ·obtain rfl : e = 2100 := by rcases he with ⟨_, h⟩ | ⟨h, _⟩; exact h; cases h
  clear he
  refine goW ?_
  refine Bb (h' := H3) (by rw [← hH3, ← hH2, ← hH1]) ?_
  rw [hH1, hH2]
  refine goW ?_
  refine AA c1 ?_
  refine goW ?_
  refine AA c2 ?_
  refine goW ?_
  refine AA c3 ?_
  refine goW ?_
  refine AE (fun hb => ?_) (fun hb => ?_)
  ·refine goW ?_
   refine AL (v := .tup [.agg Ay, .int .i64 2100]) ?_ ⟨rfl, p04⟩
   simp only [resRf, resRs, resR, AD, AB, Nat.reduceEqDiff, reduceIte, Option.some.injEq, reduceCtorEq, T82, ln4]
   rfl
  ·cases hb
 obtain ⟨hd, rfl⟩ : decide (t ≥ c.total) = true ∧ e = 2101 := by
  rcases he with ⟨h, _⟩ | ⟨_, h1, h2⟩
  ·cases h
  ·exact ⟨h1, h2⟩
 clear he
 refine goW ?_
 refine Bb (h' := H3) (by rw [← hH3, ← hH2, ← hH1]) ?_
 rw [hH1, hH2]
 refine goW ?_
 refine AA c1 ?_
 refine goW ?_
 refine AA c2 ?_
 refine goW ?_
 refine AA c3 ?_
 refine goW ?_
 refine AE (fun hb => ?_) (fun hb => ?_)
 ·cases hb
 clear hb
 refine goW ?_
 refine AE (fun hb => ?_) (fun hb => ?_)
 ·refine goW ?_
  refine AL (v := .tup [.agg Ay, .int .i64 2101]) ?_ ⟨rfl, p04⟩
  simp only [resRf, resRs, resR, AD, AB, Nat.reduceEqDiff, reduceIte, Option.some.injEq, reduceCtorEq, T82, ln4]
  rfl
 ·cases hb
theorem DY (H : Heap) (x a b : Int) : Call Tryz.prog 87 [.int .i64 x, .int .i64 a, .int .i64 b] H (.bool (within x a b)) H := by
 refine AJ fit mixed Tryz.func87 rfl rfl rfl (by kernel_rfl) rfl ?_
 repeat' (first | (refine Bs ?_; refine CH ?_) | (refine Bz ?_; refine CZ ?_) | (refine CG ?_; first | refine BO ?_ | refine At ?_) | (refine CF ?_; first | refine BS ?_ | refine Aw ?_) | refine AO ?_ | refine AK ?_ | refine Ae (by decide +kernel) ?_ | refine AW ?_ | refine BN ?_ | refine BM ?_ | refine Ah ?_ | refine As ?_ | refine Ag ?_ | refine AR ?_ | refine Ar ?_ | refine Ad ?_ | refine AS ?_ | refine Aq ?_ | refine Ac ?_ | refine AV rfl ?_ | first | refine Br (fun hb => ?_) (fun hb => ?_) | refine Bp (fun hb => ?_) (fun hb => ?_))
 all_goals refine Ai ?_; simp [AD, AB, *]
 all_goals simp_all [within]
 all_goals (first | done | omega)
theorem Sm {i h : Int} {rs : List (List Int × Int)} {xs : List Int} {y : Int} {k : Nat} (hk : rs[k]? = some (xs, y)) (hbad : (BL i h && Dz i xs && CA y) = false) : Ct i h rs = false := by
 cases hl : Ct i h rs with
 | false => rfl
 | true =>
  obtain ⟨h1, _, _, h4⟩ := (by
   simp only [Ct, Bool.and_eq_true, decide_eq_true_eq, List.all_eq_true] at hl
   exact ⟨hl.1.1, hl.1.2.1, hl.1.2.2, hl.2⟩ : BL i h = true ∧ 1 ≤ rs.length ∧ rs.length ≤ 8 ∧ ∀ r ∈ rs, Dp i r = true)
  have := h4 _ (List.mem_iff_getElem?.2 ⟨k, hk⟩)
  simp only [Dp, Bool.and_eq_true] at this
  rw [h1, this.1, this.2] at hbad
  cases hbad
theorem Mw (H : Heap) (i h : Int) (v : V) (rs : List (List Int × Int)) (hr : Rows H v rs) (hl : rs.length ≤ 2 ^ 47) (hxl : ∀ r ∈ rs, r.1.length ≤ 2 ^ 47) : Call Tryz.prog 88 [.agg [.int .i64 i, .int .i64 h], v] H (.bool (Ct i h rs)) H := by
 refine AJ fit mixed Tryz.func88 rfl rfl rfl (by kernel_rfl) rfl ?_
 obtain ⟨H1, hH1⟩ : ∃ H1, H ++ [.row [.int .i64 i, .int .i64 h] true] = H1 := ⟨_, rfl⟩
 have p1 : H <+: H1 := by rw [← hH1]; exact List.prefix_append _ _
 have hs : H1.loadN H.length 0 2 = some [.int .i64 i, .int .i64 h] := by rw [← hH1, Ab]; rfl
 have l0 : loadV T 23 H1 H.length 0 = some (.agg [.int .i64 i, .int .i64 h]) := AZ T23 rfl hs
 obtain ⟨rv, hrv, hrl, hrr⟩ := hr.mono p1
 have hlen := hrv.len T24 rfl
 rw [hrl] at hlen
 have c1 := GL H1 i h
 have c2 := DM H1 rs.length 1 8
 clear hs hr
 refine goW ?_
 refine cR (h' := H1) hH1 ?_
 refine AT (fun c ρ hp => ∃ k, k ≤ rs.length ∧ c = rs.length - k ∧ hp = H1 ∧ (∀ (j : Nat) xs y, j < k → rs[j]? = some (xs, y) → (BL i h && Dz i xs && CA y) = true) ∧ ρ 1 = v ∧ ρ 2 = .ptr H.length 0 ∧ ρ 5 = .int .i64 (k : Nat)) ⟨0, Nat.zero_le _, rfl, rfl, by intro j xs y hj; omega, rfl, rfl, rfl⟩ ?_
 rintro _ ρ hp ⟨k, hk, rfl, hpe, hgood, h1, h2, h5⟩
 subst hpe
 refine goW ?_
 refine AE (fun hb => ?_) (fun hb => ?_)
 ·have hk' : k < rs.length := by simpa using hb
  clear hb c1 c2
  obtain ⟨⟨x, y⟩, hpk⟩ : ∃ p, rv[k]? = some p := ⟨rv[k]'(by omega), by simp⟩
  obtain ⟨⟨xs, y'⟩, hxk⟩ : ∃ x, rs[k]? = some x := ⟨rs[k], by simp [hk']⟩
  obtain ⟨s1, e1⟩ := hrr k _ _ hpk hxk
  obtain rfl : y = y' := e1
  obtain ⟨b2, o, _, hi, rfl, _, hlo, _⟩ := hrv.get T24 rfl GD rfl hpk
  have ho : loadV T 111 hp b2 o = some (.agg [x, .int .i64 y]) := AZ GD rfl hlo
  have hw := AG (n := k) (by omega)
  have c3 := Ob hp i h y x xs s1 (hxl _ (List.mem_iff_getElem?.2 ⟨k, hxk⟩))
  obtain ⟨q, hq⟩ : ∃ q, (BL i h && Dz i xs && CA y) = q := ⟨_, rfl⟩
  rw [hq] at c3
  cases q
  ·have hfin := Sm hxk hq
   clear hgood hxk hpk hlo s1 hrr hq hxl hH1
   refine goW ?_
   refine AI c3 ?_
   refine goW ?_
   refine AE (fun hb => ?_) (fun hb => ?_)
   ·refine goW ?_
    refine AL (by simp only [resRf, resRs, resR]; first | done | rfl) ⟨?_, p1⟩
    rw [hfin]
    simp [AD, AB]
   ·cases hb
  ·have hall : ∀ (j : Nat) ys z, j < k + 1 → rs[j]? = some (ys, z) → (BL i h && Dz i ys && CA z) = true := fun j ys z hj hy => by
    by_cases hjk : j = k
    ·subst hjk; rw [hxk] at hy; cases hy; exact hq
    ·exact hgood j ys z (by omega) hy
   clear hgood hxk hpk hlo s1 hrr hq hxl hH1
   refine goW ?_
   refine AI c3 ?_
   refine goW ?_
   refine AE (fun hb => ?_) (fun hb => ?_)
   ·cases hb
   ·refine goW ?_
    refine ⟨rs.length - (k + 1), by omega, k + 1, hk', rfl, rfl, hall, ?_⟩
    simp [AD, AB, *]
 ·have hk' : k = rs.length := by have : ¬ k < rs.length := by simpa using hb
                                 omega
  have hw8 : within (rs.length : Int) 1 8 = (decide (1 ≤ rs.length) && decide (rs.length ≤ 8)) := by
   apply Bool.eq_iff_iff.2; simp [within]; omega
  have hfin : Ct i h rs = (BL i h && (decide (1 ≤ rs.length) && decide (rs.length ≤ 8))) := by
   unfold Ct
   cases hsm : BL i h with
   | false => simp
   | true =>
    have hall : rs.all (Dp i) = true := List.all_eq_true.2 fun r hr => by
     obtain ⟨j, hj⟩ := List.mem_iff_getElem?.1 hr
     have := hgood j r.1 r.2 (by have := (List.getElem?_eq_some_iff.1 hj).1; omega) hj
     rw [hsm] at this
     simpa [Dp] using this
    rw [hall]; simp
  rw [hw8] at c2
  rw [hfin]
  obtain ⟨q, hq⟩ : ∃ q, (decide (1 ≤ rs.length) && decide (rs.length ≤ 8)) = q := ⟨_, rfl⟩
  obtain ⟨r1, e1⟩ : ∃ q, BL i h = q := ⟨_, rfl⟩
  rw [hq] at c2 ⊢
  rw [e1] at c1 ⊢
  clear hb hgood hrr hfin hw8 hq e1 hk' hxl hH1
  refine goW ?_
  refine AA c1 ?_
  cases r1
  ·refine goW ?_
   refine AL (by simp only [resRf, resRs, resR]; first | done | rfl) ⟨?_, p1⟩
   simp [AD, AB]
  ·refine goW ?_
   refine AA c2 ?_
   refine goW ?_
   refine AL (by simp only [resRf, resRs, resR]; first | done | rfl) ⟨?_, p1⟩
   simp [AD, AB]
theorem EA (H : Heap) (c : Cfg) (rv : V) (hr : Rows H rv c.rows) (hl : c.rows.length ≤ 2 ^ 47) (hxl : ∀ r ∈ c.rows, r.1.length ≤ 2 ^ 47) : Call Tryz.prog 40 [.agg (BJ c rv)] H (.bool (Al c)) H := by
 refine AJ fit mixed Tryz.func40 rfl rfl rfl (by kernel_rfl) rfl ?_
 obtain ⟨H1, hH1⟩ : ∃ H1, H ++ [.row (BJ c rv) true] = H1 := ⟨_, rfl⟩
 have p1 : H <+: H1 := by rw [← hH1]; exact List.prefix_append _ _
 have hg : H1[H.length]? = some (.row (BJ c rv) true) := by rw [← hH1]; simp
 have l0 := AU (q := 0) T3 rfl hg rfl
 have l3 := AU (q := 3) T24 rfl hg rfl
 have l4 := AU (q := 4) T3 rfl hg rfl
 have l5 := AU (q := 5) T3 rfl hg rfl
 have l6 := AU (q := 6) T3 rfl hg rfl
 have l7 := AU (q := 7) T3 rfl hg rfl
 have l1 : loadV T 23 H1 H.length 1 = some (.agg [.int .i64 c.i, .int .i64 c.h]) := by
  refine AZ T23 rfl ?_
  rw [← hH1, Ab]; rfl
 have c1 := DY H1 c.m 2 8
 have c2 := Mw H1 c.i c.h rv c.rows (hr.mono p1) hl hxl
 have c3 := DY H1 c.seed 0 65535
 have c4 := DY H1 c.total 1 32
 have c5 := DY H1 c.interval 1 8
 have c6 := DY H1 c.cutn 1 (IntKind.i64.wrap (c.m.tdiv 2))
 unfold Al
 obtain ⟨r1, e1⟩ : ∃ r, within c.m 2 8 = r := ⟨_, rfl⟩
 obtain ⟨r2, e2⟩ : ∃ r, Ct c.i c.h c.rows = r := ⟨_, rfl⟩
 obtain ⟨r3, e3⟩ : ∃ r, within c.seed 0 65535 = r := ⟨_, rfl⟩
 obtain ⟨r4, e4⟩ : ∃ r, within c.total 1 32 = r := ⟨_, rfl⟩
 obtain ⟨r5, e5⟩ : ∃ r, within c.interval 1 8 = r := ⟨_, rfl⟩
 rw [e1] at c1 ⊢
 rw [e2] at c2 ⊢
 rw [e3] at c3 ⊢
 rw [e4] at c4 ⊢
 rw [e5] at c5 ⊢
 clear e1 e2 e3 e4 e5 hr hl hxl hg
 refine goW ?_
 refine Bb (h' := H1) hH1 ?_
 refine goW ?_
 refine AA c1 ?_
 cases r1
 ·refine goW ?_
  refine AL (by simp only [resRf, resRs, resR]; first | done | rfl) ⟨?_, p1⟩
  simp [AD, AB]
 refine goW ?_
 refine AA c2 ?_
 cases r2
 ·refine goW ?_
  refine AL (by simp only [resRf, resRs, resR]; first | done | rfl) ⟨?_, p1⟩
  simp [AD, AB]
 refine goW ?_
 refine AA c3 ?_
 cases r3
 ·refine goW ?_
  refine AL (by simp only [resRf, resRs, resR]; first | done | rfl) ⟨?_, p1⟩
  simp [AD, AB]
 refine goW ?_
 refine AA c4 ?_
 cases r4
 ·refine goW ?_
  refine AL (by simp only [resRf, resRs, resR]; first | done | rfl) ⟨?_, p1⟩
  simp [AD, AB]
 refine goW ?_
 refine AA c5 ?_
 cases r5
 ·refine goW ?_
  refine AL (by simp only [resRf, resRs, resR]; first | done | rfl) ⟨?_, p1⟩
  simp [AD, AB]
 refine goW ?_
 refine AA c6 ?_
 refine goW ?_
 refine AL (by simp only [resRf, resRs, resR]; first | done | rfl) ⟨?_, p1⟩
 simp [AD, AB]
end Go.Proofs.YtncjbjlmgnjhiaaGreat.VM
